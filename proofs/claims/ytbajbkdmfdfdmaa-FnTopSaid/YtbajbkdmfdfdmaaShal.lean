/-
  What the functions compute, as plain functions (printed by gen2.py).
-/
import Derived.Test.YtbajbkdmfdfdmaaVGen
set_option linter.unusedVariables false
set_option linter.unusedSimpArgs false
namespace Go.Proofs.Ytbajbkdmfdfdmaa
open Go Ev
noncomputable section
def f_l_big_k {R : Type} (code0 : List Sc) (kR : Bool → Option R) : Option R :=
  kR (decide ((code0.length : Int) > 1048576))
def f_l_big (code0 : List Sc) : Option (Bool) := f_l_big_k code0 some

def f_s_l1New_k0 {R : Type} (code0 : List Sc) (h3 : Int) (i4 : Int) (kN : Int × Int → Option R) (kA : Int → Option R) : Option R :=
  br ((decide (i4 < (code0.length : Int))) == true)
    (br ((decide (i4 < 4000)))
      (br (okZ (.n .u8 0) code0 i4)
        (kN ((and64 (w64 ((w64 ((w64 (h3 * 131)) + (w64 (sAt code0 .u8 i4)))) + 7)) 1073741823), (w64 (i4 + 1))))
        none)
      (kA h3))
    (kA h3)
def f_s_l1New_r0 (code0 : List Sc) : (Int × Int) → Option (Ro (Int × Int) (Int) (Unit)) := fun s => f_s_l1New_k0 code0 s.1 s.2 (fun s => some (.again s)) (fun e => some (.one e))
def f_s_l1New_k {R : Type} (code0 : List Sc) (kR : List Sc × Int × Int → Option R) : Option R :=
  bl1 (loopL (f_s_l1New_r0 code0) ((w64 (10101 + (code0.length : Int))), 0)) 0 fun e1 =>
  kR (code0, 0, e1)
def f_s_l1New (code0 : List Sc) : Option (List Sc × Int × Int) := f_s_l1New_k code0 some

def f_s_l1Byte_io_k {R : Type} (h0 : List Sc) (h1 : Int) (h2 : Int) (kR : Int × List Sc × Int × Int → Option R) : Option R :=
  br ((decide (h1 < (h0.length : Int))))
    (br (okZ (.n .u8 0) h0 h1)
      (kR ((and64 (w64 ((and64 (xor64 (shr64 (w64 ((w64 (h2 * 6364136223846793005)) + 1442695040888963407)) 33) (shr64 (w64 ((w64 (h2 * 6364136223846793005)) + 1442695040888963407)) 45)) 255) + (w64 (sAt h0 .u8 h1)))) 255), h0, (w64 (h1 + 1)), (w64 ((w64 (h2 * 6364136223846793005)) + 1442695040888963407))))
      none)
    (kR ((and64 (xor64 (shr64 (w64 ((w64 (h2 * 6364136223846793005)) + 1442695040888963407)) 33) (shr64 (w64 ((w64 (h2 * 6364136223846793005)) + 1442695040888963407)) 45)) 255), h0, h1, (w64 ((w64 (h2 * 6364136223846793005)) + 1442695040888963407))))
def f_s_l1Byte_io (h0 : List Sc) (h1 : Int) (h2 : Int) : Option (Int × List Sc × Int × Int) := f_s_l1Byte_io_k h0 h1 h2 some

def f_s_l1Below_io_k {R : Type} (n1 : Int) (h0 : List Sc) (h1 : Int) (h2 : Int) (kR : Int × List Sc × Int × Int → Option R) : Option R :=
  br ((decide (n1 ≤ 0)))
    (kR (0, h0, h1, h2))
    (br ((decide (n1 ≤ 256)))
      (bo (f_s_l1Byte_io h0 h1 h2) (0, [], 0, 0) fun r1 =>
      br (n1 == 0)
        none
        (kR ((r1.1.tmod n1), r1.2.1, r1.2.2.1, r1.2.2.2)))
      (bo (f_s_l1Byte_io h0 h1 h2) (0, [], 0, 0) fun r2 =>
      bo (f_s_l1Byte_io r2.2.1 r2.2.2.1 r2.2.2.2) (0, [], 0, 0) fun r3 =>
      bo (f_s_l1Byte_io r3.2.1 r3.2.2.1 r3.2.2.2) (0, [], 0, 0) fun r4 =>
      bo (f_s_l1Byte_io r4.2.1 r4.2.2.1 r4.2.2.2) (0, [], 0, 0) fun r5 =>
      br (n1 == 0)
        none
        (kR (((w64 ((w64 ((w64 ((w64 (r2.1 * 16777216)) + (w64 (r3.1 * 65536)))) + (w64 (r4.1 * 256)))) + r5.1)).tmod n1), r5.2.1, r5.2.2.1, r5.2.2.2))))
def f_s_l1Below_io (n1 : Int) (h0 : List Sc) (h1 : Int) (h2 : Int) : Option (Int × List Sc × Int × Int) := f_s_l1Below_io_k n1 h0 h1 h2 some

def f_s_l2Draw_io_k0 {R : Type} (most1 : Int) (o6 : List Sc) (v0 : List Sc) (v1 : Int) (v2 : Int) (v3 : List Sc) (n7 : Int) (i8 : Int) (kN : List Sc × Int × Int × List Sc × Int × Int → Option R) (kA : List Sc × Int × Int × List Sc × Int → Option R) : Option R :=
  br ((decide (i8 < (o6.length : Int))))
    (br (okAt o6 i8)
      (kN (v0, v1, v2, v3, (w64 (n7 * (atI o6 i8))), (w64 (i8 + 1))))
      none)
    (kA (v0, v1, v2, v3, n7))
def f_s_l2Draw_io_r0 (most1 : Int) (o6 : List Sc) : (List Sc × Int × Int × List Sc × Int × Int) → Option (Ro (List Sc × Int × Int × List Sc × Int × Int) (List Sc × Int × Int × List Sc × Int) (Unit)) := fun s => f_s_l2Draw_io_k0 most1 o6 s.1 s.2.1 s.2.2.1 s.2.2.2.1 s.2.2.2.2.1 s.2.2.2.2.2 (fun s => some (.again s)) (fun e => some (.one e))
def f_s_l2Draw_io_k {R : Type} (most1 : Int) (h0 : List Sc) (h1 : Int) (h2 : Int) (kR : List Sc × List Sc × Int × Int → Option R) : Option R :=
  bo (f_s_l1Below_io (([[], [(Sc.n .i64 2)], [(Sc.n .i64 3)], [(Sc.n .i64 4)], [(Sc.n .i64 5)], [(Sc.n .i64 6)], [(Sc.n .i64 7)], [(Sc.n .i64 8)], [(Sc.n .i64 9)], [(Sc.n .i64 10)], [(Sc.n .i64 11)], [(Sc.n .i64 12)], [(Sc.n .i64 2), (Sc.n .i64 2)], [(Sc.n .i64 2), (Sc.n .i64 4)], [(Sc.n .i64 3), (Sc.n .i64 3)], [(Sc.n .i64 2), (Sc.n .i64 6)], [(Sc.n .i64 2), (Sc.n .i64 2), (Sc.n .i64 2)], [(Sc.n .i64 13)], [(Sc.n .i64 16)], [(Sc.n .i64 4), (Sc.n .i64 4)], [(Sc.n .i64 2), (Sc.n .i64 2), (Sc.n .i64 3)], [(Sc.n .i64 2), (Sc.n .i64 3)], [(Sc.n .i64 24)]] : List (List Sc)).length : Int) h0 h1 h2) (0, [], 0, 0) fun r1 =>
  br (inRange r1.1 ([[], [(Sc.n .i64 2)], [(Sc.n .i64 3)], [(Sc.n .i64 4)], [(Sc.n .i64 5)], [(Sc.n .i64 6)], [(Sc.n .i64 7)], [(Sc.n .i64 8)], [(Sc.n .i64 9)], [(Sc.n .i64 10)], [(Sc.n .i64 11)], [(Sc.n .i64 12)], [(Sc.n .i64 2), (Sc.n .i64 2)], [(Sc.n .i64 2), (Sc.n .i64 4)], [(Sc.n .i64 3), (Sc.n .i64 3)], [(Sc.n .i64 2), (Sc.n .i64 6)], [(Sc.n .i64 2), (Sc.n .i64 2), (Sc.n .i64 2)], [(Sc.n .i64 13)], [(Sc.n .i64 16)], [(Sc.n .i64 4), (Sc.n .i64 4)], [(Sc.n .i64 2), (Sc.n .i64 2), (Sc.n .i64 3)], [(Sc.n .i64 2), (Sc.n .i64 3)], [(Sc.n .i64 24)]] : List (List Sc)).length)
    (bl1 (loopL (f_s_l2Draw_io_r0 most1 (([[], [(Sc.n .i64 2)], [(Sc.n .i64 3)], [(Sc.n .i64 4)], [(Sc.n .i64 5)], [(Sc.n .i64 6)], [(Sc.n .i64 7)], [(Sc.n .i64 8)], [(Sc.n .i64 9)], [(Sc.n .i64 10)], [(Sc.n .i64 11)], [(Sc.n .i64 12)], [(Sc.n .i64 2), (Sc.n .i64 2)], [(Sc.n .i64 2), (Sc.n .i64 4)], [(Sc.n .i64 3), (Sc.n .i64 3)], [(Sc.n .i64 2), (Sc.n .i64 6)], [(Sc.n .i64 2), (Sc.n .i64 2), (Sc.n .i64 2)], [(Sc.n .i64 13)], [(Sc.n .i64 16)], [(Sc.n .i64 4), (Sc.n .i64 4)], [(Sc.n .i64 2), (Sc.n .i64 2), (Sc.n .i64 3)], [(Sc.n .i64 2), (Sc.n .i64 3)], [(Sc.n .i64 24)]] : List (List Sc)).getD r1.1.toNat [])) (r1.2.1, r1.2.2.1, r1.2.2.2, [], 1, 0)) ([], 0, 0, [], 0) fun e2 =>
    br ((decide (e2.2.2.2.2 > most1)))
      (kR ([(Sc.n .i64 5)], e2.1, e2.2.1, e2.2.2.1))
      (br (decide (([] : List Sc).length + (([[], [(Sc.n .i64 2)], [(Sc.n .i64 3)], [(Sc.n .i64 4)], [(Sc.n .i64 5)], [(Sc.n .i64 6)], [(Sc.n .i64 7)], [(Sc.n .i64 8)], [(Sc.n .i64 9)], [(Sc.n .i64 10)], [(Sc.n .i64 11)], [(Sc.n .i64 12)], [(Sc.n .i64 2), (Sc.n .i64 2)], [(Sc.n .i64 2), (Sc.n .i64 4)], [(Sc.n .i64 3), (Sc.n .i64 3)], [(Sc.n .i64 2), (Sc.n .i64 6)], [(Sc.n .i64 2), (Sc.n .i64 2), (Sc.n .i64 2)], [(Sc.n .i64 13)], [(Sc.n .i64 16)], [(Sc.n .i64 4), (Sc.n .i64 4)], [(Sc.n .i64 2), (Sc.n .i64 2), (Sc.n .i64 3)], [(Sc.n .i64 2), (Sc.n .i64 3)], [(Sc.n .i64 24)]] : List (List Sc)).getD r1.1.toNat []).length ≤ lim))
        (kR (([] ++ (([[], [(Sc.n .i64 2)], [(Sc.n .i64 3)], [(Sc.n .i64 4)], [(Sc.n .i64 5)], [(Sc.n .i64 6)], [(Sc.n .i64 7)], [(Sc.n .i64 8)], [(Sc.n .i64 9)], [(Sc.n .i64 10)], [(Sc.n .i64 11)], [(Sc.n .i64 12)], [(Sc.n .i64 2), (Sc.n .i64 2)], [(Sc.n .i64 2), (Sc.n .i64 4)], [(Sc.n .i64 3), (Sc.n .i64 3)], [(Sc.n .i64 2), (Sc.n .i64 6)], [(Sc.n .i64 2), (Sc.n .i64 2), (Sc.n .i64 2)], [(Sc.n .i64 13)], [(Sc.n .i64 16)], [(Sc.n .i64 4), (Sc.n .i64 4)], [(Sc.n .i64 2), (Sc.n .i64 2), (Sc.n .i64 3)], [(Sc.n .i64 2), (Sc.n .i64 3)], [(Sc.n .i64 24)]] : List (List Sc)).getD r1.1.toNat [])), e2.1, e2.2.1, e2.2.2.1))
        none))
    none
def f_s_l2Draw_io (most1 : Int) (h0 : List Sc) (h1 : Int) (h2 : Int) : Option (List Sc × List Sc × Int × Int) := f_s_l2Draw_io_k most1 h0 h1 h2 some

def f_s_l1PickInt_io_k {R : Type} (list1 : List Sc) (h0 : List Sc) (h1 : Int) (h2 : Int) (kR : Int × List Sc × Int × Int → Option R) : Option R :=
  bo (f_s_l1Below_io (list1.length : Int) h0 h1 h2) (0, [], 0, 0) fun r1 =>
  br (okAt list1 r1.1)
    (kR ((atI list1 r1.1), r1.2.1, r1.2.2.1, r1.2.2.2))
    none
def f_s_l1PickInt_io (list1 : List Sc) (h0 : List Sc) (h1 : Int) (h2 : Int) : Option (Int × List Sc × Int × Int) := f_s_l1PickInt_io_k list1 h0 h1 h2 some

def f_s_l2Any_io_k {R : Type} (h0 : List Sc) (h1 : Int) (h2 : Int) (kR : List Sc × List Sc × Int × Int → Option R) : Option R :=
  bo (f_s_l2Draw_io 24 h0 h1 h2) ([], [], 0, 0) fun r1 =>
  bo (f_s_l1Below_io 16 r1.2.1 r1.2.2.1 r1.2.2.2) (0, [], 0, 0) fun r2 =>
  br ((r2.1 == 0))
    (bo (f_s_l1PickInt_io [(Sc.n .i64 0), (Sc.n .i64 1), (Sc.n .i64 (-1)), (Sc.n .i64 25), (Sc.n .i64 9223372036854775807)] r2.2.1 r2.2.2.1 r2.2.2.2) (0, [], 0, 0) fun r3 =>
    kR ([(Sc.n .i64 r3.1)], r3.2.1, r3.2.2.1, r3.2.2.2))
    (br ((r2.1 == 1))
      (kR ([(Sc.n .i64 2), (Sc.n .i64 2), (Sc.n .i64 2), (Sc.n .i64 2)], r2.2.1, r2.2.2.1, r2.2.2.2))
      (br ((r2.1 == 2))
        (kR ([(Sc.n .i64 5), (Sc.n .i64 5)], r2.2.1, r2.2.2.1, r2.2.2.2))
        (kR (r1.1, r2.2.1, r2.2.2.1, r2.2.2.2))))
def f_s_l2Any_io (h0 : List Sc) (h1 : Int) (h2 : Int) : Option (List Sc × List Sc × Int × Int) := f_s_l2Any_io_k h0 h1 h2 some

def f_s_l1In_k {R : Type} (x0 : Int) (low1 : Int) (high2 : Int) (kR : Bool → Option R) : Option R :=
  br ((decide (x0 ≥ low1)) == true)
    (kR (decide (x0 ≤ high2)))
    (kR false)
def f_s_l1In (x0 : Int) (low1 : Int) (high2 : Int) : Option (Bool) := f_s_l1In_k x0 low1 high2 some

def f_s_IsGroup_k0 {R : Type} (g1 : List Sc) (n3 : Int) (i4 : Int) (kN : Int × Int → Option R) (kA : Int → Option R) (kB : Unit → Option R) : Option R :=
  br ((decide (i4 < (g1.length : Int))))
    (br (okAt g1 i4)
      (bo (f_s_l1In (atI g1 i4) 2 24) false fun r1 =>
      br ((!r1) == false)
        (br ((decide (i4 > 2)))
          (kB ())
          (br (okAt g1 i4)
            (kN ((w64 (n3 * (atI g1 i4))), (w64 (i4 + 1))))
            none))
        (kB ()))
      none)
    (kA n3)
def f_s_IsGroup_r0 (g1 : List Sc) : (Int × Int) → Option (Ro (Int × Int) (Int) (Unit)) := fun s => f_s_IsGroup_k0 g1 s.1 s.2 (fun s => some (.again s)) (fun e => some (.one e)) (fun e => some (.two e))
def f_s_IsGroup_k {R : Type} (g0 : List Sc) (kR : Bool → Option R) : Option R :=
  bl (loopL (f_s_IsGroup_r0 g0) (1, 0)) 0 ()
    (fun e2 =>
      kR (decide (e2 ≤ 24)))
    (fun e2 =>
      kR false)
def f_s_IsGroup (g0 : List Sc) : Option (Bool) := f_s_IsGroup_k g0 some

def f_s_l2Order_k0 {R : Type} (g1 : List Sc) (n3 : Int) (i4 : Int) (kN : Int × Int → Option R) (kA : Int → Option R) : Option R :=
  br ((decide (i4 < (g1.length : Int))))
    (br (okAt g1 i4)
      (kN ((w64 (n3 * (atI g1 i4))), (w64 (i4 + 1))))
      none)
    (kA n3)
def f_s_l2Order_r0 (g1 : List Sc) : (Int × Int) → Option (Ro (Int × Int) (Int) (Unit)) := fun s => f_s_l2Order_k0 g1 s.1 s.2 (fun s => some (.again s)) (fun e => some (.one e))
def f_s_l2Order_k {R : Type} (g0 : List Sc) (kR : Int → Option R) : Option R :=
  bl1 (loopL (f_s_l2Order_r0 g0) (1, 0)) 0 fun e1 =>
  kR e1
def f_s_l2Order (g0 : List Sc) : Option (Int) := f_s_l2Order_k g0 some

def f_s_l3List_k0 {R : Type} (out3 : List Sc) (i4 : Int) (x5 : Int) (kN : List Sc × Int × Int → Option R) (kA : List Sc → Option R) : Option R :=
  br ((decide (x5 > 0)))
    (br (((and64 x5 1) == 1))
      (br (decide (out3.length + [(Sc.n .i64 i4)].length ≤ lim))
        (kN ((out3 ++ [(Sc.n .i64 i4)]), (w64 (i4 + 1)), (shr64 x5 1)))
        none)
      (kN (out3, (w64 (i4 + 1)), (shr64 x5 1))))
    (kA out3)
def f_s_l3List_r0 : (List Sc × Int × Int) → Option (Ro (List Sc × Int × Int) (List Sc) (Unit)) := fun s => f_s_l3List_k0 s.1 s.2.1 s.2.2 (fun s => some (.again s)) (fun e => some (.one e))
def f_s_l3List_k {R : Type} (a0 : Int) (kR : List Sc → Option R) : Option R :=
  bl1 (loopL (f_s_l3List_r0) ([], 0, a0)) [] fun e1 =>
  kR e1
def f_s_l3List (a0 : Int) : Option (List Sc) := f_s_l3List_k a0 some

def f_s_l2Add_k0 {R : Type} (g3 : List Sc) (x1 : Int) (y2 : Int) (z7 : Int) (step8 : Int) (i9 : Int) (kN : Int × Int × Int × Int × Int → Option R) (kA : Int → Option R) : Option R :=
  br ((decide (i9 < (g3.length : Int))))
    (br (okAt g3 i9)
      (br ((atI g3 i9) == 0)
        none
        (br ((atI g3 i9) == 0)
          none
          (br ((atI g3 i9) == 0)
            none
            (br ((atI g3 i9) == 0)
              none
              (br ((atI g3 i9) == 0)
                none
                (kN ((w64 (x1.tdiv (atI g3 i9))), (w64 (y2.tdiv (atI g3 i9))), (w64 (z7 + (w64 (((w64 ((x1.tmod (atI g3 i9)) + (y2.tmod (atI g3 i9)))).tmod (atI g3 i9)) * step8)))), (w64 (step8 * (atI g3 i9))), (w64 (i9 + 1)))))))))
      none)
    (kA z7)
def f_s_l2Add_r0 (g3 : List Sc) : (Int × Int × Int × Int × Int) → Option (Ro (Int × Int × Int × Int × Int) (Int) (Unit)) := fun s => f_s_l2Add_k0 g3 s.1 s.2.1 s.2.2.1 s.2.2.2.1 s.2.2.2.2 (fun s => some (.again s)) (fun e => some (.one e))
def f_s_l2Add_k {R : Type} (g0 : List Sc) (x1 : Int) (y2 : Int) (kR : Int → Option R) : Option R :=
  bl1 (loopL (f_s_l2Add_r0 g0) (x1, y2, 0, 1, 0)) 0 fun e1 =>
  kR e1
def f_s_l2Add (g0 : List Sc) (x1 : Int) (y2 : Int) : Option (Int) := f_s_l2Add_k g0 x1 y2 some

def f_s_l3Shift_k0 {R : Type} (x2 : Int) (g3 : List Sc) (out7 : Int) (l8 : List Sc) (i9 : Int) (kN : Int × List Sc × Int → Option R) (kA : Int → Option R) : Option R :=
  br ((decide (i9 < (l8.length : Int))))
    (br (inRange i9 (l8).length)
      (br (kAt l8 i9.toNat)
        (bo (f_s_l2Add g3 (atN l8 i9.toNat) x2) 0 fun r2 =>
        br (decide (r2 < 0))
          none
          (kN ((or64 out7 (shl64 1 r2)), l8, (w64 (i9 + 1)))))
        none)
      none)
    (kA out7)
def f_s_l3Shift_r0 (x2 : Int) (g3 : List Sc) : (Int × List Sc × Int) → Option (Ro (Int × List Sc × Int) (Int) (Unit)) := fun s => f_s_l3Shift_k0 x2 g3 s.1 s.2.1 s.2.2 (fun s => some (.again s)) (fun e => some (.one e))
def f_s_l3Shift_k {R : Type} (g0 : List Sc) (a1 : Int) (x2 : Int) (kR : Int → Option R) : Option R :=
  bo (f_s_l3List a1) [] fun r1 =>
  bl1 (loopL (f_s_l3Shift_r0 x2 g0) (0, r1, 0)) 0 fun e3 =>
  kR e3
def f_s_l3Shift (g0 : List Sc) (a1 : Int) (x2 : Int) : Option (Int) := f_s_l3Shift_k g0 a1 x2 some

def f_s_l4Sum_k0 {R : Type} (a1 : Int) (g3 : List Sc) (out7 : Int) (l8 : List Sc) (i9 : Int) (kN : Int × List Sc × Int → Option R) (kA : Int → Option R) : Option R :=
  br ((decide (i9 < (l8.length : Int))))
    (br (inRange i9 (l8).length)
      (br (kAt l8 i9.toNat)
        (bo (f_s_l3Shift g3 a1 (atN l8 i9.toNat)) 0 fun r2 =>
        kN ((or64 out7 r2), l8, (w64 (i9 + 1))))
        none)
      none)
    (kA out7)
def f_s_l4Sum_r0 (a1 : Int) (g3 : List Sc) : (Int × List Sc × Int) → Option (Ro (Int × List Sc × Int) (Int) (Unit)) := fun s => f_s_l4Sum_k0 a1 g3 s.1 s.2.1 s.2.2 (fun s => some (.again s)) (fun e => some (.one e))
def f_s_l4Sum_k {R : Type} (g0 : List Sc) (a1 : Int) (b2 : Int) (kR : Int → Option R) : Option R :=
  bo (f_s_l3List b2) [] fun r1 =>
  bl1 (loopL (f_s_l4Sum_r0 a1 g0) (0, r1, 0)) 0 fun e3 =>
  kR e3
def f_s_l4Sum (g0 : List Sc) (a1 : Int) (b2 : Int) : Option (Int) := f_s_l4Sum_k g0 a1 b2 some

def f_s_l5Closure_k0 {R : Type} (a1 : Int) (g2 : List Sc) (out5 : Int) (next6 : Int) (kN : Int × Int → Option R) (kA : Int → Option R) : Option R :=
  br ((next6 != out5))
    (bo (f_s_l4Sum g2 next6 a1) 0 fun r2 =>
    kN (next6, (or64 next6 r2)))
    (kA out5)
def f_s_l5Closure_r0 (a1 : Int) (g2 : List Sc) : (Int × Int) → Option (Ro (Int × Int) (Int) (Unit)) := fun s => f_s_l5Closure_k0 a1 g2 s.1 s.2 (fun s => some (.again s)) (fun e => some (.one e))
def f_s_l5Closure_k {R : Type} (g0 : List Sc) (a1 : Int) (kR : Int → Option R) : Option R :=
  bo (f_s_l4Sum g0 1 a1) 0 fun r1 =>
  bl1 (loopL (f_s_l5Closure_r0 a1 g0) (1, (or64 1 r1))) 0 fun e3 =>
  kR e3
def f_s_l5Closure (g0 : List Sc) (a1 : Int) : Option (Int) := f_s_l5Closure_k g0 a1 some

def f_s_l5Put_k0 {R : Type} (l0 : List Sc) (n1 : Int) (k5 : Int) (kN : Int → Option R) (kA : Int → Option R) : Option R :=
  br ((decide (k5 > 0)) == true)
    (br (okAt l0 (w64 (k5 - 1)))
      (br ((decide ((atI l0 (w64 (k5 - 1))) > n1)))
        (kN (w64 (k5 - 1)))
        (kA k5))
      none)
    (kA k5)
def f_s_l5Put_r0 (l0 : List Sc) (n1 : Int) : Int → Option (Ro (Int) (Int) (Unit)) := fun s => f_s_l5Put_k0 l0 n1 s (fun s => some (.again s)) (fun e => some (.one e))
def f_s_l5Put_k {R : Type} (l0 : List Sc) (n1 : Int) (kR : List Sc → Option R) : Option R :=
  bl1 (loopL (f_s_l5Put_r0 l0 n1) (l0.length : Int)) 0 fun e1 =>
  br ((decide (e1 > 0)) == true)
    (br (okAt l0 (w64 (e1 - 1)))
      (br (((atI l0 (w64 (e1 - 1))) == n1))
        (kR l0)
        (br (decide (0 ≤ (0 : Int)) && (decide ((0 : Int) ≤ e1) && decide (e1 ≤ (l0.length : Int))))
          (br (decide (([] : List Sc).length + (sliceA l0 0 e1).length ≤ lim))
            (br (decide (([] ++ (sliceA l0 0 e1)).length + [(Sc.n .i64 n1)].length ≤ lim))
              (br (decide (0 ≤ e1) && (decide (e1 ≤ (l0.length : Int)) && decide ((l0.length : Int) ≤ (l0.length : Int))))
                (br (decide ((([] ++ (sliceA l0 0 e1)) ++ [(Sc.n .i64 n1)]).length + (sliceA l0 e1 (l0.length : Int)).length ≤ lim))
                  (kR ((([] ++ (sliceA l0 0 e1)) ++ [(Sc.n .i64 n1)]) ++ (sliceA l0 e1 (l0.length : Int))))
                  none)
                none)
              none)
            none)
          none))
      none)
    (br (decide (0 ≤ (0 : Int)) && (decide ((0 : Int) ≤ e1) && decide (e1 ≤ (l0.length : Int))))
      (br (decide (([] : List Sc).length + (sliceA l0 0 e1).length ≤ lim))
        (br (decide (([] ++ (sliceA l0 0 e1)).length + [(Sc.n .i64 n1)].length ≤ lim))
          (br (decide (0 ≤ e1) && (decide (e1 ≤ (l0.length : Int)) && decide ((l0.length : Int) ≤ (l0.length : Int))))
            (br (decide ((([] ++ (sliceA l0 0 e1)) ++ [(Sc.n .i64 n1)]).length + (sliceA l0 e1 (l0.length : Int)).length ≤ lim))
              (kR ((([] ++ (sliceA l0 0 e1)) ++ [(Sc.n .i64 n1)]) ++ (sliceA l0 e1 (l0.length : Int))))
              none)
            none)
          none)
        none)
      none)
def f_s_l5Put (l0 : List Sc) (n1 : Int) : Option (List Sc) := f_s_l5Put_k l0 n1 some

def f_s_SubgroupsOf_k0 {R : Type} (t1 : List Sc) (t4 : List Sc) (t6 : Int) (t5 : List Sc) (t7 : Int) (kN : List Sc × Int → Option R) (kA : List Sc → Option R) : Option R :=
  br ((decide (t7 < t6)))
    (br (decide (t7 < 0))
      none
      (bo (f_s_l5Closure t1 (shl64 1 t7)) 0 fun r3 =>
      bo (f_s_l5Put t5 r3) [] fun r4 =>
      kN (r4, (w64 (t7 + 1)))))
    (kA t5)
def f_s_SubgroupsOf_r0 (t1 : List Sc) (t4 : List Sc) (t6 : Int) : (List Sc × Int) → Option (Ro (List Sc × Int) (List Sc) (Unit)) := fun s => f_s_SubgroupsOf_k0 t1 t4 t6 s.1 s.2 (fun s => some (.again s)) (fun e => some (.one e))
def f_s_SubgroupsOf_k4 {R : Type} (t1 : List Sc) (t5 : List Sc) (t8 : Int) (t4 : List Sc) (t9 : Int) (kN : List Sc × Int → Option R) (kA : List Sc → Option R) : Option R :=
  br ((decide (t9 ≤ t8)))
    (br (okAt t5 t8)
      (br (okAt t5 t9)
        (bo (f_s_l4Sum t1 (atI t5 t8) (atI t5 t9)) 0 fun r6 =>
        bo (f_s_l5Put t4 r6) [] fun r7 =>
        kN (r7, (w64 (t9 + 1))))
        none)
      none)
    (kA t4)
def f_s_SubgroupsOf_r4 (t1 : List Sc) (t5 : List Sc) (t8 : Int) : (List Sc × Int) → Option (Ro (List Sc × Int) (List Sc) (Unit)) := fun s => f_s_SubgroupsOf_k4 t1 t5 t8 s.1 s.2 (fun s => some (.again s)) (fun e => some (.one e))
def f_s_SubgroupsOf_k2 {R : Type} (t1 : List Sc) (t5 : List Sc) (t4 : List Sc) (t8 : Int) (kN : List Sc × Int → Option R) (kA : List Sc × Int → Option R) : Option R :=
  br ((decide (t8 < (t5.length : Int))))
    (bl1 (loopL (f_s_SubgroupsOf_r4 t1 t5 t8) (t4, 0)) [] fun e8 =>
    kN (e8, (w64 (t8 + 1))))
    (kA (t4, t8))
def f_s_SubgroupsOf_r2 (t1 : List Sc) (t5 : List Sc) : (List Sc × Int) → Option (Ro (List Sc × Int) (List Sc × Int) (Unit)) := fun s => f_s_SubgroupsOf_k2 t1 t5 s.1 s.2 (fun s => some (.again s)) (fun e => some (.one e))
def f_s_SubgroupsOf_k8 {R : Type} (t1 : List Sc) (t5 : List Sc) (t10 : List Sc) (t11 : Int) (t4 : List Sc) (t12 : Int) (kN : List Sc × Int → Option R) (kA : List Sc → Option R) : Option R :=
  br ((decide (t12 < (t5.length : Int))))
    (br (okAt t10 t11)
      (br (okAt t5 t12)
        (bo (f_s_l4Sum t1 (atI t10 t11) (atI t5 t12)) 0 fun r10 =>
        bo (f_s_l5Put t4 r10) [] fun r11 =>
        kN (r11, (w64 (t12 + 1))))
        none)
      none)
    (kA t4)
def f_s_SubgroupsOf_r8 (t1 : List Sc) (t5 : List Sc) (t10 : List Sc) (t11 : Int) : (List Sc × Int) → Option (Ro (List Sc × Int) (List Sc) (Unit)) := fun s => f_s_SubgroupsOf_k8 t1 t5 t10 t11 s.1 s.2 (fun s => some (.again s)) (fun e => some (.one e))
def f_s_SubgroupsOf_k6 {R : Type} (t1 : List Sc) (t5 : List Sc) (t10 : List Sc) (t4 : List Sc) (t11 : Int) (kN : List Sc × Int → Option R) (kA : List Sc × Int → Option R) : Option R :=
  br ((decide (t11 < (t10.length : Int))))
    (bl1 (loopL (f_s_SubgroupsOf_r8 t1 t5 t10 t11) (t4, 0)) [] fun e12 =>
    kN (e12, (w64 (t11 + 1))))
    (kA (t4, t11))
def f_s_SubgroupsOf_r6 (t1 : List Sc) (t5 : List Sc) (t10 : List Sc) : (List Sc × Int) → Option (Ro (List Sc × Int) (List Sc × Int) (Unit)) := fun s => f_s_SubgroupsOf_k6 t1 t5 t10 s.1 s.2 (fun s => some (.again s)) (fun e => some (.one e))
def f_s_SubgroupsOf_k {R : Type} (L0 : List Sc) (kR : List Sc × Bool → Option R) : Option R :=
  bo (f_s_IsGroup L0) false fun r1 =>
  br ((!r1))
    (kR ([], false))
    (bo (f_s_l2Order L0) 0 fun r2 =>
    bl1 (loopL (f_s_SubgroupsOf_r0 L0 [] r2) ([], 0)) [] fun e5 =>
    bl1 (loopL (f_s_SubgroupsOf_r2 L0 e5) ([], 0)) ([], 0) fun e9 =>
    bl1 (loopL (f_s_SubgroupsOf_r6 L0 e5 e9.1) (e9.1, 0)) ([], 0) fun e13 =>
    kR (e13.1, true))
def f_s_SubgroupsOf (L0 : List Sc) : Option (List Sc × Bool) := f_s_SubgroupsOf_k L0 some

def f_s_l1Once_io_k {R : Type} (n1 : Int) (h0 : List Sc) (h1 : Int) (h2 : Int) (kR : Bool × List Sc × Int × Int → Option R) : Option R :=
  bo (f_s_l1Below_io n1 h0 h1 h2) (0, [], 0, 0) fun r1 =>
  kR ((r1.1 == 0), r1.2.1, r1.2.2.1, r1.2.2.2)
def f_s_l1Once_io (n1 : Int) (h0 : List Sc) (h1 : Int) (h2 : Int) : Option (Bool × List Sc × Int × Int) := f_s_l1Once_io_k n1 h0 h1 h2 some

def f_s_OrderOf_k {R : Type} (g0 : List Sc) (kR : Int → Option R) : Option R :=
  bo (f_s_IsGroup g0) false fun r1 =>
  br ((!r1))
    (kR 0)
    (bo (f_s_l2Order g0) 0 fun r2 =>
    kR r2)
def f_s_OrderOf (g0 : List Sc) : Option (Int) := f_s_OrderOf_k g0 some

def f_s_l3Set_io_k0 {R : Type} (n5 : Int) (v0 : List Sc) (v1 : Int) (v2 : Int) (a6 : Int) (k7 : Int) (kN : List Sc × Int × Int × Int × Int → Option R) (kA : List Sc × Int × Int × Int → Option R) : Option R :=
  br ((decide (k7 > 0)))
    (bo (f_s_l1Below_io n5 v0 v1 v2) (0, [], 0, 0) fun r3 =>
    br (decide (r3.1 < 0))
      none
      (kN (r3.2.1, r3.2.2.1, r3.2.2.2, (or64 a6 (shl64 1 r3.1)), (w64 (k7 - 1)))))
    (kA (v0, v1, v2, a6))
def f_s_l3Set_io_r0 (n5 : Int) : (List Sc × Int × Int × Int × Int) → Option (Ro (List Sc × Int × Int × Int × Int) (List Sc × Int × Int × Int) (Unit)) := fun s => f_s_l3Set_io_k0 n5 s.1 s.2.1 s.2.2.1 s.2.2.2.1 s.2.2.2.2 (fun s => some (.again s)) (fun e => some (.one e))
def f_s_l3Set_io_k {R : Type} (g1 : List Sc) (h0 : List Sc) (h1 : Int) (h2 : Int) (kR : Int × List Sc × Int × Int → Option R) : Option R :=
  bo (f_s_OrderOf g1) 0 fun r1 =>
  bo (f_s_l1Below_io 6 h0 h1 h2) (0, [], 0, 0) fun r2 =>
  bl1 (loopL (f_s_l3Set_io_r0 (if r1 > 1 then r1 else 1)) (r2.2.1, r2.2.2.1, r2.2.2.2, 0, r2.1)) ([], 0, 0, 0) fun e4 =>
  bo (f_s_l1Below_io 20 e4.1 e4.2.1 e4.2.2.1) (0, [], 0, 0) fun r5 =>
  br ((r5.1 == 0))
    (br (decide ((if r1 > 1 then r1 else 1) < 0))
      none
      (kR ((w64 ((shl64 1 (if r1 > 1 then r1 else 1)) - 1)), r5.2.1, r5.2.2.1, r5.2.2.2)))
    (br ((r5.1 == 1))
      (bo (f_s_l1PickInt_io [(Sc.n .i64 (-1)), (Sc.n .i64 16777216), (Sc.n .i64 9223372036854775807)] r5.2.1 r5.2.2.1 r5.2.2.2) (0, [], 0, 0) fun r6 =>
      kR (r6.1, r6.2.1, r6.2.2.1, r6.2.2.2))
      (kR (e4.2.2.2, r5.2.1, r5.2.2.1, r5.2.2.2)))
def f_s_l3Set_io (g1 : List Sc) (h0 : List Sc) (h1 : Int) (h2 : Int) : Option (Int × List Sc × Int × Int) := f_s_l3Set_io_k g1 h0 h1 h2 some

def f_s_l5Group_io_g4_k {R : Type} (v0 : List Sc) (v1 : Int) (v2 : Int) (v3 : List Sc) (v4 : List Sc) (kA : List Sc × Int × Int × Int → Option R) : Option R :=
  bo (f_s_l3Set_io v4 v0 v1 v2) (0, [], 0, 0) fun r4 =>
  kA (r4.2.1, r4.2.2.1, r4.2.2.2, r4.1)
def f_s_l5Group_io_g4 (v0 : List Sc) (v1 : Int) (v2 : Int) (v3 : List Sc) (v4 : List Sc) : Option (List Sc × Int × Int × Int) := f_s_l5Group_io_g4_k v0 v1 v2 v3 v4 some
def f_s_l5Group_io_g5_k {R : Type} (v0 : List Sc) (v1 : Int) (v2 : Int) (v3 : List Sc) (v4 : List Sc) (t5 : List Sc) (kA : List Sc × Int × Int × Int → Option R) : Option R :=
  bo (f_s_l1Below_io (t5.length : Int) v0 v1 v2) (0, [], 0, 0) fun r10 =>
  br (okAt t5 r10.1)
    (kA (r10.2.1, r10.2.2.1, r10.2.2.2, (atI t5 r10.1)))
    none
def f_s_l5Group_io_g5 (v0 : List Sc) (v1 : Int) (v2 : Int) (v3 : List Sc) (v4 : List Sc) (t5 : List Sc) : Option (List Sc × Int × Int × Int) := f_s_l5Group_io_g5_k v0 v1 v2 v3 v4 t5 some
def f_s_l5Group_io_k {R : Type} (h0 : List Sc) (h1 : Int) (h2 : Int) (kR : List Sc × Int × List Sc × Int × Int → Option R) : Option R :=
  bo (f_s_l2Any_io h0 h1 h2) ([], [], 0, 0) fun r1 =>
  bo (f_s_SubgroupsOf r1.1) ([], false) fun r2 =>
  br ((!r2.2) == false)
    (bo (f_s_l1Once_io 5 r1.2.1 r1.2.2.1 r1.2.2.2) (false, [], 0, 0) fun r3 =>
    br (r3.1)
      (bo (f_s_l5Group_io_g4 r3.2.1 r3.2.2.1 r3.2.2.2 [] r1.1) ([], 0, 0, 0) fun g9 =>
      kR (r1.1, g9.2.2.2, g9.1, g9.2.1, g9.2.2.1))
      (bo (f_s_l5Group_io_g5 r3.2.1 r3.2.2.1 r3.2.2.2 [] r1.1 r2.1) ([], 0, 0, 0) fun g24 =>
      kR (r1.1, g24.2.2.2, g24.1, g24.2.1, g24.2.2.1)))
    (bo (f_s_l5Group_io_g4 r1.2.1 r1.2.2.1 r1.2.2.2 [] r1.1) ([], 0, 0, 0) fun g25 =>
    kR (r1.1, g25.2.2.2, g25.1, g25.2.1, g25.2.2.1))
def f_s_l5Group_io (h0 : List Sc) (h1 : Int) (h2 : Int) : Option (List Sc × Int × List Sc × Int × Int) := f_s_l5Group_io_k h0 h1 h2 some

def f_s_IsSet_k {R : Type} (g0 : List Sc) (a1 : Int) (kR : Bool → Option R) : Option R :=
  bo (f_s_IsGroup g0) false fun r1 =>
  br (r1 == true)
    (bo (f_s_l2Order g0) 0 fun r2 =>
    br (decide (r2 < 0))
      none
      (bo (f_s_l1In a1 0 (w64 ((shl64 1 r2) - 1))) false fun r3 =>
      kR r3))
    (kR false)
def f_s_IsSet (g0 : List Sc) (a1 : Int) : Option (Bool) := f_s_IsSet_k g0 a1 some

def f_s_IsSubgroup_k {R : Type} (g0 : List Sc) (a1 : Int) (kR : Bool → Option R) : Option R :=
  bo (f_s_IsSet g0 a1) false fun r1 =>
  br (r1 == true)
    (bo (f_s_l5Closure g0 a1) 0 fun r2 =>
    kR (r2 == a1))
    (kR false)
def f_s_IsSubgroup (g0 : List Sc) (a1 : Int) : Option (Bool) := f_s_IsSubgroup_k g0 a1 some

def f_s_l6Set_io_k {R : Type} (h0 : List Sc) (h1 : Int) (h2 : Int) (kR : List Sc × Int × List Sc × Int × Int → Option R) : Option R :=
  bo (f_s_l5Group_io h0 h1 h2) ([], 0, [], 0, 0) fun r1 =>
  bo (f_s_l3Set_io r1.1 r1.2.2.1 r1.2.2.2.1 r1.2.2.2.2) (0, [], 0, 0) fun r2 =>
  bo (f_s_IsSet r1.1 r2.1) false fun r3 =>
  br (r3 == true)
    (bo (f_s_IsSubgroup r1.1 r1.2.1) false fun r4 =>
    br (r4 == true)
      (bo (f_s_l1Once_io 2 r2.2.1 r2.2.2.1 r2.2.2.2) (false, [], 0, 0) fun r5 =>
      br (r5.1)
        (bo (f_s_l4Sum r1.1 r2.1 r1.2.1) 0 fun r6 =>
        kR (r1.1, r6, r5.2.1, r5.2.2.1, r5.2.2.2))
        (kR (r1.1, r2.1, r5.2.1, r5.2.2.1, r5.2.2.2)))
      (kR (r1.1, r2.1, r2.2.1, r2.2.2.1, r2.2.2.2)))
    (kR (r1.1, r2.1, r2.2.1, r2.2.2.1, r2.2.2.2))
def f_s_l6Set_io (h0 : List Sc) (h1 : Int) (h2 : Int) : Option (List Sc × Int × List Sc × Int × Int) := f_s_l6Set_io_k h0 h1 h2 some

def f_s_l9Two_g5_k {R : Type} (v0 : List Sc) (v1 : List Sc) (v2 : List Sc) (v3 : Int) (v4 : Int) (t7 : Int) (kA : Int → Option R) : Option R :=
  bo (f_s_l3Set_io v1 v2 v3 v4) (0, [], 0, 0) fun r4 =>
  kA r4.1
def f_s_l9Two_g5 (v0 : List Sc) (v1 : List Sc) (v2 : List Sc) (v3 : Int) (v4 : Int) (t7 : Int) : Option (Int) := f_s_l9Two_g5_k v0 v1 v2 v3 v4 t7 some
def f_s_l9Two_k {R : Type} (code0 : List Sc) (kR : List Sc × Int × Int → Option R) : Option R :=
  bo (f_s_l1New code0) ([], 0, 0) fun r1 =>
  bo (f_s_l6Set_io r1.1 r1.2.1 r1.2.2) ([], 0, [], 0, 0) fun r2 =>
  bo (f_s_l1Once_io 3 r2.2.2.1 r2.2.2.2.1 r2.2.2.2.2) (false, [], 0, 0) fun r3 =>
  br (r3.1)
    (kR (r2.1, r2.2.1, r2.2.1))
    (bo (f_s_l9Two_g5 [] r2.1 r3.2.1 r3.2.2.1 r3.2.2.2 r2.2.1) 0 fun g13 =>
    kR (r2.1, r2.2.1, g13))
def f_s_l9Two (code0 : List Sc) : Option (List Sc × Int × Int) := f_s_l9Two_k code0 some

def f_s_DrawKneserBound_k {R : Type} (code0 : List Sc) (kR : List Sc × Int × Int → Option R) : Option R :=
  bo (f_s_l9Two code0) ([], 0, 0) fun r1 =>
  kR (r1.1, r1.2.1, r1.2.2)
def f_s_DrawKneserBound (code0 : List Sc) : Option (List Sc × Int × Int) := f_s_DrawKneserBound_k code0 some

def f_i_within_k {R : Type} (x0 : Int) (lo1 : Int) (hi2 : Int) (kR : Bool → Option R) : Option R :=
  br ((decide (x0 ≥ lo1)) == true)
    (kR (decide (x0 ≤ hi2)))
    (kR false)
def f_i_within (x0 : Int) (lo1 : Int) (hi2 : Int) : Option (Bool) := f_i_within_k x0 lo1 hi2 some

def f_i_IsGroup_k0 {R : Type} (t11 : List Sc) (t12 : Int) (n3 : Int) (t13 : Int) (kN : Int × Int → Option R) (kA : Int → Option R) (kB : Unit → Option R) : Option R :=
  br ((decide (t13 < t12)))
    (br (okAt t11 t13)
      (bo (f_i_within (atI t11 t13) 2 24) false fun r1 =>
      br ((!r1))
        (kB ())
        (kN ((w64 (n3 * (atI t11 t13))), (w64 (t13 + 1)))))
      none)
    (kA n3)
def f_i_IsGroup_r0 (t11 : List Sc) (t12 : Int) : (Int × Int) → Option (Ro (Int × Int) (Int) (Unit)) := fun s => f_i_IsGroup_k0 t11 t12 s.1 s.2 (fun s => some (.again s)) (fun e => some (.one e)) (fun e => some (.two e))
def f_i_IsGroup_k {R : Type} (g0 : List Sc) (kR : Bool → Option R) : Option R :=
  br ((decide ((g0.length : Int) > 3)))
    (kR false)
    (bl (loopL (f_i_IsGroup_r0 g0 (g0.length : Int)) (1, 0)) 0 ()
      (fun e2 =>
        kR (decide (e2 ≤ 24)))
      (fun e2 =>
        kR false))
def f_i_IsGroup (g0 : List Sc) : Option (Bool) := f_i_IsGroup_k g0 some

def f_i_OrderOf_k0 {R : Type} (t10 : List Sc) (t11 : Int) (n3 : Int) (t12 : Int) (kN : Int × Int → Option R) (kA : Int → Option R) : Option R :=
  br ((decide (t12 < t11)))
    (br (okAt t10 t12)
      (kN ((w64 (n3 * (atI t10 t12))), (w64 (t12 + 1))))
      none)
    (kA n3)
def f_i_OrderOf_r0 (t10 : List Sc) (t11 : Int) : (Int × Int) → Option (Ro (Int × Int) (Int) (Unit)) := fun s => f_i_OrderOf_k0 t10 t11 s.1 s.2 (fun s => some (.again s)) (fun e => some (.one e))
def f_i_OrderOf_k {R : Type} (g0 : List Sc) (kR : Int → Option R) : Option R :=
  bo (f_i_IsGroup g0) false fun r1 =>
  br ((!r1))
    (kR 0)
    (bl1 (loopL (f_i_OrderOf_r0 g0 (g0.length : Int)) (1, 0)) 0 fun e2 =>
    kR e2)
def f_i_OrderOf (g0 : List Sc) : Option (Int) := f_i_OrderOf_k g0 some

def f_i_IsSet_k {R : Type} (g0 : List Sc) (a1 : Int) (kR : Bool → Option R) : Option R :=
  bo (f_i_IsGroup g0) false fun r1 =>
  br (r1 == true)
    (br ((decide (a1 ≥ 0)) == true)
      (bo (f_i_OrderOf g0) 0 fun r2 =>
      br (decide (r2 < 0))
        none
        (kR (decide (a1 < (shl64 1 r2)))))
      (kR false))
    (kR false)
def f_i_IsSet (g0 : List Sc) (a1 : Int) : Option (Bool) := f_i_IsSet_k g0 a1 some

def f_i_areSets_k0 {R : Type} (g2 : List Sc) (t7 : List Sc) (t8 : Int) (t9 : Int) (kN : Int → Option R) (kA : Unit → Option R) (kB : Unit → Option R) : Option R :=
  br ((decide (t9 < t8)))
    (br (okAt t7 t9)
      (bo (f_i_IsSet g2 (atI t7 t9)) false fun r1 =>
      br ((!r1))
        (kB ())
        (kN (w64 (t9 + 1))))
      none)
    (kA ())
def f_i_areSets_r0 (g2 : List Sc) (t7 : List Sc) (t8 : Int) : Int → Option (Ro (Int) (Unit) (Unit)) := fun s => f_i_areSets_k0 g2 t7 t8 s (fun s => some (.again s)) (fun e => some (.one e)) (fun e => some (.two e))
def f_i_areSets_k {R : Type} (g0 : List Sc) (l1 : List Sc) (kR : Bool → Option R) : Option R :=
  bl (loopL (f_i_areSets_r0 g0 l1 (l1.length : Int)) 0) () ()
    (fun e2 =>
      bo (f_i_IsGroup g0) false fun r3 =>
      kR r3)
    (fun e2 =>
      kR false)
def f_i_areSets (g0 : List Sc) (l1 : List Sc) : Option (Bool) := f_i_areSets_k g0 l1 some

def f_i_members_k0 {R : Type} (a0 : Int) (out3 : List Sc) (x4 : Int) (kN : List Sc × Int → Option R) (kA : List Sc → Option R) : Option R :=
  br (decide (x4 < 0))
    none
    (br (((shr64 a0 x4) != 0))
      (br (decide (x4 < 0))
        none
        (br (((and64 (shr64 a0 x4) 1) == 1))
          (br (decide (out3.length + [(Sc.n .i64 x4)].length ≤ lim))
            (kN ((out3 ++ [(Sc.n .i64 x4)]), (w64 (x4 + 1))))
            none)
          (kN (out3, (w64 (x4 + 1))))))
      (kA out3))
def f_i_members_r0 (a0 : Int) : (List Sc × Int) → Option (Ro (List Sc × Int) (List Sc) (Unit)) := fun s => f_i_members_k0 a0 s.1 s.2 (fun s => some (.again s)) (fun e => some (.one e))
def f_i_members_k {R : Type} (a0 : Int) (kR : List Sc → Option R) : Option R :=
  bl1 (loopL (f_i_members_r0 a0) ([], 0)) [] fun e1 =>
  kR e1
def f_i_members (a0 : Int) : Option (List Sc) := f_i_members_k a0 some

def f_i_Group_add_k0 {R : Type} (t12 : List Sc) (t13 : Int) (x1 : Int) (y2 : Int) (sum7 : Int) (unit8 : Int) (t14 : Int) (kN : Int × Int × Int × Int × Int → Option R) (kA : Int → Option R) : Option R :=
  br ((decide (t14 < t13)))
    (br (okAt t12 t14)
      (br ((atI t12 t14) == 0)
        none
        (br ((atI t12 t14) == 0)
          none
          (br ((atI t12 t14) == 0)
            none
            (br ((atI t12 t14) == 0)
              none
              (br ((atI t12 t14) == 0)
                none
                (kN ((w64 (x1.tdiv (atI t12 t14))), (w64 (y2.tdiv (atI t12 t14))), (w64 (sum7 + (w64 (((w64 ((x1.tmod (atI t12 t14)) + (y2.tmod (atI t12 t14)))).tmod (atI t12 t14)) * unit8)))), (w64 (unit8 * (atI t12 t14))), (w64 (t14 + 1)))))))))
      none)
    (kA sum7)
def f_i_Group_add_r0 (t12 : List Sc) (t13 : Int) : (Int × Int × Int × Int × Int) → Option (Ro (Int × Int × Int × Int × Int) (Int) (Unit)) := fun s => f_i_Group_add_k0 t12 t13 s.1 s.2.1 s.2.2.1 s.2.2.2.1 s.2.2.2.2 (fun s => some (.again s)) (fun e => some (.one e))
def f_i_Group_add_k {R : Type} (g0 : List Sc) (x1 : Int) (y2 : Int) (kR : Int → Option R) : Option R :=
  bl1 (loopL (f_i_Group_add_r0 g0 (g0.length : Int)) (x1, y2, 0, 1, 0)) 0 fun e1 =>
  kR e1
def f_i_Group_add (g0 : List Sc) (x1 : Int) (y2 : Int) : Option (Int) := f_i_Group_add_k g0 x1 y2 some

def f_i_Group_shift_k0 {R : Type} (a1 : Int) (x2 : Int) (g3 : List Sc) (out7 : Int) (y8 : Int) (kN : Int × Int → Option R) (kA : Int → Option R) : Option R :=
  br (decide (y8 < 0))
    none
    (br (((shr64 a1 y8) != 0))
      (br (decide (y8 < 0))
        none
        (br (((and64 (shr64 a1 y8) 1) == 1))
          (bo (f_i_Group_add g3 x2 y8) 0 fun r1 =>
          br (decide (r1 < 0))
            none
            (kN ((or64 out7 (shl64 1 r1)), (w64 (y8 + 1)))))
          (kN (out7, (w64 (y8 + 1))))))
      (kA out7))
def f_i_Group_shift_r0 (a1 : Int) (x2 : Int) (g3 : List Sc) : (Int × Int) → Option (Ro (Int × Int) (Int) (Unit)) := fun s => f_i_Group_shift_k0 a1 x2 g3 s.1 s.2 (fun s => some (.again s)) (fun e => some (.one e))
def f_i_Group_shift_k {R : Type} (g0 : List Sc) (a1 : Int) (x2 : Int) (kR : Int → Option R) : Option R :=
  bl1 (loopL (f_i_Group_shift_r0 a1 x2 g0) (0, 0)) 0 fun e2 =>
  kR e2
def f_i_Group_shift (g0 : List Sc) (a1 : Int) (x2 : Int) : Option (Int) := f_i_Group_shift_k g0 a1 x2 some

def f_i_Group_sum_k0 {R : Type} (b2 : Int) (g3 : List Sc) (t12 : Int) (out7 : Int) (t11 : List Sc) (t13 : Int) (kN : Int × List Sc × Int → Option R) (kA : Int → Option R) : Option R :=
  br ((decide (t13 < t12)))
    (br (inRange t13 (t11).length)
      (br (kAt t11 t13.toNat)
        (bo (f_i_Group_shift g3 b2 (atN t11 t13.toNat)) 0 fun r2 =>
        kN ((or64 out7 r2), t11, (w64 (t13 + 1))))
        none)
      none)
    (kA out7)
def f_i_Group_sum_r0 (b2 : Int) (g3 : List Sc) (t12 : Int) : (Int × List Sc × Int) → Option (Ro (Int × List Sc × Int) (Int) (Unit)) := fun s => f_i_Group_sum_k0 b2 g3 t12 s.1 s.2.1 s.2.2 (fun s => some (.again s)) (fun e => some (.one e))
def f_i_Group_sum_k {R : Type} (g0 : List Sc) (a1 : Int) (b2 : Int) (kR : Int → Option R) : Option R :=
  bo (f_i_members a1) [] fun r1 =>
  bl1 (loopL (f_i_Group_sum_r0 b2 g0 (r1.length : Int)) (0, r1, 0)) 0 fun e3 =>
  kR e3
def f_i_Group_sum (g0 : List Sc) (a1 : Int) (b2 : Int) : Option (Int) := f_i_Group_sum_k g0 a1 b2 some

def f_i_SumOfSets_k {R : Type} (g0 : List Sc) (a1 : Int) (b2 : Int) (kR : Int → Option R) : Option R :=
  bo (f_i_areSets g0 [(Sc.n .i64 a1), (Sc.n .i64 b2)]) false fun r1 =>
  br ((!r1))
    (kR (-1))
    (bo (f_i_Group_sum g0 a1 b2) 0 fun r2 =>
    kR r2)
def f_i_SumOfSets (g0 : List Sc) (a1 : Int) (b2 : Int) : Option (Int) := f_i_SumOfSets_k g0 a1 b2 some

def f_i_SumTable_k2 {R : Type} (b2 : Int) (g3 : List Sc) (x9 : Int) (t24 : Int) (t25 : Int) (t31 : Int) (out7 : List Sc) (t23 : List Sc) (t30 : List Sc) (t32 : Int) (kN : List Sc × List Sc × List Sc × Int → Option R) (kA : List Sc × List Sc → Option R) : Option R :=
  br ((decide (t32 < t31)))
    (br (inRange t32 (t30).length)
      (br (kAt t30 t32.toNat)
        (bo (f_i_Group_add g3 x9 (atN t30 t32.toNat)) 0 fun r5 =>
        br (inRange r5 (out7).length)
          (br (kAt out7 r5.toNat)
            (br (inRange r5 (out7).length)
              (kN ((out7.set r5.toNat (Sc.n .i64 (w64 ((atN out7 r5.toNat) + 1)))), t23, t30, (w64 (t32 + 1))))
              none)
            none)
          none)
        none)
      none)
    (kA (out7, t23))
def f_i_SumTable_r2 (b2 : Int) (g3 : List Sc) (x9 : Int) (t24 : Int) (t25 : Int) (t31 : Int) : (List Sc × List Sc × List Sc × Int) → Option (Ro (List Sc × List Sc × List Sc × Int) (List Sc × List Sc) (Unit)) := fun s => f_i_SumTable_k2 b2 g3 x9 t24 t25 t31 s.1 s.2.1 s.2.2.1 s.2.2.2 (fun s => some (.again s)) (fun e => some (.one e))
def f_i_SumTable_k0 {R : Type} (b2 : Int) (g3 : List Sc) (t24 : Int) (out7 : List Sc) (t23 : List Sc) (t25 : Int) (kN : List Sc × List Sc × Int → Option R) (kA : List Sc × List Sc × Int → Option R) : Option R :=
  br ((decide (t25 < t24)))
    (br (inRange t25 (t23).length)
      (br (kAt t23 t25.toNat)
        (bo (f_i_members b2) [] fun r4 =>
        bl1 (loopL (f_i_SumTable_r2 b2 g3 (atN t23 t25.toNat) t24 t25 (r4.length : Int)) (out7, t23, r4, 0)) ([], []) fun e6 =>
        kN (e6.1, e6.2, (w64 (t25 + 1))))
        none)
      none)
    (kA (out7, t23, t25))
def f_i_SumTable_r0 (b2 : Int) (g3 : List Sc) (t24 : Int) : (List Sc × List Sc × Int) → Option (Ro (List Sc × List Sc × Int) (List Sc × List Sc × Int) (Unit)) := fun s => f_i_SumTable_k0 b2 g3 t24 s.1 s.2.1 s.2.2 (fun s => some (.again s)) (fun e => some (.one e))
def f_i_SumTable_k {R : Type} (g0 : List Sc) (a1 : Int) (b2 : Int) (kR : List Sc → Option R) : Option R :=
  bo (f_i_areSets g0 [(Sc.n .i64 a1), (Sc.n .i64 b2)]) false fun r1 =>
  br ((!r1))
    (kR [])
    (bo (f_i_OrderOf g0) 0 fun r2 =>
    br (decide (0 ≤ r2) && (decide (r2 ≤ r2) && decide (r2 ≤ (lim : Int))))
      (bo (f_i_members a1) [] fun r3 =>
      bl1 (loopL (f_i_SumTable_r0 b2 g0 (r3.length : Int)) ((List.replicate r2.toNat (Sc.n .i64 0)), r3, 0)) ([], [], 0) fun e7 =>
      kR e7.1)
      none)
def f_i_SumTable (g0 : List Sc) (a1 : Int) (b2 : Int) : Option (List Sc) := f_i_SumTable_k g0 a1 b2 some

def f_s_SumOfSets_k {R : Type} (g0 : List Sc) (a1 : Int) (b2 : Int) (kR : Int → Option R) : Option R :=
  bo (f_s_IsSet g0 a1) false fun r1 =>
  br ((!r1) == false)
    (bo (f_s_IsSet g0 b2) false fun r2 =>
    br ((!r2))
      (kR (-1))
      (bo (f_s_l4Sum g0 a1 b2) 0 fun r3 =>
      kR r3))
    (kR (-1))
def f_s_SumOfSets (g0 : List Sc) (a1 : Int) (b2 : Int) : Option (Int) := f_s_SumOfSets_k g0 a1 b2 some

def f_s_SumTable_k2 {R : Type} (g3 : List Sc) (i10 : Int) (out7 : List Sc) (x8 : List Sc) (y9 : List Sc) (k11 : Int) (kN : List Sc × List Sc × List Sc × Int → Option R) (kA : List Sc × List Sc × List Sc → Option R) : Option R :=
  br ((decide (k11 < (y9.length : Int))))
    (br (inRange i10 (x8).length)
      (br (kAt x8 i10.toNat)
        (br (inRange k11 (y9).length)
          (br (kAt y9 k11.toNat)
            (bo (f_s_l2Add g3 (atN x8 i10.toNat) (atN y9 k11.toNat)) 0 fun r6 =>
            br (inRange r6 (out7).length)
              (br (kAt out7 r6.toNat)
                (br (inRange r6 (out7).length)
                  (kN ((out7.set r6.toNat (Sc.n .i64 (w64 ((atN out7 r6.toNat) + 1)))), x8, y9, (w64 (k11 + 1))))
                  none)
                none)
              none)
            none)
          none)
        none)
      none)
    (kA (out7, x8, y9))
def f_s_SumTable_r2 (g3 : List Sc) (i10 : Int) : (List Sc × List Sc × List Sc × Int) → Option (Ro (List Sc × List Sc × List Sc × Int) (List Sc × List Sc × List Sc) (Unit)) := fun s => f_s_SumTable_k2 g3 i10 s.1 s.2.1 s.2.2.1 s.2.2.2 (fun s => some (.again s)) (fun e => some (.one e))
def f_s_SumTable_k0 {R : Type} (g3 : List Sc) (out7 : List Sc) (x8 : List Sc) (y9 : List Sc) (i10 : Int) (kN : List Sc × List Sc × List Sc × Int → Option R) (kA : List Sc × List Sc × List Sc × Int → Option R) : Option R :=
  br ((decide (i10 < (x8.length : Int))))
    (bl1 (loopL (f_s_SumTable_r2 g3 i10) (out7, x8, y9, 0)) ([], [], []) fun e7 =>
    kN (e7.1, e7.2.1, e7.2.2, (w64 (i10 + 1))))
    (kA (out7, x8, y9, i10))
def f_s_SumTable_r0 (g3 : List Sc) : (List Sc × List Sc × List Sc × Int) → Option (Ro (List Sc × List Sc × List Sc × Int) (List Sc × List Sc × List Sc × Int) (Unit)) := fun s => f_s_SumTable_k0 g3 s.1 s.2.1 s.2.2.1 s.2.2.2 (fun s => some (.again s)) (fun e => some (.one e))
def f_s_SumTable_k {R : Type} (g0 : List Sc) (a1 : Int) (b2 : Int) (kR : List Sc → Option R) : Option R :=
  bo (f_s_IsSet g0 a1) false fun r1 =>
  br ((!r1) == false)
    (bo (f_s_IsSet g0 b2) false fun r2 =>
    br ((!r2))
      (kR [])
      (bo (f_s_l2Order g0) 0 fun r3 =>
      br (decide (0 ≤ r3) && (decide (r3 ≤ r3) && decide (r3 ≤ (lim : Int))))
        (bo (f_s_l3List a1) [] fun r4 =>
        bo (f_s_l3List b2) [] fun r5 =>
        bl1 (loopL (f_s_SumTable_r0 g0) ((List.replicate r3.toNat (Sc.n .i64 0)), r4, r5, 0)) ([], [], [], 0) fun e8 =>
        kR e8.1)
        none))
    (kR [])
def f_s_SumTable (g0 : List Sc) (a1 : Int) (b2 : Int) : Option (List Sc) := f_s_SumTable_k g0 a1 b2 some

def f_l_sameInts_k0 {R : Type} (a0 : List Sc) (b1 : List Sc) (i5 : Int) (kN : Int → Option R) (kA : Unit → Option R) (kB : Unit → Option R) : Option R :=
  br ((decide (i5 < (a0.length : Int))))
    (br (okAt a0 i5)
      (br (okAt b1 i5)
        (br (((atI a0 i5) != (atI b1 i5)))
          (kB ())
          (kN (w64 (i5 + 1))))
        none)
      none)
    (kA ())
def f_l_sameInts_r0 (a0 : List Sc) (b1 : List Sc) : Int → Option (Ro (Int) (Unit) (Unit)) := fun s => f_l_sameInts_k0 a0 b1 s (fun s => some (.again s)) (fun e => some (.one e)) (fun e => some (.two e))
def f_l_sameInts_k {R : Type} (a0 : List Sc) (b1 : List Sc) (kR : Bool → Option R) : Option R :=
  br (((a0.length : Int) != (b1.length : Int)))
    (kR false)
    (bl (loopL (f_l_sameInts_r0 a0 b1) 0) () ()
      (fun e1 =>
        kR true)
      (fun e1 =>
        kR false))
def f_l_sameInts (a0 : List Sc) (b1 : List Sc) : Option (Bool) := f_l_sameInts_k a0 b1 some

def f_i_areFull_k {R : Type} (g0 : List Sc) (a1 : Int) (b2 : Int) (kR : Bool → Option R) : Option R :=
  bo (f_i_areSets g0 [(Sc.n .i64 a1), (Sc.n .i64 b2)]) false fun r1 =>
  br (r1 == true)
    (br ((a1 != 0) == true)
      (kR (b2 != 0))
      (kR false))
    (kR false)
def f_i_areFull (g0 : List Sc) (a1 : Int) (b2 : Int) : Option (Bool) := f_i_areFull_k g0 a1 b2 some

def f_i_StabilizerOf_k0 {R : Type} (a1 : Int) (g2 : List Sc) (t12 : Int) (out5 : Int) (t13 : Int) (kN : Int × Int → Option R) (kA : Int → Option R) : Option R :=
  br ((decide (t13 < t12)))
    (bo (f_i_Group_shift g2 a1 t13) 0 fun r3 =>
    br ((r3 == a1))
      (br (decide (t13 < 0))
        none
        (kN ((or64 out5 (shl64 1 t13)), (w64 (t13 + 1)))))
      (kN (out5, (w64 (t13 + 1)))))
    (kA out5)
def f_i_StabilizerOf_r0 (a1 : Int) (g2 : List Sc) (t12 : Int) : (Int × Int) → Option (Ro (Int × Int) (Int) (Unit)) := fun s => f_i_StabilizerOf_k0 a1 g2 t12 s.1 s.2 (fun s => some (.again s)) (fun e => some (.one e))
def f_i_StabilizerOf_k {R : Type} (g0 : List Sc) (a1 : Int) (kR : Int → Option R) : Option R :=
  bo (f_i_IsSet g0 a1) false fun r1 =>
  br ((!r1))
    (kR (-1))
    (bo (f_i_OrderOf g0) 0 fun r2 =>
    bl1 (loopL (f_i_StabilizerOf_r0 a1 g0 r2) (0, 0)) 0 fun e4 =>
    kR e4)
def f_i_StabilizerOf (g0 : List Sc) (a1 : Int) : Option (Int) := f_i_StabilizerOf_k g0 a1 some

def f_i_KneserPair_k {R : Type} (g0 : List Sc) (a1 : Int) (b2 : Int) (kR : Int × Int × Int × Bool → Option R) : Option R :=
  bo (f_i_areFull g0 a1 b2) false fun r1 =>
  br ((!r1))
    (kR (0, 0, 0, false))
    (bo (f_i_Group_sum g0 a1 b2) 0 fun r2 =>
    bo (f_i_StabilizerOf g0 r2) 0 fun r3 =>
    bo (f_i_Group_sum g0 r3 a1) 0 fun r4 =>
    bo (f_i_Group_sum g0 r3 b2) 0 fun r5 =>
    kR (r3, r4, r5, true))
def f_i_KneserPair (g0 : List Sc) (a1 : Int) (b2 : Int) : Option (Int × Int × Int × Bool) := f_i_KneserPair_k g0 a1 b2 some

def f_i_bits_k0 {R : Type} (a0 : Int) (n3 : Int) (kN : Int × Int → Option R) (kA : Int → Option R) : Option R :=
  br ((a0 != 0))
    (kN ((and64 a0 (w64 (a0 - 1))), (w64 (n3 + 1))))
    (kA n3)
def f_i_bits_r0 : (Int × Int) → Option (Ro (Int × Int) (Int) (Unit)) := fun s => f_i_bits_k0 s.1 s.2 (fun s => some (.again s)) (fun e => some (.one e))
def f_i_bits_k {R : Type} (a0 : Int) (kR : Int → Option R) : Option R :=
  bl1 (loopL (f_i_bits_r0) (a0, 0)) 0 fun e1 =>
  kR e1
def f_i_bits (a0 : Int) : Option (Int) := f_i_bits_k a0 some

def f_i_KneserBound_k {R : Type} (g0 : List Sc) (a1 : Int) (b2 : Int) (kR : Int → Option R) : Option R :=
  bo (f_i_KneserPair g0 a1 b2) (0, 0, 0, false) fun r1 =>
  br ((!r1.2.2.2))
    (kR (-1))
    (bo (f_i_bits r1.2.1) 0 fun r2 =>
    bo (f_i_bits r1.2.2.1) 0 fun r3 =>
    bo (f_i_bits r1.1) 0 fun r4 =>
    kR (w64 ((w64 (r2 + r3)) - r4)))
def f_i_KneserBound (g0 : List Sc) (a1 : Int) (b2 : Int) : Option (Int) := f_i_KneserBound_k g0 a1 b2 some

def f_s_l6Stabilizer_k0 {R : Type} (a1 : Int) (g2 : List Sc) (out5 : Int) (x6 : Int) (kN : Int × Int → Option R) (kA : Int → Option R) : Option R :=
  bo (f_s_l2Order g2) 0 fun r1 =>
  br ((decide (x6 < r1)))
    (bo (f_s_l3Shift g2 a1 x6) 0 fun r2 =>
    br ((r2 == a1))
      (br (decide (x6 < 0))
        none
        (kN ((or64 out5 (shl64 1 x6)), (w64 (x6 + 1)))))
      (kN (out5, (w64 (x6 + 1)))))
    (kA out5)
def f_s_l6Stabilizer_r0 (a1 : Int) (g2 : List Sc) : (Int × Int) → Option (Ro (Int × Int) (Int) (Unit)) := fun s => f_s_l6Stabilizer_k0 a1 g2 s.1 s.2 (fun s => some (.again s)) (fun e => some (.one e))
def f_s_l6Stabilizer_k {R : Type} (g0 : List Sc) (a1 : Int) (kR : Int → Option R) : Option R :=
  bl1 (loopL (f_s_l6Stabilizer_r0 a1 g0) (0, 0)) 0 fun e3 =>
  kR e3
def f_s_l6Stabilizer (g0 : List Sc) (a1 : Int) : Option (Int) := f_s_l6Stabilizer_k g0 a1 some

def f_s_l3Bits_k0 {R : Type} (n3 : Int) (x4 : Int) (kN : Int × Int → Option R) (kA : Int → Option R) : Option R :=
  br ((decide (x4 > 0)))
    (kN ((w64 (n3 + (and64 x4 1))), (shr64 x4 1)))
    (kA n3)
def f_s_l3Bits_r0 : (Int × Int) → Option (Ro (Int × Int) (Int) (Unit)) := fun s => f_s_l3Bits_k0 s.1 s.2 (fun s => some (.again s)) (fun e => some (.one e))
def f_s_l3Bits_k {R : Type} (a0 : Int) (kR : Int → Option R) : Option R :=
  bl1 (loopL (f_s_l3Bits_r0) (0, a0)) 0 fun e1 =>
  kR e1
def f_s_l3Bits (a0 : Int) : Option (Int) := f_s_l3Bits_k a0 some

def f_s_KneserBound_k {R : Type} (g0 : List Sc) (a1 : Int) (b2 : Int) (kR : Int → Option R) : Option R :=
  bo (f_s_IsSet g0 a1) false fun r1 =>
  br ((!r1) == false)
    (bo (f_s_IsSet g0 b2) false fun r2 =>
    br ((!r2) == false)
      (br ((a1 == 0) == false)
        (br ((b2 == 0))
          (kR (-1))
          (bo (f_s_l4Sum g0 a1 b2) 0 fun r3 =>
          bo (f_s_l6Stabilizer g0 r3) 0 fun r4 =>
          bo (f_s_l4Sum g0 a1 r4) 0 fun r5 =>
          bo (f_s_l3Bits r5) 0 fun r6 =>
          bo (f_s_l4Sum g0 b2 r4) 0 fun r7 =>
          bo (f_s_l3Bits r7) 0 fun r8 =>
          bo (f_s_l3Bits r4) 0 fun r9 =>
          kR (w64 ((w64 (r6 + r8)) - r9))))
        (kR (-1)))
      (kR (-1)))
    (kR (-1))
def f_s_KneserBound (g0 : List Sc) (a1 : Int) (b2 : Int) : Option (Int) := f_s_KneserBound_k g0 a1 b2 some

def f_s_CountSet_k {R : Type} (g0 : List Sc) (a1 : Int) (kR : Int → Option R) : Option R :=
  bo (f_s_IsSet g0 a1) false fun r1 =>
  br ((!r1))
    (kR (-1))
    (bo (f_s_l3Bits a1) 0 fun r2 =>
    kR r2)
def f_s_CountSet (g0 : List Sc) (a1 : Int) : Option (Int) := f_s_CountSet_k g0 a1 some

def f_i_Group_negate_k0 {R : Type} (t10 : List Sc) (t11 : Int) (x1 : Int) (sum5 : Int) (unit6 : Int) (t12 : Int) (kN : Int × Int × Int × Int → Option R) (kA : Int → Option R) : Option R :=
  br ((decide (t12 < t11)))
    (br (okAt t10 t12)
      (br ((atI t10 t12) == 0)
        none
        (br ((atI t10 t12) == 0)
          none
          (br ((atI t10 t12) == 0)
            none
            (kN ((w64 (x1.tdiv (atI t10 t12))), (w64 (sum5 + (w64 (((w64 ((atI t10 t12) - (x1.tmod (atI t10 t12)))).tmod (atI t10 t12)) * unit6)))), (w64 (unit6 * (atI t10 t12))), (w64 (t12 + 1)))))))
      none)
    (kA sum5)
def f_i_Group_negate_r0 (t10 : List Sc) (t11 : Int) : (Int × Int × Int × Int) → Option (Ro (Int × Int × Int × Int) (Int) (Unit)) := fun s => f_i_Group_negate_k0 t10 t11 s.1 s.2.1 s.2.2.1 s.2.2.2 (fun s => some (.again s)) (fun e => some (.one e))
def f_i_Group_negate_k {R : Type} (g0 : List Sc) (x1 : Int) (kR : Int → Option R) : Option R :=
  bl1 (loopL (f_i_Group_negate_r0 g0 (g0.length : Int)) (x1, 0, 1, 0)) 0 fun e1 =>
  kR e1
def f_i_Group_negate (g0 : List Sc) (x1 : Int) : Option (Int) := f_i_Group_negate_k g0 x1 some

def f_i_Group_opposite_k0 {R : Type} (g2 : List Sc) (t10 : Int) (out5 : Int) (t9 : List Sc) (t11 : Int) (kN : Int × List Sc × Int → Option R) (kA : Int → Option R) : Option R :=
  br ((decide (t11 < t10)))
    (br (inRange t11 (t9).length)
      (br (kAt t9 t11.toNat)
        (bo (f_i_Group_negate g2 (atN t9 t11.toNat)) 0 fun r2 =>
        br (decide (r2 < 0))
          none
          (kN ((or64 out5 (shl64 1 r2)), t9, (w64 (t11 + 1)))))
        none)
      none)
    (kA out5)
def f_i_Group_opposite_r0 (g2 : List Sc) (t10 : Int) : (Int × List Sc × Int) → Option (Ro (Int × List Sc × Int) (Int) (Unit)) := fun s => f_i_Group_opposite_k0 g2 t10 s.1 s.2.1 s.2.2 (fun s => some (.again s)) (fun e => some (.one e))
def f_i_Group_opposite_k {R : Type} (g0 : List Sc) (a1 : Int) (kR : Int → Option R) : Option R :=
  bo (f_i_members a1) [] fun r1 =>
  bl1 (loopL (f_i_Group_opposite_r0 g0 (r1.length : Int)) (0, r1, 0)) 0 fun e3 =>
  kR e3
def f_i_Group_opposite (g0 : List Sc) (a1 : Int) : Option (Int) := f_i_Group_opposite_k g0 a1 some

def f_i_Group_generated_k0 {R : Type} (a1 : Int) (g2 : List Sc) (h5 : Int) (kN : Int → Option R) (kA : Int → Option R) : Option R :=
  bo (f_i_Group_sum g2 h5 a1) 0 fun r1 =>
  bo (f_i_Group_opposite g2 a1) 0 fun r2 =>
  bo (f_i_Group_sum g2 h5 r2) 0 fun r3 =>
  br (((or64 (or64 h5 r1) r3) == h5))
    (kA h5)
    (kN (or64 (or64 h5 r1) r3))
def f_i_Group_generated_r0 (a1 : Int) (g2 : List Sc) : Int → Option (Ro (Int) (Int) (Unit)) := fun s => f_i_Group_generated_k0 a1 g2 s (fun s => some (.again s)) (fun e => some (.one e))
def f_i_Group_generated_k {R : Type} (g0 : List Sc) (a1 : Int) (kR : Int → Option R) : Option R :=
  bl1 (loopL (f_i_Group_generated_r0 a1 g0) 1) 0 fun e4 =>
  kR e4
def f_i_Group_generated (g0 : List Sc) (a1 : Int) : Option (Int) := f_i_Group_generated_k g0 a1 some

def f_i_IsSubgroup_k {R : Type} (g0 : List Sc) (a1 : Int) (kR : Bool → Option R) : Option R :=
  bo (f_i_IsSet g0 a1) false fun r1 =>
  br (r1 == true)
    (bo (f_i_Group_generated g0 a1) 0 fun r2 =>
    kR (r2 == a1))
    (kR false)
def f_i_IsSubgroup (g0 : List Sc) (a1 : Int) : Option (Bool) := f_i_IsSubgroup_k g0 a1 some

def f_i_IsKneserTight_k {R : Type} (g0 : List Sc) (a1 : Int) (b2 : Int) (kR : Bool → Option R) : Option R :=
  bo (f_i_areFull g0 a1 b2) false fun r1 =>
  br (r1 == true)
    (bo (f_i_Group_sum g0 a1 b2) 0 fun r2 =>
    bo (f_i_bits r2) 0 fun r3 =>
    bo (f_i_KneserBound g0 a1 b2) 0 fun r4 =>
    kR (r3 == r4))
    (kR false)
def f_i_IsKneserTight (g0 : List Sc) (a1 : Int) (b2 : Int) : Option (Bool) := f_i_IsKneserTight_k g0 a1 b2 some

def f_l_total_k0 {R : Type} (l0 : List Sc) (n3 : Int) (i4 : Int) (kN : Int × Int → Option R) (kA : Int → Option R) : Option R :=
  br ((decide (i4 < (l0.length : Int))))
    (br (okAt l0 i4)
      (kN ((w64 (n3 + (atI l0 i4))), (w64 (i4 + 1))))
      none)
    (kA n3)
def f_l_total_r0 (l0 : List Sc) : (Int × Int) → Option (Ro (Int × Int) (Int) (Unit)) := fun s => f_l_total_k0 l0 s.1 s.2 (fun s => some (.again s)) (fun e => some (.one e))
def f_l_total_k {R : Type} (l0 : List Sc) (kR : Int → Option R) : Option R :=
  bl1 (loopL (f_l_total_r0 l0) (0, 0)) 0 fun e1 =>
  kR e1
def f_l_total (l0 : List Sc) : Option (Int) := f_l_total_k l0 some

def f_i_EnergyOf_k0 {R : Type} (t20 : Int) (n7 : Int) (t19 : List Sc) (t21 : Int) (kN : Int × List Sc × Int → Option R) (kA : Int → Option R) : Option R :=
  br ((decide (t21 < t20)))
    (br (inRange t21 (t19).length)
      (br (kAt t19 t21.toNat)
        (kN ((w64 (n7 + (w64 ((atN t19 t21.toNat) * (atN t19 t21.toNat))))), t19, (w64 (t21 + 1))))
        none)
      none)
    (kA n7)
def f_i_EnergyOf_r0 (t20 : Int) : (Int × List Sc × Int) → Option (Ro (Int × List Sc × Int) (Int) (Unit)) := fun s => f_i_EnergyOf_k0 t20 s.1 s.2.1 s.2.2 (fun s => some (.again s)) (fun e => some (.one e))
def f_i_EnergyOf_k {R : Type} (g0 : List Sc) (a1 : Int) (b2 : Int) (kR : Int → Option R) : Option R :=
  bo (f_i_areSets g0 [(Sc.n .i64 a1), (Sc.n .i64 b2)]) false fun r1 =>
  br ((!r1))
    (kR (-1))
    (bo (f_i_SumTable g0 a1 b2) [] fun r2 =>
    bl1 (loopL (f_i_EnergyOf_r0 (r2.length : Int)) (0, r2, 0)) 0 fun e3 =>
    kR e3)
def f_i_EnergyOf (g0 : List Sc) (a1 : Int) (b2 : Int) : Option (Int) := f_i_EnergyOf_k g0 a1 b2 some

def f_i_IsPeriodic_k {R : Type} (g0 : List Sc) (a1 : Int) (kR : Bool → Option R) : Option R :=
  bo (f_i_IsSet g0 a1) false fun r1 =>
  br (r1 == true)
    (bo (f_i_StabilizerOf g0 a1) 0 fun r2 =>
    bo (f_i_bits r2) 0 fun r3 =>
    kR (decide (r3 > 1)))
    (kR false)
def f_i_IsPeriodic (g0 : List Sc) (a1 : Int) : Option (Bool) := f_i_IsPeriodic_k g0 a1 some

def f_i_CorrelationOf_k {R : Type} (g0 : List Sc) (a1 : Int) (b2 : Int) (kR : List Sc → Option R) : Option R :=
  bo (f_i_areSets g0 [(Sc.n .i64 a1), (Sc.n .i64 b2)]) false fun r1 =>
  br ((!r1))
    (kR [])
    (bo (f_i_Group_opposite g0 b2) 0 fun r2 =>
    bo (f_i_SumTable g0 a1 r2) [] fun r3 =>
    kR r3)
def f_i_CorrelationOf (g0 : List Sc) (a1 : Int) (b2 : Int) : Option (List Sc) := f_i_CorrelationOf_k g0 a1 b2 some

def f_i_Group_has_k {R : Type} (g0 : List Sc) (x1 : Int) (kR : Bool → Option R) : Option R :=
  bo (f_i_OrderOf g0) 0 fun r1 =>
  bo (f_i_within x1 0 (w64 (r1 - 1))) false fun r2 =>
  kR r2
def f_i_Group_has (g0 : List Sc) (x1 : Int) : Option (Bool) := f_i_Group_has_k g0 x1 some

def f_i_CountSums_k {R : Type} (g0 : List Sc) (a1 : Int) (b2 : Int) (x3 : Int) (kR : Int → Option R) : Option R :=
  bo (f_i_areSets g0 [(Sc.n .i64 a1), (Sc.n .i64 b2)]) false fun r1 =>
  br ((!r1) == false)
    (bo (f_i_Group_has g0 x3) false fun r2 =>
    br ((!r2))
      (kR (-1))
      (bo (f_i_SumTable g0 a1 b2) [] fun r3 =>
      br (inRange x3 (r3).length)
        (br (kAt r3 x3.toNat)
          (kR (atN r3 x3.toNat))
          none)
        none))
    (kR (-1))
def f_i_CountSums (g0 : List Sc) (a1 : Int) (b2 : Int) (x3 : Int) : Option (Int) := f_i_CountSums_k g0 a1 b2 x3 some

def f_l_FnTop_k0 {R : Type} (t4 : Int) (t5 : Int) (t6 : Int) (v0 : List Sc) (t7 : List Sc) (t14 : List Sc) (t15 : List Sc) (t16 : Int) (t17 : Int) (kN : List Sc × List Sc × List Sc × List Sc × Int × Int → Option R) (kA : List Sc × List Sc × Int → Option R) : Option R :=
  br ((decide (t17 < (t14.length : Int))) == true)
    (br ((decide (t17 < (t15.length : Int))))
      (br (inRange t17 (t14).length)
        (br (kAt t14 t17.toNat)
          (br (inRange t17 (t15).length)
            (br (kAt t15 t17.toNat)
              (kN (v0, t7, t14, t15, (w64 (t16 + (w64 ((atN t14 t17.toNat) * (atN t15 t17.toNat))))), (w64 (t17 + 1))))
              none)
            none)
          none)
        none)
      (kA (v0, t7, t16)))
    (kA (v0, t7, t16))
def f_l_FnTop_r0 (t4 : Int) (t5 : Int) (t6 : Int) : (List Sc × List Sc × List Sc × List Sc × Int × Int) → Option (Ro (List Sc × List Sc × List Sc × List Sc × Int × Int) (List Sc × List Sc × Int) (Unit)) := fun s => f_l_FnTop_k0 t4 t5 t6 s.1 s.2.1 s.2.2.1 s.2.2.2.1 s.2.2.2.2.1 s.2.2.2.2.2 (fun s => some (.again s)) (fun e => some (.one e))
def f_l_FnTop_k2 {R : Type} (t4 : Int) (t5 : Int) (t6 : Int) (v0 : List Sc) (t7 : List Sc) (t18 : Int) (kN : List Sc × List Sc × Int → Option R) (kA : List Sc → Option R) (kB : Unit → Option R) : Option R :=
  br ((decide (t18 < (t7.length : Int))))
    (br (inRange t18 (t7).length)
      (br (kAt t7 t18.toNat)
        (bo (f_i_CountSums v0 t4 t5 t18) 0 fun r34 =>
        br (((atN t7 t18.toNat) != r34))
          (kB ())
          (kN (v0, t7, (w64 (t18 + 1)))))
        none)
      none)
    (kA v0)
def f_l_FnTop_r2 (t4 : Int) (t5 : Int) (t6 : Int) : (List Sc × List Sc × Int) → Option (Ro (List Sc × List Sc × Int) (List Sc) (Unit)) := fun s => f_l_FnTop_k2 t4 t5 t6 s.1 s.2.1 s.2.2 (fun s => some (.again s)) (fun e => some (.one e)) (fun e => some (.two e))
def f_l_FnTop_w25_k {R : Type} (v0 : List Sc) (t4 : Int) (t5 : Int) (t6 : Int) (t7 : List Sc) (t16 : Int) (kA : Unit → Option R) (kB : Unit → Option R) : Option R :=
  bo (f_i_EnergyOf v0 t4 t5) 0 fun r28 =>
  br ((t16 != r28))
    (kA ())
    (kB ())
def f_l_FnTop_w25 (v0 : List Sc) (t4 : Int) (t5 : Int) (t6 : Int) (t7 : List Sc) (t16 : Int) : Option (En (Unit) (Unit)) := f_l_FnTop_w25_k v0 t4 t5 t6 t7 t16 (fun e => some (.one e)) (fun e => some (.two e))
def f_l_FnTop_w18_k {R : Type} (v0 : List Sc) (t4 : Int) (t5 : Int) (t6 : Int) (t7 : List Sc) (kA : Unit → Option R) (kB : (List Sc × List Sc) → Option R) : Option R :=
  bo (f_i_CorrelationOf v0 t4 t4) [] fun r25 =>
  bo (f_i_CorrelationOf v0 t5 t5) [] fun r26 =>
  bl1 (loopL (f_l_FnTop_r0 t4 t5 t6) (v0, t7, r25, r26, 0, 0)) ([], [], 0) fun e27 =>
  bl (f_l_FnTop_w25 e27.1 t4 t5 t6 e27.2.1 e27.2.2) () ()
    (fun w29 =>
      kA ())
    (fun w29 =>
      kB (e27.1, e27.2.1))
def f_l_FnTop_w18 (v0 : List Sc) (t4 : Int) (t5 : Int) (t6 : Int) (t7 : List Sc) : Option (En (Unit) (List Sc × List Sc)) := f_l_FnTop_w18_k v0 t4 t5 t6 t7 (fun e => some (.one e)) (fun e => some (.two e))
def f_l_FnTop_w16_k {R : Type} (v0 : List Sc) (t4 : Int) (t5 : Int) (t6 : Int) (t7 : List Sc) (t13 : Int) (kA : Unit → Option R) (kB : (List Sc × List Sc) → Option R) : Option R :=
  bo (f_s_CountSet v0 t4) 0 fun r22 =>
  bo (f_s_CountSet v0 t5) 0 fun r23 =>
  br ((decide (t13 < (w64 ((w64 (r22 + r23)) - 1)))) == true)
    (bo (f_i_IsPeriodic v0 t6) false fun r24 =>
    br ((!r24))
      (kA ())
      (bl (f_l_FnTop_w18 v0 t4 t5 t6 t7) () ([], [])
        (fun w30 =>
          kA ())
        (fun w30 =>
          kB (w30.1, w30.2))))
    (bl (f_l_FnTop_w18 v0 t4 t5 t6 t7) () ([], [])
      (fun w31 =>
        kA ())
      (fun w31 =>
        kB (w31.1, w31.2)))
def f_l_FnTop_w16 (v0 : List Sc) (t4 : Int) (t5 : Int) (t6 : Int) (t7 : List Sc) (t13 : Int) : Option (En (Unit) (List Sc × List Sc)) := f_l_FnTop_w16_k v0 t4 t5 t6 t7 t13 (fun e => some (.one e)) (fun e => some (.two e))
def f_l_FnTop_m14_0_k {R : Type} (zv0 : List Sc) (zt4 : Int) (zt5 : Int) (zt6 : Int) (zt7 : List Sc) (zt8 : Int) (zt9 : Int) (zt10 : Int) (zt11 : Int) (zt12 : Bool) (zt13 : Int) (zt74 : Bool) (zt75 : Bool) (zt77 : Int) (zt78 : Int) (zt79 : Bool) (zt80 : Bool) (zt82 : List Sc) (zt83 : Int) (zt84 : Bool) (zt85 : Bool) (zt86 : Bool) (zt88 : Int) (zt89 : List Sc) (zt90 : Int) (zt91 : Int) (zt92 : Bool) (zt93 : Bool) (zt95 : List Sc) (zt96 : Int) (zt97 : Int) (zt98 : Int) (zt99 : Int) (zt100 : Bool) (zt101 : Bool) (zt103 : List Sc) (zt104 : Int) (zt105 : Int) (zt106 : Bool) (zt107 : Int) (zt108 : Int) (zt109 : Bool) (zt110 : Bool) (zt111 : Bool) (kA : Unit → Option R) (kB : (List Sc × Int × Int × Int × List Sc) → Option R) : Option R :=
  br (zt111 == false)
    (bo (f_l_total zt7) 0 fun r16 =>
    bo (f_s_CountSet zv0 zt4) 0 fun r17 =>
    bo (f_s_CountSet zv0 zt5) 0 fun r18 =>
    br ((r16 != (w64 (r17 * r18))) == false)
      (bo (f_i_EnergyOf zv0 zt4 zt5) 0 fun r19 =>
      bo (f_l_total zt7) 0 fun r20 =>
      bo (f_l_total zt7) 0 fun r21 =>
      br ((decide ((w64 (r19 * zt13)) < (w64 (r20 * r21)))))
        (kA ())
        (bl (f_l_FnTop_w16 zv0 zt4 zt5 zt6 zt7 zt13) () ([], [])
          (fun w32 =>
            kA ())
          (fun w32 =>
            kB (w32.1, zt4, zt5, zt6, w32.2))))
      (kA ()))
    (kA ())
def f_l_FnTop_m14_1_k {R : Type} (zv0 : List Sc) (zt4 : Int) (zt5 : Int) (zt6 : Int) (zt7 : List Sc) (zt8 : Int) (zt9 : Int) (zt10 : Int) (zt11 : Int) (zt12 : Bool) (zt13 : Int) (zt74 : Bool) (zt75 : Bool) (zt77 : Int) (zt78 : Int) (zt79 : Bool) (zt80 : Bool) (zt82 : List Sc) (zt83 : Int) (zt84 : Bool) (zt85 : Bool) (zt86 : Bool) (zt88 : Int) (zt89 : List Sc) (zt90 : Int) (zt91 : Int) (zt92 : Bool) (zt93 : Bool) (zt95 : List Sc) (zt96 : Int) (zt97 : Int) (zt98 : Int) (zt99 : Int) (zt100 : Bool) (zt101 : Bool) (kA : Unit → Option R) (kB : (List Sc × Int × Int × Int × List Sc) → Option R) : Option R :=
  kA ()
def f_l_FnTop_m14_2_k {R : Type} (zv0 : List Sc) (zt4 : Int) (zt5 : Int) (zt6 : Int) (zt7 : List Sc) (zt8 : Int) (zt9 : Int) (zt10 : Int) (zt11 : Int) (zt12 : Bool) (zt13 : Int) (zt74 : Bool) (zt75 : Bool) (zt77 : Int) (zt78 : Int) (zt79 : Bool) (zt80 : Bool) (zt82 : List Sc) (zt83 : Int) (zt84 : Bool) (zt85 : Bool) (zt86 : Bool) (zt88 : Int) (zt89 : List Sc) (zt90 : Int) (zt91 : Int) (zt92 : Bool) (zt93 : Bool) (kA : Unit → Option R) (kB : (List Sc × Int × Int × Int × List Sc) → Option R) : Option R :=
  kA ()
def f_l_FnTop_m14_3_k {R : Type} (zv0 : List Sc) (zt4 : Int) (zt5 : Int) (zt6 : Int) (zt7 : List Sc) (zt8 : Int) (zt9 : Int) (zt10 : Int) (zt11 : Int) (zt12 : Bool) (zt13 : Int) (zt74 : Bool) (zt75 : Bool) (zt77 : Int) (zt78 : Int) (zt79 : Bool) (zt80 : Bool) (zt82 : List Sc) (zt83 : Int) (zt84 : Bool) (zt85 : Bool) (zt86 : Bool) (kA : Unit → Option R) (kB : (List Sc × Int × Int × Int × List Sc) → Option R) : Option R :=
  kA ()
def f_l_FnTop_m14_4_k {R : Type} (zv0 : List Sc) (zt4 : Int) (zt5 : Int) (zt6 : Int) (zt7 : List Sc) (zt8 : Int) (zt9 : Int) (zt10 : Int) (zt11 : Int) (zt12 : Bool) (zt13 : Int) (zt74 : Bool) (zt75 : Bool) (zt77 : Int) (zt78 : Int) (zt79 : Bool) (zt80 : Bool) (kA : Unit → Option R) (kB : (List Sc × Int × Int × Int × List Sc) → Option R) : Option R :=
  kA ()
def f_l_FnTop_m14_5_k {R : Type} (zv0 : List Sc) (zt4 : Int) (zt5 : Int) (zt6 : Int) (zt7 : List Sc) (zt8 : Int) (zt9 : Int) (zt10 : Int) (zt11 : Int) (zt12 : Bool) (zt13 : Int) (zt74 : Bool) (zt75 : Bool) (kA : Unit → Option R) (kB : (List Sc × Int × Int × Int × List Sc) → Option R) : Option R :=
  kA ()
def f_l_FnTop_w14_k {R : Type} (v0 : List Sc) (t4 : Int) (t5 : Int) (t6 : Int) (t7 : List Sc) (t8 : Int) (t9 : Int) (t10 : Int) (t11 : Int) (t12 : Bool) (t13 : Int) (kA : Unit → Option R) (kB : (List Sc × Int × Int × Int × List Sc) → Option R) : Option R :=
  br ((!t12) == false)
    (br ((decide (t13 < t8)) == false)
      (bo (f_i_IsSubgroup v0 t9) false fun r12 =>
      br ((!r12) == false)
        (bo (f_i_StabilizerOf v0 t6) 0 fun r13 =>
        br ((t9 != r13) == false)
          (bo (f_i_SumOfSets v0 t10 t11) 0 fun r14 =>
          br ((r14 != t6) == false)
            (bo (f_i_IsKneserTight v0 t4 t5) false fun r15 =>
            f_l_FnTop_m14_0_k v0 t4 t5 t6 t7 t8 t9 t10 t11 t12 t13 t12 (!t12) t13 t8 (decide (t13 < t8)) (decide (t13 < t8)) v0 t9 r12 (!r12) (!r12) t9 v0 t6 r13 (t9 != r13) (t9 != r13) v0 t10 t11 r14 t6 (r14 != t6) (r14 != t6) v0 t4 t5 r15 t13 t8 (t13 == t8) (!(r15 == (t13 == t8))) (!(r15 == (t13 == t8))) kA kB)
            (f_l_FnTop_m14_1_k v0 t4 t5 t6 t7 t8 t9 t10 t11 t12 t13 t12 (!t12) t13 t8 (decide (t13 < t8)) (decide (t13 < t8)) v0 t9 r12 (!r12) (!r12) t9 v0 t6 r13 (t9 != r13) (t9 != r13) v0 t10 t11 r14 t6 (r14 != t6) (r14 != t6) kA kB))
          (f_l_FnTop_m14_2_k v0 t4 t5 t6 t7 t8 t9 t10 t11 t12 t13 t12 (!t12) t13 t8 (decide (t13 < t8)) (decide (t13 < t8)) v0 t9 r12 (!r12) (!r12) t9 v0 t6 r13 (t9 != r13) (t9 != r13) kA kB))
        (f_l_FnTop_m14_3_k v0 t4 t5 t6 t7 t8 t9 t10 t11 t12 t13 t12 (!t12) t13 t8 (decide (t13 < t8)) (decide (t13 < t8)) v0 t9 r12 (!r12) (!r12) kA kB))
      (f_l_FnTop_m14_4_k v0 t4 t5 t6 t7 t8 t9 t10 t11 t12 t13 t12 (!t12) t13 t8 (decide (t13 < t8)) (decide (t13 < t8)) kA kB))
    (f_l_FnTop_m14_5_k v0 t4 t5 t6 t7 t8 t9 t10 t11 t12 t13 t12 (!t12) kA kB)
def f_l_FnTop_w14 (v0 : List Sc) (t4 : Int) (t5 : Int) (t6 : Int) (t7 : List Sc) (t8 : Int) (t9 : Int) (t10 : Int) (t11 : Int) (t12 : Bool) (t13 : Int) : Option (En (Unit) (List Sc × Int × Int × Int × List Sc)) := f_l_FnTop_w14_k v0 t4 t5 t6 t7 t8 t9 t10 t11 t12 t13 (fun e => some (.one e)) (fun e => some (.two e))
def f_l_FnTop_w32_k {R : Type} (v0 : List Sc) (t4 : Int) (t5 : Int) (t6 : Int) (kA : Bool → Option R) : Option R :=
  bo (f_i_SumOfSets v0 t5 t4) 0 fun r36 =>
  kA (r36 == t6)
def f_l_FnTop_w32 (v0 : List Sc) (t4 : Int) (t5 : Int) (t6 : Int) : Option (Bool) := f_l_FnTop_w32_k v0 t4 t5 t6 some
def f_l_FnTop_w27_k {R : Type} (v0 : List Sc) (t4 : Int) (t5 : Int) (t6 : Int) (t7 : List Sc) (kA : Bool → Option R) : Option R :=
  bl (loopL (f_l_FnTop_r2 t4 t5 t6) (v0, t7, 0)) [] ()
    (fun e35 =>
      bo (f_l_FnTop_w32 e35 t4 t5 t6) false fun w37 =>
      kA w37)
    (fun e35 =>
      kA false)
def f_l_FnTop_w27 (v0 : List Sc) (t4 : Int) (t5 : Int) (t6 : Int) (t7 : List Sc) : Option (Bool) := f_l_FnTop_w27_k v0 t4 t5 t6 t7 some
def f_l_FnTop_w11_k {R : Type} (v0 : List Sc) (t4 : Int) (t5 : Int) (t6 : Int) (t7 : List Sc) (t8 : Int) (kA : Bool → Option R) : Option R :=
  br ((decide (t8 ≥ 0)))
    (bo (f_i_KneserPair v0 t4 t5) (0, 0, 0, false) fun r10 =>
    bo (f_s_CountSet v0 t6) 0 fun r11 =>
    bl (f_l_FnTop_w14 v0 t4 t5 t6 t7 t8 r10.1 r10.2.1 r10.2.2.1 r10.2.2.2 r11) () ([], 0, 0, 0, [])
      (fun w33 =>
        kA false)
      (fun w33 =>
        bo (f_l_FnTop_w27 w33.1 w33.2.1 w33.2.2.1 w33.2.2.2.1 w33.2.2.2.2) false fun w38 =>
        kA w38))
    (bo (f_l_FnTop_w27 v0 t4 t5 t6 t7) false fun w39 =>
    kA w39)
def f_l_FnTop_w11 (v0 : List Sc) (t4 : Int) (t5 : Int) (t6 : Int) (t7 : List Sc) (t8 : Int) : Option (Bool) := f_l_FnTop_w11_k v0 t4 t5 t6 t7 t8 some
def f_l_FnTop_w8_k {R : Type} (v0 : List Sc) (t4 : Int) (t5 : Int) (t6 : Int) (t7 : List Sc) (kA : Bool → Option R) : Option R :=
  bo (f_i_KneserBound v0 t4 t5) 0 fun r8 =>
  bo (f_s_KneserBound v0 t4 t5) 0 fun r9 =>
  br ((r8 != r9))
    (kA false)
    (bo (f_l_FnTop_w11 v0 t4 t5 t6 t7 r8) false fun w40 =>
    kA w40)
def f_l_FnTop_w8 (v0 : List Sc) (t4 : Int) (t5 : Int) (t6 : Int) (t7 : List Sc) : Option (Bool) := f_l_FnTop_w8_k v0 t4 t5 t6 t7 some
def f_l_FnTop_w3_k {R : Type} (t0 : List Sc) (kA : Bool → Option R) : Option R :=
  bo (f_s_DrawKneserBound t0) ([], 0, 0) fun r2 =>
  bo (f_i_SumOfSets r2.1 r2.2.1 r2.2.2) 0 fun r3 =>
  bo (f_i_SumTable r2.1 r2.2.1 r2.2.2) [] fun r4 =>
  bo (f_s_SumOfSets r2.1 r2.2.1 r2.2.2) 0 fun r5 =>
  br ((r3 != r5) == false)
    (bo (f_s_SumTable r2.1 r2.2.1 r2.2.2) [] fun r6 =>
    bo (f_l_sameInts r4 r6) false fun r7 =>
    br ((!r7))
      (kA false)
      (bo (f_l_FnTop_w8 r2.1 r2.2.1 r2.2.2 r3 r4) false fun w41 =>
      kA w41))
    (kA false)
def f_l_FnTop_w3 (t0 : List Sc) : Option (Bool) := f_l_FnTop_w3_k t0 some
def f_l_FnTop_k {R : Type} (L0 : List Sc) (kR : Bool → Option R) : Option R :=
  bo (f_l_big L0) false fun r1 =>
  br (r1)
    (kR true)
    (bo (f_l_FnTop_w3 L0) false fun w42 =>
    kR w42)
def f_l_FnTop (L0 : List Sc) : Option (Bool) := f_l_FnTop_k L0 some
end
end Go.Proofs.Ytbajbkdmfdfdmaa
