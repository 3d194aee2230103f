/-
  What the functions compute, as plain functions (printed by gen2.py).
-/
import Derived.Test.YtdocbpiocinllaaVGen
import Derived.Test.YtdocbpiocinllaaVSortF
set_option linter.unusedVariables false
set_option linter.unusedSimpArgs false
namespace Go.Proofs.Ytdocbpiocinllaa
open Go Ev
noncomputable section
def f_l_szIntS_k {R : Type} (a0 : List Sc) (left1 : Int) (kR : Int → Option R) : Option R :=
  br ((decide ((w64 (left1 - (a0.length : Int))) < 0)))
    (kR (-1))
    (kR (w64 (left1 - (a0.length : Int))))
def f_l_szIntS (a0 : List Sc) (left1 : Int) : Option (Int) := f_l_szIntS_k a0 left1 some

def f_l_szGroup_k {R : Type} (a0 : List Sc) (left1 : Int) (kR : Int → Option R) : Option R :=
  bo (f_l_szIntS a0 left1) 0 fun r1 =>
  br ((decide (r1 < 0)))
    (kR (-1))
    (kR r1)
def f_l_szGroup (a0 : List Sc) (left1 : Int) : Option (Int) := f_l_szGroup_k a0 left1 some

def f_l_toIntS_k0 {R : Type} (a0 : List Sc) (out3 : List Sc) (i4 : Int) (kN : List Sc × Int → Option R) (kA : List Sc → Option R) : Option R :=
  br ((decide (i4 < (a0.length : Int))))
    (br (okAt a0 i4)
      (br (inRange i4 (out3).length)
        (kN ((out3.set i4.toNat (Sc.n .i64 (atI a0 i4))), (w64 (i4 + 1))))
        none)
      none)
    (kA out3)
def f_l_toIntS_r0 (a0 : List Sc) : (List Sc × Int) → Option (Ro (List Sc × Int) (List Sc) (Unit)) := fun s => f_l_toIntS_k0 a0 s.1 s.2 (fun s => some (.again s)) (fun e => some (.one e))
def f_l_toIntS_k {R : Type} (a0 : List Sc) (kR : List Sc → Option R) : Option R :=
  br (decide (0 ≤ (a0.length : Int)) && (decide ((a0.length : Int) ≤ (a0.length : Int)) && decide ((a0.length : Int) ≤ (lim : Int))))
    (bl1 (loopL (f_l_toIntS_r0 a0) ((List.replicate (a0.length : Int).toNat (Sc.n .i64 0)), 0)) [] fun e1 =>
    kR e1)
    none
def f_l_toIntS (a0 : List Sc) : Option (List Sc) := f_l_toIntS_k a0 some

def f_l_toGroup_k {R : Type} (a0 : List Sc) (kR : List Sc → Option R) : Option R :=
  bo (f_l_toIntS a0) [] fun r1 =>
  kR r1
def f_l_toGroup (a0 : List Sc) : Option (List Sc) := f_l_toGroup_k a0 some

def f_s_l1In_k {R : Type} (x0 : Int) (low1 : Int) (high2 : Int) (kR : Bool → Option R) : Option R :=
  br ((decide (x0 ≥ low1)) == true)
    (kR (decide (x0 ≤ high2)))
    (kR false)
def f_s_l1In (x0 : Int) (low1 : Int) (high2 : Int) : Option (Bool) := f_s_l1In_k x0 low1 high2 some

def f_s_IsGroup_k0 {R : Type} (g1 : List Sc) (n3 : Int) (i4 : Int) (kN : Int × Int → Option R) (kA : Int → Option R) (kB : Unit → Option R) : Option R :=
  br ((decide (i4 < (g1.length : Int))))
    (br (okAt g1 i4)
      (bo (f_s_l1In (atI g1 i4) 2 24) false fun r1 =>
      br ((!r1) == false)
        (br ((decide (i4 > 2)))
          (kB ())
          (br (okAt g1 i4)
            (kN ((w64 (n3 * (atI g1 i4))), (w64 (i4 + 1))))
            none))
        (kB ()))
      none)
    (kA n3)
def f_s_IsGroup_r0 (g1 : List Sc) : (Int × Int) → Option (Ro (Int × Int) (Int) (Unit)) := fun s => f_s_IsGroup_k0 g1 s.1 s.2 (fun s => some (.again s)) (fun e => some (.one e)) (fun e => some (.two e))
def f_s_IsGroup_k {R : Type} (g0 : List Sc) (kR : Bool → Option R) : Option R :=
  bl (loopL (f_s_IsGroup_r0 g0) (1, 0)) 0 ()
    (fun e2 =>
      kR (decide (e2 ≤ 24)))
    (fun e2 =>
      kR false)
def f_s_IsGroup (g0 : List Sc) : Option (Bool) := f_s_IsGroup_k g0 some

def f_s_l2Order_k0 {R : Type} (g1 : List Sc) (n3 : Int) (i4 : Int) (kN : Int × Int → Option R) (kA : Int → Option R) : Option R :=
  br ((decide (i4 < (g1.length : Int))))
    (br (okAt g1 i4)
      (kN ((w64 (n3 * (atI g1 i4))), (w64 (i4 + 1))))
      none)
    (kA n3)
def f_s_l2Order_r0 (g1 : List Sc) : (Int × Int) → Option (Ro (Int × Int) (Int) (Unit)) := fun s => f_s_l2Order_k0 g1 s.1 s.2 (fun s => some (.again s)) (fun e => some (.one e))
def f_s_l2Order_k {R : Type} (g0 : List Sc) (kR : Int → Option R) : Option R :=
  bl1 (loopL (f_s_l2Order_r0 g0) (1, 0)) 0 fun e1 =>
  kR e1
def f_s_l2Order (g0 : List Sc) : Option (Int) := f_s_l2Order_k g0 some

def f_s_l2Add_k0 {R : Type} (g3 : List Sc) (x1 : Int) (y2 : Int) (z7 : Int) (step8 : Int) (i9 : Int) (kN : Int × Int × Int × Int × Int → Option R) (kA : Int → Option R) : Option R :=
  br ((decide (i9 < (g3.length : Int))))
    (br (okAt g3 i9)
      (br ((atI g3 i9) == 0)
        none
        (br ((atI g3 i9) == 0)
          none
          (br ((atI g3 i9) == 0)
            none
            (br ((atI g3 i9) == 0)
              none
              (br ((atI g3 i9) == 0)
                none
                (kN ((w64 (x1.tdiv (atI g3 i9))), (w64 (y2.tdiv (atI g3 i9))), (w64 (z7 + (w64 (((w64 ((x1.tmod (atI g3 i9)) + (y2.tmod (atI g3 i9)))).tmod (atI g3 i9)) * step8)))), (w64 (step8 * (atI g3 i9))), (w64 (i9 + 1)))))))))
      none)
    (kA z7)
def f_s_l2Add_r0 (g3 : List Sc) : (Int × Int × Int × Int × Int) → Option (Ro (Int × Int × Int × Int × Int) (Int) (Unit)) := fun s => f_s_l2Add_k0 g3 s.1 s.2.1 s.2.2.1 s.2.2.2.1 s.2.2.2.2 (fun s => some (.again s)) (fun e => some (.one e))
def f_s_l2Add_k {R : Type} (g0 : List Sc) (x1 : Int) (y2 : Int) (kR : Int → Option R) : Option R :=
  bl1 (loopL (f_s_l2Add_r0 g0) (x1, y2, 0, 1, 0)) 0 fun e1 =>
  kR e1
def f_s_l2Add (g0 : List Sc) (x1 : Int) (y2 : Int) : Option (Int) := f_s_l2Add_k g0 x1 y2 some

def f_s_l16Sum_k0 {R : Type} (l1 : List Sc) (g2 : List Sc) (z5 : Int) (i6 : Int) (kN : Int × Int → Option R) (kA : Int → Option R) : Option R :=
  br ((decide (i6 < (l1.length : Int))))
    (br (okAt l1 i6)
      (bo (f_s_l2Add g2 z5 (atI l1 i6)) 0 fun r1 =>
      kN (r1, (w64 (i6 + 1))))
      none)
    (kA z5)
def f_s_l16Sum_r0 (l1 : List Sc) (g2 : List Sc) : (Int × Int) → Option (Ro (Int × Int) (Int) (Unit)) := fun s => f_s_l16Sum_k0 l1 g2 s.1 s.2 (fun s => some (.again s)) (fun e => some (.one e))
def f_s_l16Sum_k {R : Type} (g0 : List Sc) (l1 : List Sc) (kR : Int → Option R) : Option R :=
  bl1 (loopL (f_s_l16Sum_r0 l1 g0) (0, 0)) 0 fun e2 =>
  kR e2
def f_s_l16Sum (g0 : List Sc) (l1 : List Sc) : Option (Int) := f_s_l16Sum_k g0 l1 some

def f_s_l2Negate_k0 {R : Type} (g2 : List Sc) (x1 : Int) (z5 : Int) (step6 : Int) (i7 : Int) (kN : Int × Int × Int × Int → Option R) (kA : Int → Option R) : Option R :=
  br ((decide (i7 < (g2.length : Int))))
    (br (okAt g2 i7)
      (br ((atI g2 i7) == 0)
        none
        (br ((atI g2 i7) == 0)
          none
          (br ((atI g2 i7) == 0)
            none
            (kN ((w64 (x1.tdiv (atI g2 i7))), (w64 (z5 + (w64 (((w64 ((atI g2 i7) - (x1.tmod (atI g2 i7)))).tmod (atI g2 i7)) * step6)))), (w64 (step6 * (atI g2 i7))), (w64 (i7 + 1)))))))
      none)
    (kA z5)
def f_s_l2Negate_r0 (g2 : List Sc) : (Int × Int × Int × Int) → Option (Ro (Int × Int × Int × Int) (Int) (Unit)) := fun s => f_s_l2Negate_k0 g2 s.1 s.2.1 s.2.2.1 s.2.2.2 (fun s => some (.again s)) (fun e => some (.one e))
def f_s_l2Negate_k {R : Type} (g0 : List Sc) (x1 : Int) (kR : Int → Option R) : Option R :=
  bl1 (loopL (f_s_l2Negate_r0 g0) (x1, 0, 1, 0)) 0 fun e1 =>
  kR e1
def f_s_l2Negate (g0 : List Sc) (x1 : Int) : Option (Int) := f_s_l2Negate_k g0 x1 some

def f_s_l3List_k0 {R : Type} (out3 : List Sc) (i4 : Int) (x5 : Int) (kN : List Sc × Int × Int → Option R) (kA : List Sc → Option R) : Option R :=
  br ((decide (x5 > 0)))
    (br (((and64 x5 1) == 1))
      (br (decide (out3.length + [(Sc.n .i64 i4)].length ≤ lim))
        (kN ((out3 ++ [(Sc.n .i64 i4)]), (w64 (i4 + 1)), (shr64 x5 1)))
        none)
      (kN (out3, (w64 (i4 + 1)), (shr64 x5 1))))
    (kA out3)
def f_s_l3List_r0 : (List Sc × Int × Int) → Option (Ro (List Sc × Int × Int) (List Sc) (Unit)) := fun s => f_s_l3List_k0 s.1 s.2.1 s.2.2 (fun s => some (.again s)) (fun e => some (.one e))
def f_s_l3List_k {R : Type} (a0 : Int) (kR : List Sc → Option R) : Option R :=
  bl1 (loopL (f_s_l3List_r0) ([], 0, a0)) [] fun e1 =>
  kR e1
def f_s_l3List (a0 : Int) : Option (List Sc) := f_s_l3List_k a0 some

def f_s_l3Shift_k0 {R : Type} (x2 : Int) (g3 : List Sc) (out7 : Int) (l8 : List Sc) (i9 : Int) (kN : Int × List Sc × Int → Option R) (kA : Int → Option R) : Option R :=
  br ((decide (i9 < (l8.length : Int))))
    (br (inRange i9 (l8).length)
      (br (kAt l8 i9.toNat)
        (bo (f_s_l2Add g3 (atN l8 i9.toNat) x2) 0 fun r2 =>
        br (decide (r2 < 0))
          none
          (kN ((or64 out7 (shl64 1 r2)), l8, (w64 (i9 + 1)))))
        none)
      none)
    (kA out7)
def f_s_l3Shift_r0 (x2 : Int) (g3 : List Sc) : (Int × List Sc × Int) → Option (Ro (Int × List Sc × Int) (Int) (Unit)) := fun s => f_s_l3Shift_k0 x2 g3 s.1 s.2.1 s.2.2 (fun s => some (.again s)) (fun e => some (.one e))
def f_s_l3Shift_k {R : Type} (g0 : List Sc) (a1 : Int) (x2 : Int) (kR : Int → Option R) : Option R :=
  bo (f_s_l3List a1) [] fun r1 =>
  bl1 (loopL (f_s_l3Shift_r0 x2 g0) (0, r1, 0)) 0 fun e3 =>
  kR e3
def f_s_l3Shift (g0 : List Sc) (a1 : Int) (x2 : Int) : Option (Int) := f_s_l3Shift_k g0 a1 x2 some

def f_s_l16Subsums_k0 {R : Type} (l1 : List Sc) (g2 : List Sc) (out5 : Int) (i6 : Int) (kN : Int × Int → Option R) (kA : Int → Option R) : Option R :=
  br ((decide (i6 < (l1.length : Int))))
    (br (okAt l1 i6)
      (bo (f_s_l3Shift g2 out5 (atI l1 i6)) 0 fun r1 =>
      br (okAt l1 i6)
        (br (decide ((atI l1 i6) < 0))
          none
          (kN ((or64 (or64 out5 r1) (shl64 1 (atI l1 i6))), (w64 (i6 + 1)))))
        none)
      none)
    (kA out5)
def f_s_l16Subsums_r0 (l1 : List Sc) (g2 : List Sc) : (Int × Int) → Option (Ro (Int × Int) (Int) (Unit)) := fun s => f_s_l16Subsums_k0 l1 g2 s.1 s.2 (fun s => some (.again s)) (fun e => some (.one e))
def f_s_l16Subsums_k {R : Type} (g0 : List Sc) (l1 : List Sc) (kR : Int → Option R) : Option R :=
  bl1 (loopL (f_s_l16Subsums_r0 l1 g0) (0, 0)) 0 fun e2 =>
  kR e2
def f_s_l16Subsums (g0 : List Sc) (l1 : List Sc) : Option (Int) := f_s_l16Subsums_k g0 l1 some

def f_s_l19Minimal_k0 {R : Type} (l1 : List Sc) (g2 : List Sc) (i5 : Int) (kN : Int → Option R) (kA : Unit → Option R) (kB : Unit → Option R) : Option R :=
  br ((decide (i5 < (l1.length : Int))))
    (br (decide (0 ≤ (0 : Int)) && (decide ((0 : Int) ≤ i5) && decide (i5 ≤ (l1.length : Int))))
      (br (decide (([] : List Sc).length + (sliceA l1 0 i5).length ≤ lim))
        (br (decide (0 ≤ (w64 (i5 + 1))) && (decide ((w64 (i5 + 1)) ≤ (l1.length : Int)) && decide ((l1.length : Int) ≤ (l1.length : Int))))
          (br (decide (([] ++ (sliceA l1 0 i5)).length + (sliceA l1 (w64 (i5 + 1)) (l1.length : Int)).length ≤ lim))
            (bo (f_s_l16Subsums g2 (([] ++ (sliceA l1 0 i5)) ++ (sliceA l1 (w64 (i5 + 1)) (l1.length : Int)))) 0 fun r1 =>
            br (((and64 r1 1) == 1))
              (kB ())
              (kN (w64 (i5 + 1))))
            none)
          none)
        none)
      none)
    (kA ())
def f_s_l19Minimal_r0 (l1 : List Sc) (g2 : List Sc) : Int → Option (Ro (Int) (Unit) (Unit)) := fun s => f_s_l19Minimal_k0 l1 g2 s (fun s => some (.again s)) (fun e => some (.one e)) (fun e => some (.two e))
def f_s_l19Minimal_k {R : Type} (g0 : List Sc) (l1 : List Sc) (kR : Bool → Option R) : Option R :=
  bl (loopL (f_s_l19Minimal_r0 l1 g0) 0) () ()
    (fun e2 =>
      kR true)
    (fun e2 =>
      kR false)
def f_s_l19Minimal (g0 : List Sc) (l1 : List Sc) : Option (Bool) := f_s_l19Minimal_k g0 l1 some

def f_s_l19Atoms_io_k0 {R : Type} (self : (List Sc × List Sc × Int × Int × List Sc) → Option (List Sc)) (t1 : List Sc) (t2 : Int) (t5 : List Sc) (t4 : List Sc) (t13 : Int) (kN : List Sc × Int → Option R) (kA : List Sc → Option R) : Option R :=
  bo (f_s_l2Order t5) 0 fun r4 =>
  br ((decide (t13 < r4)))
    (bo (f_s_l3Shift t5 t2 t13) 0 fun r5 =>
    br (decide (t13 < 0))
      none
      (br (((and64 (or64 (or64 t2 r5) (shl64 1 t13)) 1) == 0))
        (br (decide (([] : List Sc).length + t1.length ≤ lim))
          (br (decide (([] ++ t1).length + [(Sc.n .i64 t13)].length ≤ lim))
            (bo (self (t5, (([] ++ t1) ++ [(Sc.n .i64 t13)]), (or64 (or64 t2 r5) (shl64 1 t13)), t13, t4)) [] fun r6 =>
            kN (r6, (w64 (t13 + 1))))
            none)
          none)
        (kN (t4, (w64 (t13 + 1))))))
    (kA t4)
def f_s_l19Atoms_io_r0 (self : (List Sc × List Sc × Int × Int × List Sc) → Option (List Sc)) (t1 : List Sc) (t2 : Int) (t5 : List Sc) : (List Sc × Int) → Option (Ro (List Sc × Int) (List Sc) (Unit)) := fun s => f_s_l19Atoms_io_k0 self t1 t2 t5 s.1 s.2 (fun s => some (.again s)) (fun e => some (.one e))
def f_s_l19Atoms_io_k {R : Type} (self : (List Sc × List Sc × Int × Int × List Sc) → Option (List Sc)) (L0 : List Sc) (p1 : List Sc) (p2 : Int) (p3 : Int) (h0 : List Sc) (kR : List Sc → Option R) : Option R :=
  bo (f_s_l16Sum L0 p1) 0 fun r1 =>
  bo (f_s_l2Negate L0 r1) 0 fun r2 =>
  br ((decide (r2 ≥ p3)) == true)
    (br ((decide ((p1.length : Int) > 0)) == false)
      (br ((r2 == 0))
        (br (decide (([] : List Sc).length + p1.length ≤ lim))
          (br (decide (([] ++ p1).length + [(Sc.n .i64 r2)].length ≤ lim))
            (bo (f_s_l19Minimal L0 (([] ++ p1) ++ [(Sc.n .i64 r2)])) false fun r3 =>
            br (r3)
              (br (decide (h0.length + [Sc.l (([] ++ p1) ++ [(Sc.n .i64 r2)])].length ≤ lim))
                (bl1 (loopL (f_s_l19Atoms_io_r0 self p1 p2 L0) ((h0 ++ [Sc.l (([] ++ p1) ++ [(Sc.n .i64 r2)])]), (if p3 > 1 then p3 else 1))) [] fun e7 =>
                kR e7)
                none)
              (bl1 (loopL (f_s_l19Atoms_io_r0 self p1 p2 L0) (h0, (if p3 > 1 then p3 else 1))) [] fun e8 =>
              kR e8))
            none)
          none)
        (bl1 (loopL (f_s_l19Atoms_io_r0 self p1 p2 L0) (h0, (if p3 > 1 then p3 else 1))) [] fun e9 =>
        kR e9))
      (br (decide (([] : List Sc).length + p1.length ≤ lim))
        (br (decide (([] ++ p1).length + [(Sc.n .i64 r2)].length ≤ lim))
          (bo (f_s_l19Minimal L0 (([] ++ p1) ++ [(Sc.n .i64 r2)])) false fun r10 =>
          br (r10)
            (br (decide (h0.length + [Sc.l (([] ++ p1) ++ [(Sc.n .i64 r2)])].length ≤ lim))
              (bl1 (loopL (f_s_l19Atoms_io_r0 self p1 p2 L0) ((h0 ++ [Sc.l (([] ++ p1) ++ [(Sc.n .i64 r2)])]), (if p3 > 1 then p3 else 1))) [] fun e11 =>
              kR e11)
              none)
            (bl1 (loopL (f_s_l19Atoms_io_r0 self p1 p2 L0) (h0, (if p3 > 1 then p3 else 1))) [] fun e12 =>
            kR e12))
          none)
        none))
    (bl1 (loopL (f_s_l19Atoms_io_r0 self p1 p2 L0) (h0, (if p3 > 1 then p3 else 1))) [] fun e13 =>
    kR e13)
def f_s_l19Atoms_io_n : Nat → (List Sc × List Sc × Int × Int × List Sc) → Option (List Sc)
  | 0, _ => none
  | n + 1, a => f_s_l19Atoms_io_k (f_s_l19Atoms_io_n n) a.1 a.2.1 a.2.2.1 a.2.2.2.1 a.2.2.2.2 some
def f_s_l19Atoms_io (L0 : List Sc) (p1 : List Sc) (p2 : Int) (p3 : Int) (h0 : List Sc) : Option (List Sc) := limF f_s_l19Atoms_io_n (L0, p1, p2, p3, h0)

def f_s_l19Before_k0 {R : Type} (a0 : List Sc) (b1 : List Sc) (i5 : Int) (kN : Int → Option R) (kA : Unit → Option R) (kB : Bool → Option R) : Option R :=
  br ((decide (i5 < (a0.length : Int))))
    (br (okAt a0 i5)
      (br (okAt b1 i5)
        (br (((atI a0 i5) != (atI b1 i5)))
          (br (okAt a0 i5)
            (br (okAt b1 i5)
              (kB (decide ((atI a0 i5) < (atI b1 i5))))
              none)
            none)
          (kN (w64 (i5 + 1))))
        none)
      none)
    (kA ())
def f_s_l19Before_r0 (a0 : List Sc) (b1 : List Sc) : Int → Option (Ro (Int) (Unit) (Bool)) := fun s => f_s_l19Before_k0 a0 b1 s (fun s => some (.again s)) (fun e => some (.one e)) (fun e => some (.two e))
def f_s_l19Before_k {R : Type} (a0 : List Sc) (b1 : List Sc) (kR : Bool → Option R) : Option R :=
  br (((a0.length : Int) != (b1.length : Int)))
    (kR (decide ((a0.length : Int) < (b1.length : Int))))
    (bl (loopL (f_s_l19Before_r0 a0 b1) 0) () false
      (fun e1 =>
        kR false)
      (fun e1 =>
        kR e1))
def f_s_l19Before (a0 : List Sc) (b1 : List Sc) : Option (Bool) := f_s_l19Before_k a0 b1 some

def f_s_AtomsOf_k2 {R : Type} (out4 : List Sc) (i6 : Int) (l5 : List Sc) (k7 : Int) (kN : List Sc × Int → Option R) (kA : List Sc × Int → Option R) : Option R :=
  br ((decide (k7 > 0)) == true)
    (br (inRange i6 (l5).length)
      (br (inRange (w64 (k7 - 1)) (out4).length)
        (bo (f_s_l19Before (lsN l5 i6.toNat) (lsI out4 (w64 (k7 - 1)))) false fun r4 =>
        br (r4)
          (kN (l5, (w64 (k7 - 1))))
          (kA (l5, k7)))
        none)
      none)
    (kA (l5, k7))
def f_s_AtomsOf_r2 (out4 : List Sc) (i6 : Int) : (List Sc × Int) → Option (Ro (List Sc × Int) (List Sc × Int) (Unit)) := fun s => f_s_AtomsOf_k2 out4 i6 s.1 s.2 (fun s => some (.again s)) (fun e => some (.one e))
def f_s_AtomsOf_k0 {R : Type} (out4 : List Sc) (l5 : List Sc) (i6 : Int) (kN : List Sc × List Sc × Int → Option R) (kA : List Sc × List Sc × Int → Option R) : Option R :=
  br ((decide (i6 < (l5.length : Int))))
    (bl1 (loopL (f_s_AtomsOf_r2 out4 i6) (l5, (out4.length : Int))) ([], 0) fun e5 =>
    br (decide (0 ≤ (0 : Int)) && (decide ((0 : Int) ≤ e5.2) && decide (e5.2 ≤ (out4.length : Int))))
      (br (decide (([] : List Sc).length + (sliceA out4 0 e5.2).length ≤ lim))
        (br (inRange i6 (e5.1).length)
          (br (decide (([] ++ (sliceA out4 0 e5.2)).length + [Sc.l (lsN e5.1 i6.toNat)].length ≤ lim))
            (br (decide (0 ≤ e5.2) && (decide (e5.2 ≤ (out4.length : Int)) && decide ((out4.length : Int) ≤ (out4.length : Int))))
              (br (decide ((([] ++ (sliceA out4 0 e5.2)) ++ [Sc.l (lsN e5.1 i6.toNat)]).length + (sliceA out4 e5.2 (out4.length : Int)).length ≤ lim))
                (kN (((([] ++ (sliceA out4 0 e5.2)) ++ [Sc.l (lsN e5.1 i6.toNat)]) ++ (sliceA out4 e5.2 (out4.length : Int))), e5.1, (w64 (i6 + 1))))
                none)
              none)
            none)
          none)
        none)
      none)
    (kA (out4, l5, i6))
def f_s_AtomsOf_r0 : (List Sc × List Sc × Int) → Option (Ro (List Sc × List Sc × Int) (List Sc × List Sc × Int) (Unit)) := fun s => f_s_AtomsOf_k0 s.1 s.2.1 s.2.2 (fun s => some (.again s)) (fun e => some (.one e))
def f_s_AtomsOf_k {R : Type} (g0 : List Sc) (kR : List Sc × Bool → Option R) : Option R :=
  bo (f_s_IsGroup g0) false fun r1 =>
  br ((!r1) == false)
    (bo (f_s_l2Order g0) 0 fun r2 =>
    br ((decide (r2 > 7)))
      (kR ([], false))
      (bo (f_s_l19Atoms_io g0 [] 0 0 []) [] fun r3 =>
      bl1 (loopL (f_s_AtomsOf_r0) ([], r3, 0)) ([], [], 0) fun e6 =>
      kR (e6.1, true)))
    (kR ([], false))
def f_s_AtomsOf (g0 : List Sc) : Option (List Sc × Bool) := f_s_AtomsOf_k g0 some

def f_s_OrderOf_k {R : Type} (g0 : List Sc) (kR : Int → Option R) : Option R :=
  bo (f_s_IsGroup g0) false fun r1 =>
  br ((!r1))
    (kR 0)
    (bo (f_s_l2Order g0) 0 fun r2 =>
    kR r2)
def f_s_OrderOf (g0 : List Sc) : Option (Int) := f_s_OrderOf_k g0 some

def f_s_l2Is_k {R : Type} (g0 : List Sc) (x1 : Int) (kR : Bool → Option R) : Option R :=
  br ((decide (x1 ≥ 0)) == true)
    (bo (f_s_OrderOf g0) 0 fun r1 =>
    kR (decide (x1 < r1)))
    (kR false)
def f_s_l2Is (g0 : List Sc) (x1 : Int) : Option (Bool) := f_s_l2Is_k g0 x1 some

def f_s_IsSequence_k0 {R : Type} (l1 : List Sc) (g2 : List Sc) (i5 : Int) (kN : Int → Option R) (kA : Unit → Option R) (kB : Unit → Option R) : Option R :=
  br ((decide (i5 < (l1.length : Int))))
    (br (okAt l1 i5)
      (bo (f_s_l2Is g2 (atI l1 i5)) false fun r1 =>
      br ((!r1) == false)
        (br ((decide (i5 > 0)) == true)
          (br (okAt l1 i5)
            (br (okAt l1 (w64 (i5 - 1)))
              (br ((decide ((atI l1 i5) < (atI l1 (w64 (i5 - 1))))))
                (kB ())
                (kN (w64 (i5 + 1))))
              none)
            none)
          (kN (w64 (i5 + 1))))
        (kB ()))
      none)
    (kA ())
def f_s_IsSequence_r0 (l1 : List Sc) (g2 : List Sc) : Int → Option (Ro (Int) (Unit) (Unit)) := fun s => f_s_IsSequence_k0 l1 g2 s (fun s => some (.again s)) (fun e => some (.one e)) (fun e => some (.two e))
def f_s_IsSequence_k {R : Type} (g0 : List Sc) (l1 : List Sc) (kR : Bool → Option R) : Option R :=
  bl (loopL (f_s_IsSequence_r0 l1 g0) 0) () ()
    (fun e2 =>
      bo (f_s_IsGroup g0) false fun r3 =>
      br (r3 == true)
        (kR (decide ((l1.length : Int) ≤ 12)))
        (kR false))
    (fun e2 =>
      kR false)
def f_s_IsSequence (g0 : List Sc) (l1 : List Sc) : Option (Bool) := f_s_IsSequence_k g0 l1 some

def f_s_IsZeroSum_k {R : Type} (g0 : List Sc) (l1 : List Sc) (kR : Bool → Option R) : Option R :=
  bo (f_s_IsSequence g0 l1) false fun r1 =>
  br (r1 == true)
    (bo (f_s_l16Sum g0 l1) 0 fun r2 =>
    kR (r2 == 0))
    (kR false)
def f_s_IsZeroSum (g0 : List Sc) (l1 : List Sc) : Option (Bool) := f_s_IsZeroSum_k g0 l1 some

def f_s_l19Minus_k2 {R : Type} (part1 : List Sc) (out6 : List Sc) (i7 : Int) (at8 : Int) (k9 : Int) (kN : Int × Int → Option R) (kA : Int → Option R) : Option R :=
  br ((decide (k9 < (out6.length : Int))))
    (br (okAt out6 k9)
      (br (okAt part1 i7)
        (br (((atI out6 k9) == (atI part1 i7)))
          (kN (k9, (w64 (k9 + 1))))
          (kN (at8, (w64 (k9 + 1)))))
        none)
      none)
    (kA at8)
def f_s_l19Minus_r2 (part1 : List Sc) (out6 : List Sc) (i7 : Int) : (Int × Int) → Option (Ro (Int × Int) (Int) (Unit)) := fun s => f_s_l19Minus_k2 part1 out6 i7 s.1 s.2 (fun s => some (.again s)) (fun e => some (.one e))
def f_s_l19Minus_k0 {R : Type} (part1 : List Sc) (out6 : List Sc) (i7 : Int) (kN : List Sc × Int → Option R) (kA : List Sc × Int → Option R) (kB : List Sc → Option R) : Option R :=
  br ((decide (i7 < (part1.length : Int))))
    (bl1 (loopL (f_s_l19Minus_r2 part1 out6 i7) ((-1), 0)) 0 fun e1 =>
    br ((decide (e1 < 0)))
      (kB [])
      (br (decide (0 ≤ (0 : Int)) && (decide ((0 : Int) ≤ e1) && decide (e1 ≤ (out6.length : Int))))
        (br (decide (([] : List Sc).length + (sliceA out6 0 e1).length ≤ lim))
          (br (decide (0 ≤ (w64 (e1 + 1))) && (decide ((w64 (e1 + 1)) ≤ (out6.length : Int)) && decide ((out6.length : Int) ≤ (out6.length : Int))))
            (br (decide (([] ++ (sliceA out6 0 e1)).length + (sliceA out6 (w64 (e1 + 1)) (out6.length : Int)).length ≤ lim))
              (kN ((([] ++ (sliceA out6 0 e1)) ++ (sliceA out6 (w64 (e1 + 1)) (out6.length : Int))), (w64 (i7 + 1))))
              none)
            none)
          none)
        none))
    (kA (out6, i7))
def f_s_l19Minus_r0 (part1 : List Sc) : (List Sc × Int) → Option (Ro (List Sc × Int) (List Sc × Int) (List Sc)) := fun s => f_s_l19Minus_k0 part1 s.1 s.2 (fun s => some (.again s)) (fun e => some (.one e)) (fun e => some (.two e))
def f_s_l19Minus_k {R : Type} (l0 : List Sc) (part1 : List Sc) (kR : List Sc × Bool → Option R) : Option R :=
  br (decide (([] : List Sc).length + l0.length ≤ lim))
    (bl (loopL (f_s_l19Minus_r0 part1) (([] ++ l0), 0)) ([], 0) []
      (fun e2 =>
        kR (e2.1, true))
      (fun e2 =>
        kR (e2, false)))
    none
def f_s_l19Minus (l0 : List Sc) (part1 : List Sc) : Option (List Sc × Bool) := f_s_l19Minus_k l0 part1 some

def f_s_l19Factor_k2 {R : Type} (self : (List Sc × List Sc × Int) → Option (List Sc)) (L0 : List Sc) (t1 : List Sc) (t8 : Int) (t7 : List Sc) (t11 : List Sc) (t12 : Int) (kN : List Sc × List Sc × Int → Option R) (kA : List Sc → Option R) : Option R :=
  br ((decide (t12 < (t11.length : Int))))
    (br (inRange t8 (L0).length)
      (br (decide (([] : List Sc).length + (lsI L0 t8).length ≤ lim))
        (br (inRange t12 (t11).length)
          (br (decide ([Sc.l ([] ++ (lsI L0 t8))].length + (lsN t11 t12.toNat).length ≤ lim))
            (br (decide (t7.length + [Sc.l ([Sc.l ([] ++ (lsI L0 t8))] ++ (lsN t11 t12.toNat))].length ≤ lim))
              (kN ((t7 ++ [Sc.l ([Sc.l ([] ++ (lsI L0 t8))] ++ (lsN t11 t12.toNat))]), t11, (w64 (t12 + 1))))
              none)
            none)
          none)
        none)
      none)
    (kA t7)
def f_s_l19Factor_r2 (self : (List Sc × List Sc × Int) → Option (List Sc)) (L0 : List Sc) (t1 : List Sc) (t8 : Int) : (List Sc × List Sc × Int) → Option (Ro (List Sc × List Sc × Int) (List Sc) (Unit)) := fun s => f_s_l19Factor_k2 self L0 t1 t8 s.1 s.2.1 s.2.2 (fun s => some (.again s)) (fun e => some (.one e))
def f_s_l19Factor_k0 {R : Type} (self : (List Sc × List Sc × Int) → Option (List Sc)) (L0 : List Sc) (t1 : List Sc) (t7 : List Sc) (t8 : Int) (kN : List Sc × Int → Option R) (kA : List Sc × Int → Option R) : Option R :=
  br ((decide (t8 < (L0.length : Int))))
    (br (inRange t8 (L0).length)
      (bo (f_s_l19Minus t1 (lsI L0 t8)) ([], false) fun r1 =>
      br ((!r1.2))
        (kN (t7, (w64 (t8 + 1))))
        (bo (self (L0, r1.1, t8)) [] fun r2 =>
        bl1 (loopL (f_s_l19Factor_r2 self L0 t1 t8) (t7, r2, 0)) [] fun e3 =>
        kN (e3, (w64 (t8 + 1)))))
      none)
    (kA (t7, t8))
def f_s_l19Factor_r0 (self : (List Sc × List Sc × Int) → Option (List Sc)) (L0 : List Sc) (t1 : List Sc) : (List Sc × Int) → Option (Ro (List Sc × Int) (List Sc × Int) (Unit)) := fun s => f_s_l19Factor_k0 self L0 t1 s.1 s.2 (fun s => some (.again s)) (fun e => some (.one e))
def f_s_l19Factor_k {R : Type} (self : (List Sc × List Sc × Int) → Option (List Sc)) (L0 : List Sc) (p1 : List Sc) (p2 : Int) (kR : List Sc → Option R) : Option R :=
  br (((p1.length : Int) == 0))
    (kR [Sc.l []])
    (bl1 (loopL (f_s_l19Factor_r0 self L0 p1) ([], p2)) ([], 0) fun e4 =>
    kR e4.1)
def f_s_l19Factor_n : Nat → (List Sc × List Sc × Int) → Option (List Sc)
  | 0, _ => none
  | n + 1, a => f_s_l19Factor_k (f_s_l19Factor_n n) a.1 a.2.1 a.2.2 some
def f_s_l19Factor (L0 : List Sc) (p1 : List Sc) (p2 : Int) : Option (List Sc) := limF f_s_l19Factor_n (L0, p1, p2)

def f_s_FactorizationsOf_k {R : Type} (g0 : List Sc) (l1 : List Sc) (kR : List Sc × Bool → Option R) : Option R :=
  bo (f_s_AtomsOf g0) ([], false) fun r1 =>
  br ((!r1.2) == false)
    (bo (f_s_IsZeroSum g0 l1) false fun r2 =>
    br ((!r2) == false)
      (br ((decide ((l1.length : Int) > 10)))
        (kR ([], false))
        (bo (f_s_l19Factor r1.1 l1 0) [] fun r3 =>
        kR (r3, true)))
      (kR ([], false)))
    (kR ([], false))
def f_s_FactorizationsOf (g0 : List Sc) (l1 : List Sc) : Option (List Sc × Bool) := f_s_FactorizationsOf_k g0 l1 some

def f_i_within_k {R : Type} (x0 : Int) (lo1 : Int) (hi2 : Int) (kR : Bool → Option R) : Option R :=
  br ((decide (x0 ≥ lo1)) == true)
    (kR (decide (x0 ≤ hi2)))
    (kR false)
def f_i_within (x0 : Int) (lo1 : Int) (hi2 : Int) : Option (Bool) := f_i_within_k x0 lo1 hi2 some

def f_i_IsGroup_k0 {R : Type} (t11 : List Sc) (t12 : Int) (n3 : Int) (t13 : Int) (kN : Int × Int → Option R) (kA : Int → Option R) (kB : Unit → Option R) : Option R :=
  br ((decide (t13 < t12)))
    (br (okAt t11 t13)
      (bo (f_i_within (atI t11 t13) 2 24) false fun r1 =>
      br ((!r1))
        (kB ())
        (kN ((w64 (n3 * (atI t11 t13))), (w64 (t13 + 1)))))
      none)
    (kA n3)
def f_i_IsGroup_r0 (t11 : List Sc) (t12 : Int) : (Int × Int) → Option (Ro (Int × Int) (Int) (Unit)) := fun s => f_i_IsGroup_k0 t11 t12 s.1 s.2 (fun s => some (.again s)) (fun e => some (.one e)) (fun e => some (.two e))
def f_i_IsGroup_k {R : Type} (g0 : List Sc) (kR : Bool → Option R) : Option R :=
  br ((decide ((g0.length : Int) > 3)))
    (kR false)
    (bl (loopL (f_i_IsGroup_r0 g0 (g0.length : Int)) (1, 0)) 0 ()
      (fun e2 =>
        kR (decide (e2 ≤ 24)))
      (fun e2 =>
        kR false))
def f_i_IsGroup (g0 : List Sc) : Option (Bool) := f_i_IsGroup_k g0 some

def f_i_OrderOf_k0 {R : Type} (t10 : List Sc) (t11 : Int) (n3 : Int) (t12 : Int) (kN : Int × Int → Option R) (kA : Int → Option R) : Option R :=
  br ((decide (t12 < t11)))
    (br (okAt t10 t12)
      (kN ((w64 (n3 * (atI t10 t12))), (w64 (t12 + 1))))
      none)
    (kA n3)
def f_i_OrderOf_r0 (t10 : List Sc) (t11 : Int) : (Int × Int) → Option (Ro (Int × Int) (Int) (Unit)) := fun s => f_i_OrderOf_k0 t10 t11 s.1 s.2 (fun s => some (.again s)) (fun e => some (.one e))
def f_i_OrderOf_k {R : Type} (g0 : List Sc) (kR : Int → Option R) : Option R :=
  bo (f_i_IsGroup g0) false fun r1 =>
  br ((!r1))
    (kR 0)
    (bl1 (loopL (f_i_OrderOf_r0 g0 (g0.length : Int)) (1, 0)) 0 fun e2 =>
    kR e2)
def f_i_OrderOf (g0 : List Sc) : Option (Int) := f_i_OrderOf_k g0 some

def f_i_Group_add_k0 {R : Type} (t12 : List Sc) (t13 : Int) (x1 : Int) (y2 : Int) (sum7 : Int) (unit8 : Int) (t14 : Int) (kN : Int × Int × Int × Int × Int → Option R) (kA : Int → Option R) : Option R :=
  br ((decide (t14 < t13)))
    (br (okAt t12 t14)
      (br ((atI t12 t14) == 0)
        none
        (br ((atI t12 t14) == 0)
          none
          (br ((atI t12 t14) == 0)
            none
            (br ((atI t12 t14) == 0)
              none
              (br ((atI t12 t14) == 0)
                none
                (kN ((w64 (x1.tdiv (atI t12 t14))), (w64 (y2.tdiv (atI t12 t14))), (w64 (sum7 + (w64 (((w64 ((x1.tmod (atI t12 t14)) + (y2.tmod (atI t12 t14)))).tmod (atI t12 t14)) * unit8)))), (w64 (unit8 * (atI t12 t14))), (w64 (t14 + 1)))))))))
      none)
    (kA sum7)
def f_i_Group_add_r0 (t12 : List Sc) (t13 : Int) : (Int × Int × Int × Int × Int) → Option (Ro (Int × Int × Int × Int × Int) (Int) (Unit)) := fun s => f_i_Group_add_k0 t12 t13 s.1 s.2.1 s.2.2.1 s.2.2.2.1 s.2.2.2.2 (fun s => some (.again s)) (fun e => some (.one e))
def f_i_Group_add_k {R : Type} (g0 : List Sc) (x1 : Int) (y2 : Int) (kR : Int → Option R) : Option R :=
  bl1 (loopL (f_i_Group_add_r0 g0 (g0.length : Int)) (x1, y2, 0, 1, 0)) 0 fun e1 =>
  kR e1
def f_i_Group_add (g0 : List Sc) (x1 : Int) (y2 : Int) : Option (Int) := f_i_Group_add_k g0 x1 y2 some

def f_i_Group_total_k0 {R : Type} (g2 : List Sc) (t8 : List Sc) (t9 : Int) (s5 : Int) (t10 : Int) (kN : Int × Int → Option R) (kA : Int → Option R) : Option R :=
  br ((decide (t10 < t9)))
    (br (okAt t8 t10)
      (bo (f_i_Group_add g2 s5 (atI t8 t10)) 0 fun r1 =>
      kN (r1, (w64 (t10 + 1))))
      none)
    (kA s5)
def f_i_Group_total_r0 (g2 : List Sc) (t8 : List Sc) (t9 : Int) : (Int × Int) → Option (Ro (Int × Int) (Int) (Unit)) := fun s => f_i_Group_total_k0 g2 t8 t9 s.1 s.2 (fun s => some (.again s)) (fun e => some (.one e))
def f_i_Group_total_k {R : Type} (g0 : List Sc) (l1 : List Sc) (kR : Int → Option R) : Option R :=
  bl1 (loopL (f_i_Group_total_r0 g0 l1 (l1.length : Int)) (0, 0)) 0 fun e2 =>
  kR e2
def f_i_Group_total (g0 : List Sc) (l1 : List Sc) : Option (Int) := f_i_Group_total_k g0 l1 some

def f_i_Group_negate_k0 {R : Type} (t10 : List Sc) (t11 : Int) (x1 : Int) (sum5 : Int) (unit6 : Int) (t12 : Int) (kN : Int × Int × Int × Int → Option R) (kA : Int → Option R) : Option R :=
  br ((decide (t12 < t11)))
    (br (okAt t10 t12)
      (br ((atI t10 t12) == 0)
        none
        (br ((atI t10 t12) == 0)
          none
          (br ((atI t10 t12) == 0)
            none
            (kN ((w64 (x1.tdiv (atI t10 t12))), (w64 (sum5 + (w64 (((w64 ((atI t10 t12) - (x1.tmod (atI t10 t12)))).tmod (atI t10 t12)) * unit6)))), (w64 (unit6 * (atI t10 t12))), (w64 (t12 + 1)))))))
      none)
    (kA sum5)
def f_i_Group_negate_r0 (t10 : List Sc) (t11 : Int) : (Int × Int × Int × Int) → Option (Ro (Int × Int × Int × Int) (Int) (Unit)) := fun s => f_i_Group_negate_k0 t10 t11 s.1 s.2.1 s.2.2.1 s.2.2.2 (fun s => some (.again s)) (fun e => some (.one e))
def f_i_Group_negate_k {R : Type} (g0 : List Sc) (x1 : Int) (kR : Int → Option R) : Option R :=
  bl1 (loopL (f_i_Group_negate_r0 g0 (g0.length : Int)) (x1, 0, 1, 0)) 0 fun e1 =>
  kR e1
def f_i_Group_negate (g0 : List Sc) (x1 : Int) : Option (Int) := f_i_Group_negate_k g0 x1 some

def f_i_copyInts_k {R : Type} (l0 : List Sc) (kR : List Sc → Option R) : Option R :=
  br (decide (([] : List Sc).length + l0.length ≤ lim))
    (kR ([] ++ l0))
    none
def f_i_copyInts (l0 : List Sc) : Option (List Sc) := f_i_copyInts_k l0 some

def f_i_Group_has_k {R : Type} (g0 : List Sc) (x1 : Int) (kR : Bool → Option R) : Option R :=
  bo (f_i_OrderOf g0) 0 fun r1 =>
  bo (f_i_within x1 0 (w64 (r1 - 1))) false fun r2 =>
  kR r2
def f_i_Group_has (g0 : List Sc) (x1 : Int) : Option (Bool) := f_i_Group_has_k g0 x1 some

def f_cmp_isNaN_k {R : Type} (x0 : Int) (kR : Bool → Option R) : Option R :=
  kR (x0 != x0)
def f_cmp_isNaN (x0 : Int) : Option (Bool) := f_cmp_isNaN_k x0 some

def f_cmp_Less_k {R : Type} (x0 : Int) (y1 : Int) (kR : Bool → Option R) : Option R :=
  bo (f_cmp_isNaN x0) false fun r1 =>
  br (r1 == true)
    (bo (f_cmp_isNaN y1) false fun r2 =>
    br ((!r2) == false)
      (kR (decide (x0 < y1)))
      (kR true))
    (kR (decide (x0 < y1)))
def f_cmp_Less (x0 : Int) (y1 : Int) : Option (Bool) := f_cmp_Less_k x0 y1 some

def f_slices_IsSorted_k0 {R : Type} (x0 : List Sc) (i3 : Int) (kN : Int → Option R) (kA : Unit → Option R) (kB : Unit → Option R) : Option R :=
  br ((decide (i3 > 0)))
    (br (okAt x0 i3)
      (br (okAt x0 (w64 (i3 - 1)))
        (bo (f_cmp_Less (atI x0 i3) (atI x0 (w64 (i3 - 1)))) false fun r1 =>
        br (r1)
          (kB ())
          (kN (w64 (i3 - 1))))
        none)
      none)
    (kA ())
def f_slices_IsSorted_r0 (x0 : List Sc) : Int → Option (Ro (Int) (Unit) (Unit)) := fun s => f_slices_IsSorted_k0 x0 s (fun s => some (.again s)) (fun e => some (.one e)) (fun e => some (.two e))
def f_slices_IsSorted_k {R : Type} (x0 : List Sc) (kR : Bool → Option R) : Option R :=
  bl (loopL (f_slices_IsSorted_r0 x0) (w64 ((x0.length : Int) - 1))) () ()
    (fun e2 =>
      kR true)
    (fun e2 =>
      kR false)
def f_slices_IsSorted (x0 : List Sc) : Option (Bool) := f_slices_IsSorted_k x0 some

def f_i_IsSequence_k0 {R : Type} (l1 : List Sc) (g2 : List Sc) (t7 : List Sc) (t8 : Int) (t9 : Int) (kN : Int → Option R) (kA : Unit → Option R) (kB : Unit → Option R) : Option R :=
  br ((decide (t9 < t8)))
    (br (okAt t7 t9)
      (bo (f_i_Group_has g2 (atI t7 t9)) false fun r1 =>
      br ((!r1))
        (kB ())
        (kN (w64 (t9 + 1))))
      none)
    (kA ())
def f_i_IsSequence_r0 (l1 : List Sc) (g2 : List Sc) (t7 : List Sc) (t8 : Int) : Int → Option (Ro (Int) (Unit) (Unit)) := fun s => f_i_IsSequence_k0 l1 g2 t7 t8 s (fun s => some (.again s)) (fun e => some (.one e)) (fun e => some (.two e))
def f_i_IsSequence_k {R : Type} (g0 : List Sc) (l1 : List Sc) (kR : Bool → Option R) : Option R :=
  bl (loopL (f_i_IsSequence_r0 l1 g0 l1 (l1.length : Int)) 0) () ()
    (fun e2 =>
      bo (f_i_IsGroup g0) false fun r3 =>
      br (r3 == true)
        (br ((decide ((l1.length : Int) ≤ 12)) == true)
          (bo (f_slices_IsSorted l1) false fun r4 =>
          kR r4)
          (kR false))
        (kR false))
    (fun e2 =>
      kR false)
def f_i_IsSequence (g0 : List Sc) (l1 : List Sc) : Option (Bool) := f_i_IsSequence_k g0 l1 some

def f_i_IsZeroSum_k {R : Type} (g0 : List Sc) (l1 : List Sc) (kR : Bool → Option R) : Option R :=
  bo (f_i_IsSequence g0 l1) false fun r1 =>
  br (r1 == true)
    (bo (f_i_Group_total g0 l1) 0 fun r2 =>
    kR (r2 == 0))
    (kR false)
def f_i_IsZeroSum (g0 : List Sc) (l1 : List Sc) : Option (Bool) := f_i_IsZeroSum_k g0 l1 some

def f_i_in_k {R : Type} (a0 : Int) (x1 : Int) (kR : Bool → Option R) : Option R :=
  br (decide (x1 < 0))
    none
    (kR ((and64 (shr64 a0 x1) 1) == 1))
def f_i_in (a0 : Int) (x1 : Int) : Option (Bool) := f_i_in_k a0 x1 some

def f_i_part_k0 {R : Type} (mask1 : Int) (t9 : List Sc) (t10 : Int) (out5 : List Sc) (t11 : Int) (kN : List Sc × Int → Option R) (kA : List Sc → Option R) : Option R :=
  br ((decide (t11 < t10)))
    (br (okAt t9 t11)
      (bo (f_i_in mask1 t11) false fun r1 =>
      br (r1)
        (br (decide (out5.length + [(Sc.n .i64 (atI t9 t11))].length ≤ lim))
          (kN ((out5 ++ [(Sc.n .i64 (atI t9 t11))]), (w64 (t11 + 1))))
          none)
        (kN (out5, (w64 (t11 + 1)))))
      none)
    (kA out5)
def f_i_part_r0 (mask1 : Int) (t9 : List Sc) (t10 : Int) : (List Sc × Int) → Option (Ro (List Sc × Int) (List Sc) (Unit)) := fun s => f_i_part_k0 mask1 t9 t10 s.1 s.2 (fun s => some (.again s)) (fun e => some (.one e))
def f_i_part_k {R : Type} (l0 : List Sc) (mask1 : Int) (kR : List Sc → Option R) : Option R :=
  bl1 (loopL (f_i_part_r0 mask1 l0 (l0.length : Int)) ([], 0)) [] fun e2 =>
  kR e2
def f_i_part (l0 : List Sc) (mask1 : Int) : Option (List Sc) := f_i_part_k l0 mask1 some

def f_i_IsAtom_k0 {R : Type} (l1 : List Sc) (g2 : List Sc) (mask5 : Int) (kN : Int → Option R) (kA : Unit → Option R) (kB : Unit → Option R) : Option R :=
  br (decide ((l1.length : Int) < 0))
    none
    (br ((decide (mask5 < (w64 ((shl64 1 (l1.length : Int)) - 1)))))
      (bo (f_i_part l1 mask5) [] fun r2 =>
      bo (f_i_Group_total g2 r2) 0 fun r3 =>
      br ((r3 == 0))
        (kB ())
        (kN (w64 (mask5 + 1))))
      (kA ()))
def f_i_IsAtom_r0 (l1 : List Sc) (g2 : List Sc) : Int → Option (Ro (Int) (Unit) (Unit)) := fun s => f_i_IsAtom_k0 l1 g2 s (fun s => some (.again s)) (fun e => some (.one e)) (fun e => some (.two e))
def f_i_IsAtom_k {R : Type} (g0 : List Sc) (l1 : List Sc) (kR : Bool → Option R) : Option R :=
  bo (f_i_IsZeroSum g0 l1) false fun r1 =>
  br ((!r1) == false)
    (br (((l1.length : Int) == 0))
      (kR false)
      (bl (loopL (f_i_IsAtom_r0 l1 g0) 1) () ()
        (fun e4 =>
          kR true)
        (fun e4 =>
          kR false)))
    (kR false)
def f_i_IsAtom (g0 : List Sc) (l1 : List Sc) : Option (Bool) := f_i_IsAtom_k g0 l1 some

def f_i_AtomsOf_1_k {R : Type} (l0 : List Sc) (sums1 : Int) (p2 : List Sc) (h0 : List Sc) (kR : List Sc → Option R) : Option R :=
  bo (f_i_Group_total p2 l0) 0 fun r1 =>
  bo (f_i_Group_negate p2 r1) 0 fun r2 =>
  br (((l0.length : Int) == 0) == false)
    (br (okAt l0 (w64 ((l0.length : Int) - 1)))
      (br ((decide (r2 ≥ (atI l0 (w64 ((l0.length : Int) - 1))))))
        (bo (f_i_copyInts l0) [] fun r3 =>
        br (decide (r3.length + [(Sc.n .i64 r2)].length ≤ lim))
          (bo (f_i_IsAtom p2 (r3 ++ [(Sc.n .i64 r2)])) false fun r4 =>
          br (r4)
            (br (decide (h0.length + [Sc.l (r3 ++ [(Sc.n .i64 r2)])].length ≤ lim))
              (kR (h0 ++ [Sc.l (r3 ++ [(Sc.n .i64 r2)])]))
              none)
            (kR h0))
          none)
        (kR h0))
      none)
    (bo (f_i_copyInts l0) [] fun r5 =>
    br (decide (r5.length + [(Sc.n .i64 r2)].length ≤ lim))
      (bo (f_i_IsAtom p2 (r5 ++ [(Sc.n .i64 r2)])) false fun r6 =>
      br (r6)
        (br (decide (h0.length + [Sc.l (r5 ++ [(Sc.n .i64 r2)])].length ≤ lim))
          (kR (h0 ++ [Sc.l (r5 ++ [(Sc.n .i64 r2)])]))
          none)
        (kR h0))
      none)
def f_i_AtomsOf_1 (l0 : List Sc) (sums1 : Int) (p2 : List Sc) (h0 : List Sc) : Option (List Sc) := f_i_AtomsOf_1_k l0 sums1 p2 h0 some

def f_i_Group_shift_k0 {R : Type} (a1 : Int) (x2 : Int) (g3 : List Sc) (out7 : Int) (y8 : Int) (kN : Int × Int → Option R) (kA : Int → Option R) : Option R :=
  br (decide (y8 < 0))
    none
    (br (((shr64 a1 y8) != 0))
      (br (decide (y8 < 0))
        none
        (br (((and64 (shr64 a1 y8) 1) == 1))
          (bo (f_i_Group_add g3 x2 y8) 0 fun r1 =>
          br (decide (r1 < 0))
            none
            (kN ((or64 out7 (shl64 1 r1)), (w64 (y8 + 1)))))
          (kN (out7, (w64 (y8 + 1))))))
      (kA out7))
def f_i_Group_shift_r0 (a1 : Int) (x2 : Int) (g3 : List Sc) : (Int × Int) → Option (Ro (Int × Int) (Int) (Unit)) := fun s => f_i_Group_shift_k0 a1 x2 g3 s.1 s.2 (fun s => some (.again s)) (fun e => some (.one e))
def f_i_Group_shift_k {R : Type} (g0 : List Sc) (a1 : Int) (x2 : Int) (kR : Int → Option R) : Option R :=
  bl1 (loopL (f_i_Group_shift_r0 a1 x2 g0) (0, 0)) 0 fun e2 =>
  kR e2
def f_i_Group_shift (g0 : List Sc) (a1 : Int) (x2 : Int) : Option (Int) := f_i_Group_shift_k g0 a1 x2 some

def f_i_zeroFree_AtomsOf_1_k0 {R : Type} (self : (List Sc × List Sc × Int × List Sc × List Sc) → Option (List Sc)) (l1 : List Sc) (sums2 : Int) (visit3 : List Sc) (g4 : List Sc) (v0 : List Sc) (x9 : Int) (kN : List Sc × Int → Option R) (kA : List Sc → Option R) : Option R :=
  bo (f_i_OrderOf g4) 0 fun r2 =>
  br ((decide (x9 < r2)))
    (bo (f_i_Group_shift g4 sums2 x9) 0 fun r3 =>
    br (decide (x9 < 0))
      none
      (bo (f_i_in (or64 (or64 sums2 r3) (shl64 1 x9)) 0) false fun r4 =>
      br ((!r4))
        (bo (f_i_copyInts l1) [] fun r5 =>
        br (decide (r5.length + [(Sc.n .i64 x9)].length ≤ lim))
          (bo (self (g4, (r5 ++ [(Sc.n .i64 x9)]), (or64 (or64 sums2 r3) (shl64 1 x9)), visit3, v0)) [] fun r6 =>
          kN (r6, (w64 (x9 + 1))))
          none)
        (kN (v0, (w64 (x9 + 1))))))
    (kA v0)
def f_i_zeroFree_AtomsOf_1_r0 (self : (List Sc × List Sc × Int × List Sc × List Sc) → Option (List Sc)) (l1 : List Sc) (sums2 : Int) (visit3 : List Sc) (g4 : List Sc) : (List Sc × Int) → Option (Ro (List Sc × Int) (List Sc) (Unit)) := fun s => f_i_zeroFree_AtomsOf_1_k0 self l1 sums2 visit3 g4 s.1 s.2 (fun s => some (.again s)) (fun e => some (.one e))
def f_i_zeroFree_AtomsOf_1_k {R : Type} (self : (List Sc × List Sc × Int × List Sc × List Sc) → Option (List Sc)) (g0 : List Sc) (l1 : List Sc) (sums2 : Int) (visit3 : List Sc) (h0 : List Sc) (kR : List Sc → Option R) : Option R :=
  bo (f_i_AtomsOf_1 l1 sums2 visit3 h0) [] fun r1 =>
  br ((decide ((l1.length : Int) > 0)))
    (br (okAt l1 (w64 ((l1.length : Int) - 1)))
      (bl1 (loopL (f_i_zeroFree_AtomsOf_1_r0 self l1 sums2 visit3 g0) (r1, (atI l1 (w64 ((l1.length : Int) - 1))))) [] fun e7 =>
      kR e7)
      none)
    (bl1 (loopL (f_i_zeroFree_AtomsOf_1_r0 self l1 sums2 visit3 g0) (r1, 1)) [] fun e8 =>
    kR e8)
def f_i_zeroFree_AtomsOf_1_n : Nat → (List Sc × List Sc × Int × List Sc × List Sc) → Option (List Sc)
  | 0, _ => none
  | n + 1, a => f_i_zeroFree_AtomsOf_1_k (f_i_zeroFree_AtomsOf_1_n n) a.1 a.2.1 a.2.2.1 a.2.2.2.1 a.2.2.2.2 some
def f_i_zeroFree_AtomsOf_1 (g0 : List Sc) (l1 : List Sc) (sums2 : Int) (visit3 : List Sc) (h0 : List Sc) : Option (List Sc) := limF f_i_zeroFree_AtomsOf_1_n (g0, l1, sums2, visit3, h0)

def f_slices_SortFunc (h0 : List Sc) : Option (List Sc) := sortF h0

def f_i_AtomsOf_k {R : Type} (g0 : List Sc) (kR : List Sc × Bool → Option R) : Option R :=
  bo (f_i_IsGroup g0) false fun r1 =>
  br ((!r1) == false)
    (bo (f_i_OrderOf g0) 0 fun r2 =>
    br ((decide (r2 > 7)))
      (kR ([], false))
      (bo (f_i_zeroFree_AtomsOf_1 g0 [] 0 g0 []) [] fun r3 =>
      bo (f_slices_SortFunc r3) [] fun r4 =>
      kR (r4, true)))
    (kR ([], false))
def f_i_AtomsOf (g0 : List Sc) : Option (List Sc × Bool) := f_i_AtomsOf_k g0 some

def f_i_FactorizationsOf_1_k0 {R : Type} (k1 : Int) (t9 : List Sc) (t10 : Int) (v0 : List Sc) (fits6 : Bool) (t11 : Int) (kN : List Sc × Bool × Int → Option R) (kA : List Sc × Bool → Option R) : Option R :=
  br ((decide (t11 < t10)))
    (br (okAt t9 t11)
      (br (inRange (atI t9 t11) (v0).length)
        (br (kAt v0 (atI t9 t11).toNat)
          (br (inRange (atI t9 t11) (v0).length)
            (br (fits6 == true)
              (br (inRange (atI t9 t11) ((v0.set ((atI t9 t11).toNat) (Sc.n .i64 (w64 ((atN v0 (atI t9 t11).toNat) - k1))))).length)
                (br (kAt (v0.set ((atI t9 t11).toNat) (Sc.n .i64 (w64 ((atN v0 (atI t9 t11).toNat) - k1)))) (atI t9 t11).toNat)
                  (kN ((v0.set ((atI t9 t11).toNat) (Sc.n .i64 (w64 ((atN v0 (atI t9 t11).toNat) - k1)))), (decide ((atN (v0.set ((atI t9 t11).toNat) (Sc.n .i64 (w64 ((atN v0 (atI t9 t11).toNat) - k1)))) (atI t9 t11).toNat) ≥ 0)), (w64 (t11 + 1))))
                  none)
                none)
              (kN ((v0.set ((atI t9 t11).toNat) (Sc.n .i64 (w64 ((atN v0 (atI t9 t11).toNat) - k1)))), false, (w64 (t11 + 1)))))
            none)
          none)
        none)
      none)
    (kA (v0, fits6))
def f_i_FactorizationsOf_1_r0 (k1 : Int) (t9 : List Sc) (t10 : Int) : (List Sc × Bool × Int) → Option (Ro (List Sc × Bool × Int) (List Sc × Bool) (Unit)) := fun s => f_i_FactorizationsOf_1_k0 k1 t9 t10 s.1 s.2.1 s.2.2 (fun s => some (.again s)) (fun e => some (.one e))
def f_i_FactorizationsOf_1_k {R : Type} (a0 : List Sc) (k1 : Int) (h0 : List Sc) (kR : Bool × List Sc → Option R) : Option R :=
  bl1 (loopL (f_i_FactorizationsOf_1_r0 k1 a0 (a0.length : Int)) (h0, true, 0)) ([], false) fun e1 =>
  kR (e1.2, e1.1)
def f_i_FactorizationsOf_1 (a0 : List Sc) (k1 : Int) (h0 : List Sc) : Option (Bool × List Sc) := f_i_FactorizationsOf_1_k a0 k1 h0 some

def f_i_FactorizationsOf_2_k0 {R : Type} (self : (Int × Int × List Sc × List Sc × List Sc × List Sc) → Option (List Sc × List Sc × List Sc)) (t17 : List Sc) (t18 : Int) (v0 : List Sc) (v1 : List Sc) (v4 : List Sc) (t10 : List Sc) (t19 : Int) (kN : List Sc × List Sc × List Sc × List Sc × Int → Option R) (kA : List Sc × List Sc × List Sc × List Sc → Option R) : Option R :=
  br ((decide (t19 < t18)))
    (br (okAt t17 t19)
      (br (inRange (atI t17 t19) (v0).length)
        (bo (f_i_copyInts (lsN v0 ((atI t17 t19).toNat))) [] fun r1 =>
        br (decide (t10.length + [Sc.l r1].length ≤ lim))
          (kN (v0, v1, v4, (t10 ++ [Sc.l r1]), (w64 (t19 + 1))))
          none)
        none)
      none)
    (kA (v0, v1, v4, t10))
def f_i_FactorizationsOf_2_r0 (self : (Int × Int × List Sc × List Sc × List Sc × List Sc) → Option (List Sc × List Sc × List Sc)) (t17 : List Sc) (t18 : Int) : (List Sc × List Sc × List Sc × List Sc × Int) → Option (Ro (List Sc × List Sc × List Sc × List Sc × Int) (List Sc × List Sc × List Sc × List Sc) (Unit)) := fun s => f_i_FactorizationsOf_2_k0 self t17 t18 s.1 s.2.1 s.2.2.1 s.2.2.2.1 s.2.2.2.2 (fun s => some (.again s)) (fun e => some (.one e))
def f_i_FactorizationsOf_2_k2 {R : Type} (self : (Int × Int × List Sc × List Sc × List Sc × List Sc) → Option (List Sc × List Sc × List Sc)) (t1 : Int) (t2 : List Sc) (v0 : List Sc) (v1 : List Sc) (v4 : List Sc) (t13 : Int) (kN : List Sc × List Sc × List Sc × Int → Option R) (kA : List Sc × List Sc × List Sc → Option R) : Option R :=
  br ((decide (t13 < (v0.length : Int))))
    (br (inRange t13 (v0).length)
      (bo (f_i_FactorizationsOf_1 (lsN v0 t13.toNat) 1 v4) (false, []) fun r3 =>
      br (r3.1)
        (br (inRange t13 (v0).length)
          (bo (f_i_copyInts t2) [] fun r4 =>
          br (decide (r4.length + [(Sc.n .i64 t13)].length ≤ lim))
            (bo (self (t13, (w64 (t1 - ((lsN v0 t13.toNat).length : Int))), (r4 ++ [(Sc.n .i64 t13)]), v0, v1, r3.2)) ([], [], []) fun r5 =>
            br (inRange t13 (r5.1).length)
              (bo (f_i_FactorizationsOf_1 (lsN r5.1 t13.toNat) (-1) r5.2.2) (false, []) fun r6 =>
              kN (r5.1, r5.2.1, r6.2, (w64 (t13 + 1))))
              none)
            none)
          none)
        (br (inRange t13 (v0).length)
          (bo (f_i_FactorizationsOf_1 (lsN v0 t13.toNat) (-1) r3.2) (false, []) fun r7 =>
          kN (v0, v1, r7.2, (w64 (t13 + 1))))
          none))
      none)
    (kA (v0, v1, v4))
def f_i_FactorizationsOf_2_r2 (self : (Int × Int × List Sc × List Sc × List Sc × List Sc) → Option (List Sc × List Sc × List Sc)) (t1 : Int) (t2 : List Sc) : (List Sc × List Sc × List Sc × Int) → Option (Ro (List Sc × List Sc × List Sc × Int) (List Sc × List Sc × List Sc) (Unit)) := fun s => f_i_FactorizationsOf_2_k2 self t1 t2 s.1 s.2.1 s.2.2.1 s.2.2.2 (fun s => some (.again s)) (fun e => some (.one e))
def f_i_FactorizationsOf_2_k {R : Type} (self : (Int × Int × List Sc × List Sc × List Sc × List Sc) → Option (List Sc × List Sc × List Sc)) (L0 : Int) (p1 : Int) (p2 : List Sc) (h0 : List Sc) (h1 : List Sc) (h4 : List Sc) (kR : List Sc × List Sc × List Sc → Option R) : Option R :=
  br ((p1 == 0))
    (bl1 (loopL (f_i_FactorizationsOf_2_r0 self p2 (p2.length : Int)) (h0, h1, h4, [], 0)) ([], [], [], []) fun e2 =>
    br (decide (e2.2.1.length + [Sc.l e2.2.2.2].length ≤ lim))
      (kR (e2.1, (e2.2.1 ++ [Sc.l e2.2.2.2]), e2.2.2.1))
      none)
    (bl1 (loopL (f_i_FactorizationsOf_2_r2 self p1 p2) (h0, h1, h4, L0)) ([], [], []) fun e8 =>
    kR (e8.1, e8.2.1, e8.2.2))
def f_i_FactorizationsOf_2_n : Nat → (Int × Int × List Sc × List Sc × List Sc × List Sc) → Option (List Sc × List Sc × List Sc)
  | 0, _ => none
  | n + 1, a => f_i_FactorizationsOf_2_k (f_i_FactorizationsOf_2_n n) a.1 a.2.1 a.2.2.1 a.2.2.2.1 a.2.2.2.2.1 a.2.2.2.2.2 some
def f_i_FactorizationsOf_2 (L0 : Int) (p1 : Int) (p2 : List Sc) (h0 : List Sc) (h1 : List Sc) (h4 : List Sc) : Option (List Sc × List Sc × List Sc) := limF f_i_FactorizationsOf_2_n (L0, p1, p2, h0, h1, h4)

def f_i_FactorizationsOf_k0 {R : Type} (l1 : List Sc) (t37 : List Sc) (t38 : Int) (v0 : List Sc) (v1 : List Sc) (v2 : List Sc) (t39 : Int) (kN : List Sc × List Sc × List Sc × Int → Option R) (kA : List Sc × List Sc × List Sc → Option R) : Option R :=
  br ((decide (t39 < t38)))
    (br (okAt t37 t39)
      (br (inRange (atI t37 t39) (v2).length)
        (br (kAt v2 (atI t37 t39).toNat)
          (br (inRange (atI t37 t39) (v2).length)
            (kN (v0, v1, (v2.set ((atI t37 t39).toNat) (Sc.n .i64 (w64 ((atN v2 (atI t37 t39).toNat) + 1)))), (w64 (t39 + 1))))
            none)
          none)
        none)
      none)
    (kA (v0, v1, v2))
def f_i_FactorizationsOf_r0 (l1 : List Sc) (t37 : List Sc) (t38 : Int) : (List Sc × List Sc × List Sc × Int) → Option (Ro (List Sc × List Sc × List Sc × Int) (List Sc × List Sc × List Sc) (Unit)) := fun s => f_i_FactorizationsOf_k0 l1 t37 t38 s.1 s.2.1 s.2.2.1 s.2.2.2 (fun s => some (.again s)) (fun e => some (.one e))
def f_i_FactorizationsOf_k {R : Type} (g0 : List Sc) (l1 : List Sc) (kR : List Sc × Bool → Option R) : Option R :=
  bo (f_i_AtomsOf g0) ([], false) fun r1 =>
  br ((!r1.2) == false)
    (bo (f_i_IsZeroSum g0 l1) false fun r2 =>
    br ((!r2) == false)
      (br ((decide ((l1.length : Int) > 10)))
        (kR ([], false))
        (bo (f_i_OrderOf g0) 0 fun r3 =>
        br (decide (0 ≤ r3) && (decide (r3 ≤ r3) && decide (r3 ≤ (lim : Int))))
          (bl1 (loopL (f_i_FactorizationsOf_r0 l1 l1 (l1.length : Int)) ([], r1.1, (List.replicate r3.toNat (Sc.n .i64 0)), 0)) ([], [], []) fun e4 =>
          bo (f_i_FactorizationsOf_2 0 (l1.length : Int) [] e4.2.1 e4.1 e4.2.2) ([], [], []) fun r5 =>
          kR (r5.2.1, true))
          none))
      (kR ([], false)))
    (kR ([], false))
def f_i_FactorizationsOf (g0 : List Sc) (l1 : List Sc) : Option (List Sc × Bool) := f_i_FactorizationsOf_k g0 l1 some

def f_l_eqIntS_k0 {R : Type} (a0 : List Sc) (b1 : List Sc) (i5 : Int) (kN : Int → Option R) (kA : Unit → Option R) (kB : Unit → Option R) : Option R :=
  br ((decide (i5 < (a0.length : Int))))
    (br (okAt a0 i5)
      (br (okAt b1 i5)
        (br (((atI a0 i5) != (atI b1 i5)))
          (kB ())
          (kN (w64 (i5 + 1))))
        none)
      none)
    (kA ())
def f_l_eqIntS_r0 (a0 : List Sc) (b1 : List Sc) : Int → Option (Ro (Int) (Unit) (Unit)) := fun s => f_l_eqIntS_k0 a0 b1 s (fun s => some (.again s)) (fun e => some (.one e)) (fun e => some (.two e))
def f_l_eqIntS_k {R : Type} (a0 : List Sc) (b1 : List Sc) (kR : Bool → Option R) : Option R :=
  br (((a0.length : Int) != (b1.length : Int)))
    (kR false)
    (bl (loopL (f_l_eqIntS_r0 a0 b1) 0) () ()
      (fun e1 =>
        kR true)
      (fun e1 =>
        kR false))
def f_l_eqIntS (a0 : List Sc) (b1 : List Sc) : Option (Bool) := f_l_eqIntS_k a0 b1 some

def f_l_eqIntSS_k0 {R : Type} (a0 : List Sc) (b1 : List Sc) (i5 : Int) (kN : Int → Option R) (kA : Unit → Option R) (kB : Unit → Option R) : Option R :=
  br ((decide (i5 < (a0.length : Int))))
    (br (inRange i5 (a0).length)
      (br (inRange i5 (b1).length)
        (bo (f_l_eqIntS (lsI a0 i5) (lsI b1 i5)) false fun r1 =>
        br ((!r1))
          (kB ())
          (kN (w64 (i5 + 1))))
        none)
      none)
    (kA ())
def f_l_eqIntSS_r0 (a0 : List Sc) (b1 : List Sc) : Int → Option (Ro (Int) (Unit) (Unit)) := fun s => f_l_eqIntSS_k0 a0 b1 s (fun s => some (.again s)) (fun e => some (.one e)) (fun e => some (.two e))
def f_l_eqIntSS_k {R : Type} (a0 : List Sc) (b1 : List Sc) (kR : Bool → Option R) : Option R :=
  br (((a0.length : Int) != (b1.length : Int)))
    (kR false)
    (bl (loopL (f_l_eqIntSS_r0 a0 b1) 0) () ()
      (fun e2 =>
        kR true)
      (fun e2 =>
        kR false))
def f_l_eqIntSS (a0 : List Sc) (b1 : List Sc) : Option (Bool) := f_l_eqIntSS_k a0 b1 some

def f_l_eqIntSSS_k0 {R : Type} (a0 : List Sc) (b1 : List Sc) (i5 : Int) (kN : Int → Option R) (kA : Unit → Option R) (kB : Unit → Option R) : Option R :=
  br ((decide (i5 < (a0.length : Int))))
    (br (inRange i5 (a0).length)
      (br (inRange i5 (b1).length)
        (bo (f_l_eqIntSS (lsI a0 i5) (lsI b1 i5)) false fun r1 =>
        br ((!r1))
          (kB ())
          (kN (w64 (i5 + 1))))
        none)
      none)
    (kA ())
def f_l_eqIntSSS_r0 (a0 : List Sc) (b1 : List Sc) : Int → Option (Ro (Int) (Unit) (Unit)) := fun s => f_l_eqIntSSS_k0 a0 b1 s (fun s => some (.again s)) (fun e => some (.one e)) (fun e => some (.two e))
def f_l_eqIntSSS_k {R : Type} (a0 : List Sc) (b1 : List Sc) (kR : Bool → Option R) : Option R :=
  br (((a0.length : Int) != (b1.length : Int)))
    (kR false)
    (bl (loopL (f_l_eqIntSSS_r0 a0 b1) 0) () ()
      (fun e2 =>
        kR true)
      (fun e2 =>
        kR false))
def f_l_eqIntSSS (a0 : List Sc) (b1 : List Sc) : Option (Bool) := f_l_eqIntSSS_k a0 b1 some

def f_l_eqGroup_k {R : Type} (a0 : List Sc) (b1 : List Sc) (kR : Bool → Option R) : Option R :=
  bo (f_l_eqIntS a0 b1) false fun r1 =>
  br ((!r1))
    (kR false)
    (kR true)
def f_l_eqGroup (a0 : List Sc) (b1 : List Sc) : Option (Bool) := f_l_eqGroup_k a0 b1 some

def f_l_markIntS_io_k0 {R : Type} (v0 : List Sc) (k1 : Int) (i5 : Int) (kN : List Sc × Int × Int → Option R) (kA : List Sc × Int → Option R) : Option R :=
  br ((decide (i5 < (v0.length : Int))))
    (br (inRange i5 (v0).length)
      (kN ((v0.set i5.toNat (Sc.n .i64 k1)), (w64 (k1 + 1)), (w64 (i5 + 1))))
      none)
    (kA (v0, k1))
def f_l_markIntS_io_r0 : (List Sc × Int × Int) → Option (Ro (List Sc × Int × Int) (List Sc × Int) (Unit)) := fun s => f_l_markIntS_io_k0 s.1 s.2.1 s.2.2 (fun s => some (.again s)) (fun e => some (.one e))
def f_l_markIntS_io_k {R : Type} (k1 : Int) (h0 : List Sc) (kR : Int × List Sc → Option R) : Option R :=
  bl1 (loopL (f_l_markIntS_io_r0) (h0, k1, 0)) ([], 0) fun e1 =>
  kR (e1.2, e1.1)
def f_l_markIntS_io (k1 : Int) (h0 : List Sc) : Option (Int × List Sc) := f_l_markIntS_io_k k1 h0 some

def f_l_markGroup_io_k {R : Type} (k1 : Int) (h0 : List Sc) (kR : Int × List Sc → Option R) : Option R :=
  bo (f_l_markIntS_io k1 h0) (0, []) fun r1 =>
  kR (r1.1, r1.2)
def f_l_markGroup_io (k1 : Int) (h0 : List Sc) : Option (Int × List Sc) := f_l_markGroup_io_k k1 h0 some

def f_l_markIntSS_io_k0 {R : Type} (v0 : List Sc) (k1 : Int) (i5 : Int) (kN : List Sc × Int × Int → Option R) (kA : List Sc × Int → Option R) : Option R :=
  br ((decide (i5 < (v0.length : Int))))
    (br (inRange i5 (v0).length)
      (br (Nat.blt i5.toNat v0.length)
        (bo (f_l_markIntS_io k1 (lsN v0 i5.toNat)) (0, []) fun r1 =>
        kN ((v0.set i5.toNat (Sc.l r1.2)), r1.1, (w64 (i5 + 1))))
        none)
      none)
    (kA (v0, k1))
def f_l_markIntSS_io_r0 : (List Sc × Int × Int) → Option (Ro (List Sc × Int × Int) (List Sc × Int) (Unit)) := fun s => f_l_markIntSS_io_k0 s.1 s.2.1 s.2.2 (fun s => some (.again s)) (fun e => some (.one e))
def f_l_markIntSS_io_k {R : Type} (k1 : Int) (h0 : List Sc) (kR : Int × List Sc → Option R) : Option R :=
  bl1 (loopL (f_l_markIntSS_io_r0) (h0, k1, 0)) ([], 0) fun e2 =>
  kR (e2.2, e2.1)
def f_l_markIntSS_io (k1 : Int) (h0 : List Sc) : Option (Int × List Sc) := f_l_markIntSS_io_k k1 h0 some

def f_l_markIntSSS_io_k0 {R : Type} (v0 : List Sc) (k1 : Int) (i5 : Int) (kN : List Sc × Int × Int → Option R) (kA : List Sc × Int → Option R) : Option R :=
  br ((decide (i5 < (v0.length : Int))))
    (br (inRange i5 (v0).length)
      (br (Nat.blt i5.toNat v0.length)
        (bo (f_l_markIntSS_io k1 (lsN v0 i5.toNat)) (0, []) fun r1 =>
        kN ((v0.set i5.toNat (Sc.l r1.2)), r1.1, (w64 (i5 + 1))))
        none)
      none)
    (kA (v0, k1))
def f_l_markIntSSS_io_r0 : (List Sc × Int × Int) → Option (Ro (List Sc × Int × Int) (List Sc × Int) (Unit)) := fun s => f_l_markIntSSS_io_k0 s.1 s.2.1 s.2.2 (fun s => some (.again s)) (fun e => some (.one e))
def f_l_markIntSSS_io_k {R : Type} (k1 : Int) (h0 : List Sc) (kR : Int × List Sc → Option R) : Option R :=
  bl1 (loopL (f_l_markIntSSS_io_r0) (h0, k1, 0)) ([], 0) fun e2 =>
  kR (e2.2, e2.1)
def f_l_markIntSSS_io (k1 : Int) (h0 : List Sc) : Option (Int × List Sc) := f_l_markIntSSS_io_k k1 h0 some

def f_l_heldIntS_k0 {R : Type} (a0 : List Sc) (k1 : Int) (i5 : Int) (kN : Int × Int → Option R) (kA : Int → Option R) (kB : Unit → Option R) : Option R :=
  br ((decide (i5 < (a0.length : Int))))
    (br (okAt a0 i5)
      (br (((atI a0 i5) != k1))
        (kB ())
        (kN ((w64 (k1 + 1)), (w64 (i5 + 1)))))
      none)
    (kA k1)
def f_l_heldIntS_r0 (a0 : List Sc) : (Int × Int) → Option (Ro (Int × Int) (Int) (Unit)) := fun s => f_l_heldIntS_k0 a0 s.1 s.2 (fun s => some (.again s)) (fun e => some (.one e)) (fun e => some (.two e))
def f_l_heldIntS_k {R : Type} (a0 : List Sc) (k1 : Int) (kR : Int → Option R) : Option R :=
  bl (loopL (f_l_heldIntS_r0 a0) (k1, 0)) 0 ()
    (fun e1 =>
      kR e1)
    (fun e1 =>
      kR (-1))
def f_l_heldIntS (a0 : List Sc) (k1 : Int) : Option (Int) := f_l_heldIntS_k a0 k1 some

def f_l_heldIntSS_k0 {R : Type} (a0 : List Sc) (k1 : Int) (i5 : Int) (kN : Int × Int → Option R) (kA : Int → Option R) (kB : Unit → Option R) : Option R :=
  br ((decide (i5 < (a0.length : Int))))
    (br (inRange i5 (a0).length)
      (bo (f_l_heldIntS (lsI a0 i5) k1) 0 fun r1 =>
      br ((decide (r1 < 0)))
        (kB ())
        (kN (r1, (w64 (i5 + 1)))))
      none)
    (kA k1)
def f_l_heldIntSS_r0 (a0 : List Sc) : (Int × Int) → Option (Ro (Int × Int) (Int) (Unit)) := fun s => f_l_heldIntSS_k0 a0 s.1 s.2 (fun s => some (.again s)) (fun e => some (.one e)) (fun e => some (.two e))
def f_l_heldIntSS_k {R : Type} (a0 : List Sc) (k1 : Int) (kR : Int → Option R) : Option R :=
  bl (loopL (f_l_heldIntSS_r0 a0) (k1, 0)) 0 ()
    (fun e2 =>
      kR e2)
    (fun e2 =>
      kR (-1))
def f_l_heldIntSS (a0 : List Sc) (k1 : Int) : Option (Int) := f_l_heldIntSS_k a0 k1 some

def f_l_heldIntSSS_k0 {R : Type} (a0 : List Sc) (k1 : Int) (i5 : Int) (kN : Int × Int → Option R) (kA : Int → Option R) (kB : Unit → Option R) : Option R :=
  br ((decide (i5 < (a0.length : Int))))
    (br (inRange i5 (a0).length)
      (bo (f_l_heldIntSS (lsI a0 i5) k1) 0 fun r1 =>
      br ((decide (r1 < 0)))
        (kB ())
        (kN (r1, (w64 (i5 + 1)))))
      none)
    (kA k1)
def f_l_heldIntSSS_r0 (a0 : List Sc) : (Int × Int) → Option (Ro (Int × Int) (Int) (Unit)) := fun s => f_l_heldIntSSS_k0 a0 s.1 s.2 (fun s => some (.again s)) (fun e => some (.one e)) (fun e => some (.two e))
def f_l_heldIntSSS_k {R : Type} (a0 : List Sc) (k1 : Int) (kR : Int → Option R) : Option R :=
  bl (loopL (f_l_heldIntSSS_r0 a0) (k1, 0)) 0 ()
    (fun e2 =>
      kR e2)
    (fun e2 =>
      kR (-1))
def f_l_heldIntSSS (a0 : List Sc) (k1 : Int) : Option (Int) := f_l_heldIntSSS_k a0 k1 some

def f_l_FnExactFactorizationsOf_k {R : Type} (L0 : List Sc) (p1 : List Sc) (kR : Bool → Option R) : Option R :=
  br ((decide ((p1.length : Int) > 1048576)))
    (kR true)
    (bo (f_l_szGroup L0 1048576) 0 fun r1 =>
    br ((decide (r1 < 0)))
      (kR true)
      (bo (f_l_toGroup L0) [] fun r2 =>
      bo (f_l_toIntS p1) [] fun r3 =>
      bo (f_s_FactorizationsOf r2 r3) ([], false) fun r4 =>
      bo (f_l_toGroup L0) [] fun r5 =>
      bo (f_l_toIntS p1) [] fun r6 =>
      bo (f_i_FactorizationsOf r5 r6) ([], false) fun r7 =>
      bo (f_l_eqIntSSS r7.1 r4.1) false fun r8 =>
      br ((!r8) == false)
        (br ((!(r7.2 == r4.2)))
          (kR false)
          (bo (f_l_toGroup L0) [] fun r9 =>
          bo (f_l_eqGroup r5 r9) false fun r10 =>
          br ((!r10))
            (kR false)
            (bo (f_l_toIntS p1) [] fun r11 =>
            bo (f_l_eqIntS r6 r11) false fun r12 =>
            br ((!r12))
              (kR false)
              (bo (f_l_markGroup_io 1 r5) (0, []) fun r13 =>
              bo (f_l_markIntS_io r13.1 r6) (0, []) fun r14 =>
              br ((decide (r14.1 < 0)) == false)
                (bo (f_l_eqIntSSS r7.1 r4.1) false fun r15 =>
                br ((!r15) == false)
                  (br ((!(r7.2 == r4.2)))
                    (kR false)
                    (bo (f_l_markIntSSS_io 1 r7.1) (0, []) fun r16 =>
                    bo (f_l_heldIntSSS r16.2 1) 0 fun r17 =>
                    br ((decide (r17 < 0)))
                      (kR false)
                      (br ((r17 != r16.1))
                        (kR false)
                        (bo (f_l_toGroup L0) [] fun r18 =>
                        bo (f_l_toIntS p1) [] fun r19 =>
                        bo (f_i_FactorizationsOf r18 r19) ([], false) fun r20 =>
                        bo (f_l_eqIntSSS r20.1 r4.1) false fun r21 =>
                        br ((!r21) == false)
                          (br ((!(r20.2 == r4.2)))
                            (kR false)
                            (bo (f_l_heldIntSSS r16.2 1) 0 fun r22 =>
                            br ((decide (r22 < 0)))
                              (kR false)
                              (br ((r22 != r16.1))
                                (kR false)
                                (kR true))))
                          (kR false)))))
                  (kR false))
                (kR false)))))
        (kR false)))
def f_l_FnExactFactorizationsOf (L0 : List Sc) (p1 : List Sc) : Option (Bool) := f_l_FnExactFactorizationsOf_k L0 p1 some
end
end Go.Proofs.Ytdocbpiocinllaa
