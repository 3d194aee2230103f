/-
  VDef: an evaluator of the IR's code on plain data, with rows, variables and closures that have one holder each. Definitions alone.
-/
import Derived.Below
import Derived.WalkKit
import Derived.StillTail
set_option linter.unusedVariables false
namespace Go.Proofs.YtlnhommmmajllaaGreat.Ev
open Go
inductive Sc where
  | b (x : Bool)
  | n (k : IntKind) (x : Int)
  | s (x : ByteArray)
  | l (L : List Sc)
def Sc.val : Sc → Value
  | .b x => .bool x
  | .n k x => .int k x
  | .s x => .string x
  | .l _ => .slice none 0 0
def isS : Sc → Bool
  | .l _ => false
  | _ => true
def lstOf : Sc → List Sc
  | .l L => L
  | _ => []
def isN (e : TypeId) : Bool := Nat.ble 1000000 e
def dep (e : TypeId) : Nat := e / 1000000
def unF (e : TypeId) : TypeId := e % 1000000
def dp (e : TypeId) : Bool := Nat.ble 1000000000 e
def ud (e : TypeId) : TypeId := e % 1000000000
def inn (e : TypeId) : TypeId := e / 1000000000 - 1
def dpn (e : TypeId) : Nat := match dp e with
  | true => dep (ud e)
  | false => 0
def okDeep (e : TypeId) : Bool := dp e && (Nat.beq (dep (ud e)) (dpn (inn e) + 1) && (dp (inn e) || !isN (inn e)))
def wfS : Nat → Sc → Bool
  | 0, y => isS y
  | d + 1, .l L => L.all (wfS d)
  | _ + 1, _ => false
def wfL (d : Nat) (L : List Sc) : Bool := L.all (wfS d)
inductive Fv where
  | sc (x : Sc)
  | sl (L : List Sc)
inductive Pv where
  | sc (x : Sc)
  | sl (L : List Sc)
  | gr (L : List Sc)
  | ev (x : Sc)
  | el (L : List Sc)
  | al (s : Nat)
  | go (s : Nat)
  | pt (k n : Nat)
  | fp (k : Nat)
  | st (fs : List Fv)
  | ll (LL : List (List Sc))
  | nl (d : Nat) (L : List Sc)
  | en (d : Nat) (L : List Sc)
inductive AV where
  | u
  | mv
  | und
  | own (e : TypeId) (L : List Sc)
  | fr (e : TypeId) (L : List Sc)
  | p (x : Pv)
  | ep (s i : Nat)
  | tu (fs : List Pv)
  | fn (f : FuncId) (cap : List Pv)
inductive Pz where
  | sc (x : Sc)
  | sl
  | fn
structure Env where
  sl : List (TypeId × TypeId × Sc)
  gr : List (TypeId × TypeId)
  sc : List TypeId
  bl : List TypeId
  ik : List (TypeId × IntKind)
  st : List TypeId
  one : List TypeId
  al : List (TypeId × List Pz)
  fd : List (TypeId × Nat)
  ll : List (TypeId × TypeId) := []
structure Fi where
  nv : Nat
  nc : Nat
  m : Nat
  vt : List (Tmp × Nat)
  kl : List (Nat × List Nat × List Nat × List Nat)
  sk : List Tmp
  mvs : List Nat
  fz : List Tmp
  so : Bool := false
  fl : List Tmp := []
  na : List Nat := []
  fa : List Tmp := []
  tb : List Nat := []
  tl : List Nat := []
  tk : List Nat := []
  od : List (Nat × List Nat) := []
  dpl : List Tmp := []
  sp : List Tmp := []
  dt : List (Nat × Nat) := []
inductive Mode where
  | ro
  | io
  | fz
def look {α : Type} : List (Nat × α) → Nat → Option α
  | [], _ => none
  | (t, x) :: r, u => match Nat.beq t u with
    | true => some x
    | false => look r u
def isIn : List Nat → Nat → Bool
  | [], _ => false
  | t :: r, u => match Nat.beq t u with
    | true => true
    | false => isIn r u
inductive X where
  | norm
  | ret
  | out (id : Nat)
  | rest
def br {α : Type} (t : Bool) (x y : α) : α := match t with
  | true => x
  | false => y
def lim : Nat := 1099511627776
def dflt : Sc := .b false
def numOf : Sc → Int
  | .n _ x => x
  | _ => 0
def booOf : Sc → Bool
  | .b x => x
  | _ => false
def strOf : Sc → ByteArray
  | .s x => x
  | _ => ByteArray.empty
def sameKind (z y : Sc) : Bool := match z, y with
  | .n k _, .n k' _ => decide (k = k')
  | .b _, .b _ => true
  | .s _, .s _ => true
  | _, _ => false
def castSc (z y : Sc) : Sc := match z with
  | .n k _ => .n k (numOf y)
  | .b _ => .b (booOf y)
  | .s _ => .s (strOf y)
  | .l L => .l L
theorem castSc_eq {z y : Sc} (h : sameKind z y = true) : castSc z y = y := by
  cases z <;> cases y <;> simp_all [sameKind, castSc, numOf, booOf, strOf]
def constAV : Value → AV
  | .int k x => .p (.sc (.n k x))
  | .bool x => .p (.sc (.b x))
  | .string x => .p (.sc (.s x))
  | .slice none 0 0 => .p (.sl [])
  | _ => .u
def refable : AV → Bool
  | .own _ _ => true
  | .mv => true
  | _ => false
def hasV (d : Nat) : Pv → Bool
  | .al s => Nat.beq s d
  | .go s => Nat.beq s d
  | _ => false
def hasP (d : Nat) : Pv → Bool
  | .pt k n => Nat.ble k d && Nat.blt d (k + n)
  | .fp k => Nat.beq k d
  | _ => false
def hasVA (d : Nat) : AV → Bool
  | .p x => hasV d x
  | .ep s _ => Nat.beq s d
  | .tu fs => fs.any (hasV d)
  | .fn _ cap => cap.any (hasV d)
  | _ => false
def hasPA (d : Nat) : AV → Bool
  | .p x => hasP d x
  | .tu fs => fs.any (hasP d)
  | .fn _ cap => cap.any (hasP d)
  | _ => false
def dropV (d : Nat) (v : AV) : AV := match hasVA d v with
  | true => .u
  | false => v
def killV (d : Nat) (σ : List AV) : List AV := match σ.getD d .u with
  | .own _ _ => σ.map (dropV d)
  | .mv => σ.map (dropV d)
  | _ => σ
def setA (σ : List AV) (d : Nat) (v : AV) : List AV := (killV d σ).set d (dropV d v)
section
variable (nv : Nat) (σ : List AV)
def evalO : Operand → AV
  | .tmp t => match σ.getD (nv + t) .u with
    | .own _ _ => .p (.al (nv + t))
    | x => x
  | .const v => constAV v
  | .func f => .fn f []
  | _ => .u
def put (d : Option Tmp) (v : AV) : List AV := match d with
  | none => σ
  | some d => setA σ (nv + d) v
end
def ownOf (σ : List AV) (s : Nat) : Option (TypeId × List Sc) := match σ.getD s .u with
  | .own e L => match dp e with
    | true => none
    | false => some (e, L)
  | _ => none
def ownAny (σ : List AV) (s : Nat) : Option (TypeId × List Sc) := match σ.getD s .u with
  | .own e L => some (e, L)
  | _ => none
def ownD (σ : List AV) (s : Nat) : Option (TypeId × List Sc) := match σ.getD s .u with
  | .own e L => match dp e with
    | true => some (e, L)
    | false => none
  | _ => none
def deepL (σ : List AV) : AV → Option (List Sc)
  | .p (.al s) => match ownD σ s with
    | some (_, L) => some L
    | none => none
  | _ => none
def slv (e : TypeId) (L : List Sc) : Pv := match isN e with
  | true => .nl (dep e) L
  | false => .sl L
def cellsL (x : TypeId × List Sc) : Option (List Sc) := match isN x.1 with
  | true => none
  | false => some x.2
def cellsN (x : TypeId × List Sc) : Option (Nat × List Sc) := match isN x.1 with
  | true => some (dep x.1, x.2)
  | false => none
def listOf (σ : List AV) : AV → Option (List Sc)
  | .p (.sl L) => some L
  | .fr e L => cellsL (e, L)
  | .p (.al s) => match ownOf σ s with
    | some x => cellsL x
    | none => none
  | _ => none
def listN (σ : List AV) : AV → Option (Nat × List Sc)
  | .p (.nl d L) => some (d, L)
  | .fr e L => cellsN (e, L)
  | .p (.al s) => match ownOf σ s with
    | some x => cellsN x
    | none => none
  | _ => none
def redirP (s d : Nat) : Pv → Pv
  | .al t => match Nat.beq t s with
    | true => .al d
    | false => .al t
  | .go t => match Nat.beq t s with
    | true => .go d
    | false => .go t
  | x => x
def redir1 (s d : Nat) : AV → AV
  | .p x => .p (redirP s d x)
  | .ep t i => match Nat.beq t s with
    | true => .ep d i
    | false => .ep t i
  | .tu fs => .tu (fs.map (redirP s d))
  | .fn f cap => .fn f (cap.map (redirP s d))
  | x => x
def moveOwn (σ : List AV) (s d : Nat) (e : TypeId) (L : List Sc) : List AV :=
  (((setA σ d .u).map (redir1 s d)).set s (.p (.al d))).set d (.own e L)
def shareP (s : Nat) (L : List Sc) : Pv → Pv
  | .al t => match Nat.beq t s with
    | true => .sl L
    | false => .al t
  | .go t => match Nat.beq t s with
    | true => .gr L
    | false => .go t
  | x => x
def share1 (s : Nat) (e : TypeId) (L : List Sc) : AV → AV
  | .p (.al t) => match Nat.beq t s with
    | true => .fr e L
    | false => .p (.al t)
  | .p x => .p (shareP s L x)
  | .ep t i => match Nat.beq t s with
    | true => .u
    | false => .ep t i
  | .tu fs => .tu (fs.map (shareP s L))
  | .fn f cap => .fn f (cap.map (shareP s L))
  | x => x
def share (σ : List AV) (s : Nat) (e : TypeId) (L : List Sc) : List AV := (σ.map (share1 s e L)).set s (.fr e L)
def shareN1 (s : Nat) (e : TypeId) (L : List Sc) : AV → AV
  | .p (.al t) => match Nat.beq t s with
    | true => .fr e L
    | false => .p (.al t)
  | v => dropV s v
def shareN (σ : List AV) (s : Nat) (e : TypeId) (L : List Sc) : List AV := (σ.map (shareN1 s e L)).set s (.fr e L)
def shareG (σ : List AV) (s : Nat) (e : TypeId) (L : List Sc) : List AV := match isN e with
  | true => shareN σ s e L
  | false => share σ s e L
def shareIf (σ : List AV) (s : Nat) : List AV := match ownOf σ s with
  | some (e, L) => shareG σ s e L
  | none => σ
def scBin (op : BinOp) (x y : Sc) {R : Type} (k : Sc → Option R) : Option R :=
  match x, y with
  | .n kx a, .n ky b =>
    match op with
    | .shl => br (decide (b < 0)) none (k (.n kx (kx.wrap (a * 2 ^ (min b.toNat kx.bits)))))
    | .shr => br (decide (b < 0)) none (k (.n kx (a.fdiv (2 ^ (min b.toNat kx.bits)))))
    | _ => if kx = ky then
      match op with
      | .add => k (.n kx (kx.wrap (a + b)))
      | .sub => k (.n kx (kx.wrap (a - b)))
      | .mul => k (.n kx (kx.wrap (a * b)))
      | .quo => br (b == 0) none (k (.n kx (kx.wrap (a.tdiv b))))
      | .rem => br (b == 0) none (k (.n kx (a.tmod b)))
      | .and => k (.n kx (bits .and kx a b))
      | .or => k (.n kx (bits .or kx a b))
      | .xor => k (.n kx (bits .xor kx a b))
      | .andNot => k (.n kx (bits .andNot kx a b))
      | .eql => k (.b (a == b))
      | .neq => k (.b (a != b))
      | .lss => k (.b (decide (a < b)))
      | .leq => k (.b (decide (a ≤ b)))
      | .gtr => k (.b (decide (a > b)))
      | .geq => k (.b (decide (a ≥ b)))
      | _ => none
      else none
  | .s a, .s b =>
    match op with
    | .add => br (decide (a.size + b.size ≤ lim)) (k (.s (a ++ b))) none
    | .eql => k (.b (a.toList == b.toList))
    | .neq => k (.b (!(a.toList == b.toList)))
    | _ => none
  | .b a, .b b =>
    match op with
    | .eql => k (.b (a == b))
    | .neq => k (.b (!(a == b)))
    | _ => none
  | _, _ => none
def binOk (E : Env) (t : TypeId) : Sc → Bool
  | .b _ => isIn E.bl t
  | _ => true
def extractA : AV → Nat → Option AV
  | .tu fs, i => fs[i]?.map .p
  | _, _ => none
def allU (L : List Sc) : Bool := L.all (sameKind (.n .u8 0))
def bytesOf (L : List Sc) : ByteArray := (L.map numOf).foldl (fun r n => r.push (UInt8.ofNat n.toNat)) ByteArray.empty
def convS (E : Env) (s d : TypeId) (o : Option (List Sc)) {R : Type} (k : AV → Option R) : Option R := match look E.sl s, o with
  | some (e, _), some L => match look E.ik (unF e), isIn E.st d with
    | some .u8, true => br (allU L) (k (.p (.sc (.s (bytesOf L))))) none
    | _, _ => none
  | _, _ => none
def inRange (i : Int) (n : Nat) : Bool := decide (0 ≤ i) && decide (i < n)
def zeroOf (E : Env) (t : TypeId) : Option Sc := match look E.ik t, isIn E.bl t, isIn E.st t with
  | some k, _, _ => some (.n k 0)
  | _, true, _ => some (.b false)
  | _, _, true => some (.s ByteArray.empty)
  | _, _, _ => none
abbrev Calling := FuncId → List AV → List AV → Option (Bool × List AV × List AV)
abbrev Looping := Nat → Code → List AV → Option (Bool × Bool × (X × List AV) × (X × List AV))
structure Hints where
  md : List (FuncId × List Mode)
  soft : List FuncId
def roA (σ : List AV) : AV → AV
  | .p (.al s) => match ownOf σ s with
    | some (e, L) => .p (slv e L)
    | none => match ownD σ s with
      | some (e, L) => .p (.nl (dep (ud e)) L)
      | none => .u
  | .p (.go s) => match ownOf σ s with
    | some (e, L) => match isN e with
      | true => .u
      | false => .p (.gr L)
    | none => .u
  | .fr e L => .p (slv e L)
  | x => x
def roP : Pv → Bool
  | .al _ => false
  | .go _ => false
  | .pt _ _ => false
  | .fp _ => false
  | _ => true
def isArg : AV → Bool
  | .p x => roP x
  | _ => false
def softP : Pv → Bool
  | .sl _ => true
  | .gr _ => true
  | .ev _ => true
  | .el _ => true
  | .st _ => true
  | .ll _ => true
  | .nl _ _ => true
  | .en _ _ => true
  | _ => false
def softA : AV → Bool
  | .p x => softP x
  | .fr _ _ => true
  | .own e _ => isN e && !dp e
  | .tu fs => fs.any softP
  | .fn _ cap => cap.any softP
  | _ => false
def partsL (nv : Nat) (σ : List AV) : Nat → List (Nat × Operand) → Option (List (List Sc))
  | _, [] => some []
  | j, (i, x) :: r => match Nat.beq i j, evalO nv σ x with
    | true, .p (.sl L) => (partsL nv σ (j + 1) r).map (L :: ·)
    | true, .fr e L => match isN e with
      | true => none
      | false => (partsL nv σ (j + 1) r).map (L :: ·)
    | _, _ => none
def cellN (d : Nat) : AV → Option Sc
  | .p (.sl L) => match Nat.beq 1 d with
    | true => some (.l L)
    | false => none
  | .p (.nl d' L) => match Nat.beq (d' + 1) d with
    | true => some (.l L)
    | false => none
  | .fr e L => match Nat.beq (dep e + 1) d with
    | true => some (.l L)
    | false => none
  | _ => none
def partsN (nv : Nat) (σ : List AV) (d : Nat) : Nat → List (Nat × Operand) → Option (List Sc)
  | _, [] => some []
  | j, (i, x) :: r => match Nat.beq i j, cellN d (evalO nv σ x) with
    | true, some y => (partsN nv σ d (j + 1) r).map (y :: ·)
    | _, _ => none
def ownParts (nv : Nat) (σ : List AV) : List (Nat × Operand) → List Nat
  | [] => []
  | (_, x) :: r => match evalO nv σ x with
    | .p (.al s) => s :: ownParts nv σ r
    | _ => ownParts nv σ r
def partsOf (nv : Nat) (σ : List AV) : Nat → List (Nat × Operand) → Option (List Sc)
  | _, [] => some []
  | j, (i, x) :: r => match Nat.beq i j, evalO nv σ x with
    | true, .p (.sc v) => match isS v with
      | true => (partsOf nv σ (j + 1) r).map (v :: ·)
      | false => none
    | _, _ => none
def sliceA (L : List Sc) (lo hi : Int) : List Sc := (L.take hi.toNat).drop lo.toNat
def boundA (nv : Nat) (σ : List AV) (dfl : Int) : Option Operand → Option Int
  | none => some dfl
  | some x => match evalO nv σ x with
    | .p (.sc (.n _ i)) => some i
    | _ => none
def plains : List AV → Option (List Pv)
  | [] => some []
  | .p (.sc x) :: r => (plains r).map (.sc x :: ·)
  | _ => none
def packed : List AV → List AV → Option AV
  | [], [] => some .u
  | [.p (.al 0)], [.own e L] => match isN e with
    | true => none
    | false => some (.own e L)
  | [.p (.go 0)], [.own e L] => match isN e with
    | true => none
    | false => some (.p (.gr L))
  | [.p (.sc x)], [] => some (.p (.sc x))
  | rs, [] => (plains rs).map .tu
  | _, _ => none
def pvs : List AV → Option (List Pv)
  | [] => some []
  | .p x :: r => (pvs r).map (x :: ·)
  | _ => none
section
variable (E : Env) (cl : Calling) (H : Hints) (nv : Nat) (σ : List AV)
def argsRo (c : Call) : List AV := c.args.toList.map fun x => roA σ (evalO nv σ x)
def allRo : List Mode → Bool
  | [] => true
  | .ro :: r => allRo r
  | _ => false
def frzA : AV → AV
  | .p (.al _) => .u
  | .p (.go _) => .u
  | .fr e L => .p (slv e L)
  | x => x
def isRo (f : FuncId) : Bool := match look H.md f with
  | some ms => allRo ms
  | none => true
def cellAt : AV → Option Nat
  | .p (.pt b 1) => some b
  | .p (.fp b) => some b
  | _ => none
def valOp (op : Op) {R : Type} (k : AV → Option R) : Option R :=
  match op with
  | .move x => k (evalO nv σ x)
  | .assign x => k (evalO nv σ x)
  | .slice t x lo hi none => match look E.sl t, evalO nv σ x with
    | some _, .p (.sl L) => match boundA nv σ 0 lo, boundA nv σ L.length hi with
      | some l, some h => br (decide (0 ≤ l) && (decide (l ≤ h) && decide (h ≤ L.length))) (k (.p (.sl (sliceA L l h)))) none
      | _, _ => none
    | some _, .fr e L => match boundA nv σ 0 lo, boundA nv σ L.length hi with
      | some l, some h => br (decide (0 ≤ l) && (decide (l ≤ h) && decide (h ≤ L.length))) (k (.p (slv e (sliceA L l h)))) none
      | _, _ => none
    | some _, .p (.nl d L) => match boundA nv σ 0 lo, boundA nv σ L.length hi with
      | some l, some h => br (decide (0 ≤ l) && (decide (l ≤ h) && decide (h ≤ L.length))) (k (.p (.nl d (sliceA L l h)))) none
      | _, _ => none
    | _, _ => none
  | .pick c a b => match evalO nv σ c with
    | .p (.sc (.b t)) => match evalO nv σ a, evalO nv σ b with
      | .p (.sc x), .p (.sc y) => br t (k (.p (.sc x))) (k (.p (.sc y)))
      | .p (.sc x), _ => br t (k (.p (.sc x))) none
      | _, .p (.sc y) => br t none (k (.p (.sc y)))
      | _, _ => none
    | _ => none
  | .nilCheck x => match evalO nv σ x with
    | .p (.pt b n) => k (.p (.pt b n))
    | .p (.fp b) => k (.p (.fp b))
    | _ => none
  | .fieldAddr t x f => match evalO nv σ x with
    | .p (.el L) => match look E.gr t, f with
      | some _, 0 => k (.p (.el L))
      | _, _ => none
    | .p (.pt b n) => match look E.fd t with
      | some m => match Nat.beq m n && Nat.blt f n with
        | true => k (match n with
          | 1 => .p (.pt b 1)
          | _ => .p (.fp (b + f)))
        | false => none
      | none => none
    | _ => none
  | .field t x f => match look E.gr t, evalO nv σ x, f with
    | some _, .p (.gr L), 0 => k (.p (.sl L))
    | some _, .p (.go s), 0 => k (.p (.al s))
    | _, _, _ => none
  | .load t x => match evalO nv σ x with
    | .p (.el L) => match look E.gr t, look E.sl t with
      | some _, _ => k (.p (.gr L))
      | _, some _ => k (.p (.sl L))
      | _, _ => none
    | .p (.en d L) => match look E.sl t with
      | some _ => k (.p (.nl d L))
      | none => none
    | .p (.ev x) => match isIn E.sc t with
      | true => k (.p (.sc x))
      | false => none
    | .ep s i => match isIn E.sc t, zeroOf E t, ownOf σ s with
      | true, some z, some (e, L) => match isN e with
        | true => none
        | false => br (sameKind z (L.getD i z)) (k (.p (.sc (castSc z (L.getD i z))))) none
      | false, _, some (e, L) => match look E.sl t, isN e with
        | some _, true => match dep e with
          | 1 => k (.p (.sl (lstOf (L.getD i (.l [])))))
          | d => k (.p (.nl (d - 1) (lstOf (L.getD i (.l [])))))
        | _, _ => none
      | _, _, _ => none
    | v => match cellAt v with
      | some b => match isIn E.one t, look E.gr t with
        | true, _ => match σ.getD b .u with
          | .own _ _ => k (.p (.al b))
          | .u => none
          | .mv => none
          | x => k x
        | false, some _ => match σ.getD b .u with
          | .own _ _ => k (.p (.go b))
          | .p (.sl L) => k (.p (.gr L))
          | .fr e L => match isN e with
            | true => none
            | false => k (.p (.gr L))
          | .p (.al s) => k (.p (.go s))
          | _ => none
        | _, _ => none
      | none => none
  | .binOp op t x y _ => match evalO nv σ x, evalO nv σ y with
    | .p (.sc x), .p (.sc y) => match binOk E t x with
      | true => scBin op x y fun z => k (.p (.sc z))
      | false => none
    | _, _ => none
  | .unOp op _ x => match op, evalO nv σ x with
    | .not, .p (.sc (.b x)) => k (.p (.sc (.b (!x))))
    | .neg, .p (.sc (.n kd x)) => k (.p (.sc (.n kd (kd.wrap (0 - x)))))
    | _, _ => none
  | .convert s d x => match look E.ik s, look E.ik d, evalO nv σ x with
    | some _, some kd, .p (.sc (.n _ x)) => k (.p (.sc (.n kd (kd.wrap x))))
    | none, none, _ => convS E s d (listOf σ (evalO nv σ x)) k
    | _, _, _ => none
  | .indexAddr t x i => match look E.sl t, evalO nv σ x, evalO nv σ i with
    | some (_, z), .p (.sl L), .p (.sc (.n _ i)) => br (inRange i L.length && sameKind z (L.getD i.toNat z)) (k (.p (.ev (castSc z (L.getD i.toNat z))))) none
    | some (_, z), .fr e L, .p (.sc (.n _ i)) => match isN e with
      | false => br (inRange i L.length && sameKind z (L.getD i.toNat z)) (k (.p (.ev (castSc z (L.getD i.toNat z))))) none
      | true => match dep e with
        | 1 => br (inRange i L.length) (k (.p (.el (lstOf (L.getD i.toNat (.l [])))))) none
        | d => br (inRange i L.length) (k (.p (.en (d - 1) (lstOf (L.getD i.toNat (.l [])))))) none
    | some _, .p (.nl d L), .p (.sc (.n _ i)) => match d with
      | 0 => none
      | 1 => br (inRange i L.length) (k (.p (.el (lstOf (L.getD i.toNat (.l [])))))) none
      | d => br (inRange i L.length) (k (.p (.en (d - 1) (lstOf (L.getD i.toNat (.l [])))))) none
    | some _, .p (.al s), .p (.sc (.n _ i)) => match ownAny σ s with
      | some (_, L) => br (inRange i L.length) (k (.ep s i.toNat)) none
      | none => none
    | none, .p (.ll LL), .p (.sc (.n _ i)) => match look E.ll t with
      | some _ => br (inRange i LL.length) (k (.p (.el (LL.getD i.toNat [])))) none
      | none => none
    | _, _, _ => none
  | .index t x i => match isIn E.st t, evalO nv σ x, evalO nv σ i with
    | true, .p (.sc (.s x)), .p (.sc (.n _ i)) => br (inRange i x.size) (k (.p (.sc (.n .u8 (x.data.toList.getD i.toNat 0).toNat)))) none
    | _, _, _ => none
  | .extract x i => match extractA (evalO nv σ x) i with
    | some v => k v
    | none => none
  | .buildSlice t n parts => match look E.sl t, Nat.beq parts.toList.length n && Nat.blt n 1000, partsOf nv σ 0 parts.toList with
    | some (e, _), true, x => match isN e with
      | false => match x with
        | some L => k (.own e L)
        | none => none
      | true => match dp e, partsN nv σ (dep e) 0 parts.toList with
        | false, some L => k (.own e L)
        | _, _ => none
    | none, true, _ => match look E.ll t, partsL nv σ 0 parts.toList with
      | some _, some LL => k (.p (.ll LL))
      | _, _ => none
    | _, _, _ => none
  | .makeSlice t l c => match look E.sl t, evalO nv σ l, evalO nv σ c with
    | some (e, z), .p (.sc (.n _ x)), .p (.sc (.n _ y)) => match isN e with
      | true => none
      | false => br (decide (0 ≤ x) && (decide (x ≤ y) && decide (y ≤ lim))) (k (.own e (List.replicate x.toNat z))) none
    | _, _, _ => none
  | .makeFunc (.func f) first cap => match first.toList, pvs (cap.toList.map (evalO nv σ)) with
    | [], some fs => k (.fn f fs)
    | _, _ => none
  | .call c => match c.callee with
    | .value (.func f) => match isRo H f, isIn H.soft f with
      | true, false => match (argsRo nv σ c) with
        | vs => match vs.all isArg with
          | true => match cl f vs [] with
            | some (g, rs, ex) => match packed rs ex with
              | some v => br g (k v) none
              | none => none
            | none => none
          | false => none
      | true, true => match (c.args.toList.map fun x => frzA (evalO nv σ x)) with
        | vs => match vs.all isArg with
          | true => match cl f vs [] with
            | some (g, [.p (.sl L)], []) => br g (k (.p (.sl L))) none
            | _ => none
          | false => none
      | _, _ => none
    | .builtin .len => match c.args.toList, c.argTypes.toList with
      | [x], [t] => match evalO nv σ x with
        | .p (.sc (.s x)) => match isIn E.st t with
          | true => k (.p (.sc (.n .i64 x.size)))
          | false => none
        | .p (.ll LL) => match look E.ll t with
          | some _ => k (.p (.sc (.n .i64 LL.length)))
          | none => none
        | v => match look E.sl t, listOf σ v with
          | some _, some L => k (.p (.sc (.n .i64 L.length)))
          | some _, none => match listN σ v with
            | some (_, L) => k (.p (.sc (.n .i64 L.length)))
            | none => match deepL σ v with
              | some L => k (.p (.sc (.n .i64 L.length)))
              | none => none
          | _, _ => none
      | _, _ => none
    | .builtin .min => match c.args.toList.map (evalO nv σ) with
      | [.p (.sc (.n kx x)), .p (.sc (.n _ y))] => k (.p (.sc (.n kx (if y < x then y else x))))
      | _ => none
    | .builtin .max => match c.args.toList.map (evalO nv σ) with
      | [.p (.sc (.n kx x)), .p (.sc (.n _ y))] => k (.p (.sc (.n kx (if y > x then y else x))))
      | _ => none
    | _ => none
  | _ => none
end
def refsP : Pv → List Nat
  | .al s => [s]
  | .go s => [s]
  | .pt k n => List.range' k n
  | _ => []
def refsA : AV → List Nat
  | .p x => refsP x
  | .fn _ cap => cap.flatMap refsP
  | _ => []
def closeL (σ : List AV) : Nat → List Nat → List Nat → List Nat
  | 0, _, d => d
  | _, [], d => d
  | n + 1, x :: r, d => match isIn d x with
    | true => closeL σ n r d
    | false => closeL σ n (r ++ refsA (σ.getD x .u)) (d ++ [x])
def idxOf : List Nat → Nat → Nat → Option Nat
  | [], _, _ => none
  | x :: r, j, s => match Nat.beq x s with
    | true => some j
    | false => idxOf r (j + 1) s
def run? (ρ : Nat → Option Nat) (k j : Nat) : Nat → Bool
  | 0 => true
  | n + 1 => (match ρ (k + n) with
    | some i => Nat.beq i (j + n)
    | none => false) && run? ρ k j n
def renP (ρ : Nat → Option Nat) : Pv → Option Pv
  | .al s => (ρ s).map .al
  | .go s => (ρ s).map .go
  | .pt k n => match ρ k with
    | some j => match run? ρ k j n with
      | true => some (.pt j n)
      | false => none
    | none => none
  | .fp _ => none
  | x => some x
def renPs (ρ : Nat → Option Nat) : List Pv → Option (List Pv)
  | [] => some []
  | x :: r => match renP ρ x, renPs ρ r with
    | some y, some ys => some (y :: ys)
    | _, _ => none
def renA (ρ : Nat → Option Nat) : AV → AV
  | .p x => match renP ρ x with
    | some y => .p y
    | none => .u
  | .tu fs => match renPs ρ fs with
    | some ys => .tu ys
    | none => .u
  | .fn f cap => match renPs ρ cap with
    | some ys => .fn f ys
    | none => .u
  | .ep _ _ => .u
  | x => x
def dropL (D : List Nat) (v : AV) : AV := match D.any fun d => hasVA d v with
  | true => .u
  | false => v
def setAll : List (Nat × AV) → List AV → List AV
  | [], σ => σ
  | (i, v) :: r, σ => setAll r (σ.set i v)
def hasR (b n : Nat) (v : AV) : Bool := (List.range' b n).any fun d => hasVA d v || hasPA d v
def dropR (b n : Nat) (v : AV) : AV := match hasR b n v with
  | true => .u
  | false => v
def layAt (b : Nat) (vs : List AV) (σ : List AV) : List AV := setAll ((List.range' b vs.length).zip vs) (σ.map (dropR b vs.length))
def okNew : AV → Bool
  | .p (.sc _) => true
  | .p (.sl _) => true
  | _ => false
def isNew : List AV → List AV → Bool
  | [], [.p (.pt _ _)] => true
  | _, _ => false
section
variable (E : Env) (cl : Calling) (H : Hints) (F : Fi)
def vtOf (d : Option Tmp) : Option Nat := match d with
  | some t => look F.vt t
  | none => none
def isTk (l : List Tmp) (d : Option Tmp) : Bool := match d with
  | some t => isIn l t
  | none => false
def calleeOf (σ : List AV) : Callee → Option (FuncId × List Pv)
  | .value (.func f) => some (f, [])
  | .value (.tmp t) => match evalO F.nv σ (.tmp t) with
    | .fn f cap => some (f, cap)
    | _ => none
  | _ => none
def modesOf (f : FuncId) : List Mode := match look H.md f with
  | some ms => ms
  | none => []
def toShare (σ : List AV) (soft : Bool) : List Mode → List Operand → List Nat
  | _, [] => []
  | ms, x :: r => match ms.headD .ro, evalO F.nv σ x with
    | .fz, .p (.al s) => s :: toShare σ soft ms.tail r
    | .ro, .p (.al s) => match soft with
      | true => s :: toShare σ soft ms.tail r
      | false => toShare σ soft ms.tail r
    | .ro, .p (.go s) => match soft with
      | true => s :: toShare σ soft ms.tail r
      | false => toShare σ soft ms.tail r
    | _, _ => toShare σ soft ms.tail r
def argsM (σ : List AV) : List Mode → List Operand → List AV
  | _, [] => []
  | ms, x :: r => (match ms.headD .ro with
    | .ro => roA σ (evalO F.nv σ x)
    | _ => evalO F.nv σ x) :: argsM σ ms.tail r
def canArg : AV → Bool
  | .p _ => true
  | .fr _ _ => true
  | .fn _ _ => true
  | _ => false
def nodupB : List Nat → Bool
  | [] => true
  | x :: r => !isIn r x && nodupB r
def ptsP : Pv → List (Nat × Nat)
  | .pt k n => [(k, n)]
  | _ => []
def ptsA : AV → List (Nat × Nat)
  | .p x => ptsP x
  | .fn _ cap => cap.flatMap ptsP
  | .tu fs => fs.flatMap ptsP
  | _ => []
def inPts (s : Nat) (x : Nat × Nat) : Bool := Nat.ble x.1 s && Nat.blt s (x.1 + x.2)
def whereTo (d : Tmp) (Λ : List Nat) (rs ex : List AV) (ρ : List Nat → Nat → Option Nat) : Option (List Nat × List (Nat × AV)) :=
  let dst := F.nv + d
  let val (G : List Nat) : Option AV := match rs with
    | [] => some AV.u
    | [x] => some (renA (ρ G) x)
    | xs => (pvs xs).map fun ys => renA (ρ G) (.tu ys)
  match look F.vt d, ex, rs with
  | none, [.own _ _], [.p (.al j)] => match Nat.beq j Λ.length with
    | true => some ([dst], [])
    | false => none
  | none, [], _ => (val []).map fun v => ([], [(dst, v)])
  | some b, ex, _ => match Nat.ble F.nc b && Nat.ble (b + ex.length) F.nv with
    | true => (val (List.range' b ex.length)).map fun v => (List.range' b ex.length, [(dst, v)])
    | false => none
  | _, _, _ => none
def back (σ : List AV) (Λ : List Nat) (ptr : Nat → Bool) (d : Tmp) (rs out : List AV) : Option (List AV) :=
  let ρ := fun (G : List Nat) (j : Nat) => (Λ ++ G)[j]?
  match whereTo F d Λ rs (out.drop Λ.length) ρ with
  | none => none
  | some (G, last) =>
    let D := (Λ.zip out).filterMap fun x => match ptr x.1 || !refable x.2 with
      | true => some x.1
      | false => none
    match Nat.beq out.length (Λ.length + G.length) && (nodupB (Λ ++ G ++ last.map (·.1)) && (Λ ++ G).all fun s => Nat.blt s σ.length) with
    | true => some (setAll ((Λ ++ G).zip (out.map (renA (ρ G))) ++ last) (σ.map (dropL (D ++ G ++ [F.nv + d]))))
    | false => none
def roOf (σ : List AV) : List Mode → List Operand → List Nat
  | _, [] => []
  | ms, x :: r => match ms.headD .ro, evalO F.nv σ x with
    | .ro, .p (.al s) => s :: roOf σ ms.tail r
    | .ro, .p (.go s) => s :: roOf σ ms.tail r
    | _, _ => roOf σ ms.tail r
def newBack (σ : List AV) (soft : Bool) (d : Tmp) (g : Bool) (out : List AV) {R : Type} (k : List AV → Option R) : Option R := match soft && (out.all okNew && Nat.blt 0 out.length), look F.vt d with
  | true, some b => match Nat.ble (b + out.length) F.nc && Nat.ble F.m b with
    | true => br g (k (setA (layAt b out σ) (F.nv + d) (.p (.pt b out.length)))) none
    | false => none
  | _, _ => none
def effCall (σ0 : List AV) (d : Option Tmp) (c : Call) {R : Type} (k : List AV → Option R) : Option R :=
  match calleeOf F σ0 c.callee, d with
  | some (f, _), some d =>
    let ms := modesOf H f
    let soft := isIn H.soft f
    let σ := (toShare F σ0 soft ms c.args.toList).foldl shareIf σ0
    match calleeOf F σ c.callee with
    | some (f', cap) =>
      let as := argsM F σ ms c.args.toList ++ cap.map AV.p
      let Λ := closeL σ 200 (as.flatMap refsA) []
      let ρ := idxOf Λ 0
      let cs := Λ.map fun s => σ.getD s .u
      let PG := (as ++ cs).flatMap ptsA
      let ro := roOf F σ ms c.args.toList
      match Nat.beq f f' && (as.all canArg && (nodupB Λ && (PG.all (fun x => match ρ x.1 with
          | some j => run? ρ x.1 j x.2
          | none => false) && ro.all (fun s => !soft && !isIn Λ s)))) with
      | false => none
      | true => match cl f (as.map (renA ρ)) (cs.map (renA ρ)) with
        | none => none
        | some (g, rs, out) => match isNew cs rs with
          | true => newBack F σ soft d g out k
          | false => match soft || !(rs.any softA || out.any softA) with
            | false => none
            | true => match back F σ Λ (fun s => PG.any (inPts s)) d rs out with
              | none => none
              | some σ' => br g (k σ') none
    | none => none
  | _, _ => none
end
def pzA : Pz → AV
  | .sc x => .p (.sc x)
  | .sl => .p (.sl [])
  | .fn => .u
section
variable (E : Env) (cl : Calling) (H : Hints) (F : Fi)
def pureCall (σ : List AV) (d : Option Tmp) (c : Call) : Bool := match c.callee with
  | .value (.func f) => match isRo H f, isIn H.soft f, vtOf F d with
    | true, false, none => (argsRo F.nv σ c).all isArg
    | _, _, _ => false
  | .builtin _ => true
  | _ => false
def goesOver (s : Nat) : Bool := (Nat.ble F.nv s && !isIn F.na s) || isIn F.mvs s
def asgF (d : Tmp) (σ : List AV) : List AV := match isIn F.fa d with
  | true => shareIf σ (F.nv + d)
  | false => σ
def zeroF : List Pz → Option (List Fv)
  | [] => some []
  | .sc y :: r => (zeroF r).map (.sc y :: ·)
  | .sl :: r => (zeroF r).map (.sl [] :: ·)
  | .fn :: _ => none
def partsF (nv : Nat) (σ : List AV) : List (Nat × Operand) → Option (List (Nat × Fv))
  | [] => some []
  | (i, x) :: r => match evalO nv σ x with
    | .p (.sc y) => (partsF nv σ r).map ((i, .sc y) :: ·)
    | .p (.sl L) => (partsF nv σ r).map ((i, .sl L) :: ·)
    | .fr e L => match isN e with
      | true => none
      | false => (partsF nv σ r).map ((i, .sl L) :: ·)
    | _ => none
def setF : List (Nat × Fv) → List Fv → List Fv
  | [], l => l
  | (i, v) :: r, l => setF r (l.set i v)
def fvA : Fv → AV
  | .sc y => .p (.sc y)
  | .sl L => .p (.sl L)
def boxSt (σ : List AV) (F : Fi) (t : TypeId) (x : Operand) : Option (List AV) := match evalO F.nv σ x with
  | .p (.st fs) => match look E.fd t with
    | some n => match Nat.beq fs.length n with
      | true => some (fs.map fvA)
      | false => none
    | none => none
  | _ => none
def frzV (d : Option Tmp) (v : AV) : AV := match isTk F.fz d, isTk F.fl d, v with
  | true, _, .own e L => .fr e L
  | false, true, .own e L => .p (slv e L)
  | _, _, v => v
def appDeep (nv : Nat) (σ : List AV) (d : Tmp) (e0 : TypeId) (s : Nat) (y : AV) {R : Type} (k : List AV → Option R) : Option R := match ownD σ s, y with
  | some (e, L), .p (.al s2) => match ownD σ s2 with
    | some (e2, M) => match Nat.beq (ud e) e0 && (Nat.beq e e2 && (!Nat.beq s s2 && (!Nat.beq s (nv + d) && !Nat.beq s2 (nv + d)))) with
      | true => br (decide (L.length + M.length ≤ lim)) (k (setA ((setA σ s2 .u).set s .mv) (nv + d) (.own e (L ++ M)))) none
      | false => none
    | none => none
  | _, _ => none
def deepE (E : Env) : Nat → TypeId → Option TypeId
  | 0, _ => none
  | n + 1, t => match look E.sl t with
    | some (e, _) => match isN e with
      | false => some e
      | true => (deepE E n (unF e)).map fun e' => (e' + 1) * 1000000000 + e
    | none => none
def buildDeep (E : Env) (nv : Nat) (σ : List AV) (d : Tmp) (t : TypeId) (n : Nat) (ps : List (Nat × Operand)) {R : Type} (k : List AV → Option R) : Option R := match deepE E 4 t, ps with
  | some e, [] => match okDeep e && Nat.beq n 0 with
    | true => k (setA σ (nv + d) (.own e []))
    | false => none
  | some e, [(0, x)] => match okDeep e && Nat.beq n 1, evalO nv σ x with
    | true, .p (.al s) => match ownAny σ s with
      | some (e', K) => match Nat.beq e' (inn e) && !Nat.beq s (nv + d) with
        | true => k (setA (setA σ s .u) (nv + d) (.own e [.l K]))
        | false => none
      | none => none
    | _, _ => none
  | _, _ => none
def inner3 (E : Env) (cl : Calling) (F : Fi) (o1 o2 o3 : Oper) (σ : List AV) {R : Type} (k : List AV → Option R) : Option R :=
  match o1.guard, o2.guard, o3.guard with
  | none, none, none => match o1.dst, o1.op, o2.dst, o2.op with
    | some d1, .load t p, some d2, .move y => match evalO F.nv σ p, look E.sl t, evalO F.nv (setA σ (F.nv + d1) .u) y, o3.dst with
      | .ep s i, some _, .p (.sc v), some d3 => match ownD σ s with
        | some (e, L) => match o3.op with
          | .call c => match c.callee, c.args.toList with
            | .value (.func f), [.tmp a1, .tmp a2] => match (Nat.beq a1 d1 && (Nat.beq a2 d2 && !Nat.beq d1 d2)) && (Nat.blt s F.nv && (Nat.blt (F.nv + d1) σ.length && Nat.blt (F.nv + d2) σ.length)) with
              | true => br (Nat.blt i L.length) (match cl f [.p (.al 0), .p (.sc v)] [.own (inn e) (lstOf (L.getD i (.l [])))] with
                | some (g, [.p (.sc u)], [.own e' K']) => match okDeep e && Nat.beq e' (inn e) with
                  | true => br g (k (setA ((setA (setA σ (F.nv + d1) .u) (F.nv + d2) (.p (.sc v))).set s (.own e (L.set i (.l K')))) (F.nv + d3) (.p (.sc u)))) none
                  | false => none
                | _ => none) none
              | false => none
            | _, _ => none
          | _ => none
        | none => none
      | _, _, _, _ => none
    | _, _, _, _ => none
  | _, _, _ => none
def stepOp (σ : List AV) (dst : Option Tmp) (op : Op) {R : Type} (k : List AV → Option R) : Option R :=
  match op with
  | .assign x => match dst with
    | none => none
    | some d => match evalO F.nv σ x with
      | .p (.al s) => match goesOver F s with
        | true => match ownAny σ s with
          | some (e, L) => match Nat.beq s (F.nv + d), Nat.blt (F.nv + d) σ.length with
            | false, true => k (asgF F d (moveOwn σ s (F.nv + d) e L))
            | _, _ => none
          | none => k (setA σ (F.nv + d) (.p (.al s)))
        | false => k (setA σ (F.nv + d) (.p (.al s)))
      | v => k (setA σ (F.nv + d) v)
  | .store t a x => match evalO F.nv σ a with
    | .ep s i => match isIn E.sc t, evalO F.nv σ x with
      | true, .p (.sc v) => match ownOf σ s, isS v with
        | some (e, L), true => match isN e with
          | true => none
          | false => k (put F.nv (σ.set s (.own e (L.set i v))) dst .und)
        | _, _ => none
      | false, v => match look E.sl t, ownOf σ s with
        | some _, some (e, L) => match isN e, cellN (dep e) v with
          | true, some y => k (put F.nv (σ.set s (.own e (L.set i y))) dst .und)
          | _, _ => none
        | _, _ => none
      | _, _ => none
    | v => match cellAt v with
    | some b => match isIn E.one t, look E.gr t with
      | true, _ => match evalO F.nv σ x with
        | .p (.al s) => match ownAny σ s with
          | some (e, L) => match Nat.beq s b with
            | false => k (put F.nv (moveOwn σ s b e L) dst .und)
            | true => k (put F.nv σ dst .und)
          | none => none
        | .u => none
        | .mv => none
        | .und => none
        | .tu _ => none
        | .p (.gr _) => none
        | .p (.st _) => none
        | .p (.go _) => none
        | v => k (put F.nv (setA σ b v) dst .und)
      | false, some _ => match evalO F.nv σ x with
        | .p (.gr L) => k (put F.nv (setA σ b (.p (.sl L))) dst .und)
        | .p (.go s) => match ownOf σ s with
          | some (e, L) => match Nat.beq s b, isN e with
            | false, false => k (put F.nv (moveOwn σ s b e L) dst .und)
            | _, _ => none
          | none => none
        | _ => none
      | _, _ => none
    | none => none
  | .alloc t => match look E.al t, vtOf F dst, dst with
    | some zs, some b, some d => match Nat.blt 0 zs.length && (Nat.ble (b + zs.length) F.nc && Nat.ble F.m b) with
      | true => k (setA (layAt b (zs.map pzA) σ) (F.nv + d) (.p (.pt b zs.length)))
      | false => none
    | _, _, _ => none
  | .box t x => match vtOf F dst, dst with
    | none, some d => match evalO F.nv σ x with
      | .p (.sc y) => match isIn E.sc t with
        | true => k (setA σ (F.nv + d) (.p (.ev y)))
        | false => none
      | .p (.sl L) => match isIn E.one t with
        | true => k (setA σ (F.nv + d) (.p (.el L)))
        | false => none
      | .p (.gr L) => match look E.gr t with
        | some _ => k (setA σ (F.nv + d) (.p (.el L)))
        | none => none
      | .fr e L => match isIn E.one t, isN e with
        | true, false => k (setA σ (F.nv + d) (.p (.el L)))
        | _, _ => none
      | _ => none
    | some b, some d => match boxSt E σ F t x with
      | some vs => match Nat.blt 0 vs.length && (Nat.ble (b + vs.length) F.nc && Nat.ble F.m b) with
        | true => k (setA (layAt b vs σ) (F.nv + d) (.p (.pt b vs.length)))
        | false => none
      | none => match Nat.blt b F.nc && Nat.ble F.m b, (match evalO F.nv σ x with
        | .p (.sc y) => match isIn E.sc t with
          | true => some (AV.p (.sc y))
          | false => none
        | .p (.sl L) => match isIn E.one t with
          | true => some (AV.p (.sl L))
          | false => none
        | .p (.al s) => match isIn E.one t, ownAny σ s with
          | true, some _ => some (AV.p (.al s))
          | _, _ => none
        | .p (.gr L) => match look E.gr t with
          | some _ => some (AV.p (.sl L))
          | none => none
        | .p (.go s) => match look E.gr t with
          | some _ => some (AV.p (.al s))
          | none => none
        | _ => none) with
        | true, some v => match hasR b 1 v with
          | true => none
          | false => k (setA (layAt b [v] σ) (F.nv + d) (.p (.pt b 1)))
        | _, _ => none
    | _, _ => none
  | .build t parts => match look E.gr t, parts.toList with
    | some _, [(0, x)] => match evalO F.nv σ x with
      | .p (.sl L) => k (put F.nv σ dst (.p (.gr L)))
      | .fr e L => match isN e with
        | true => none
        | false => k (put F.nv σ dst (.p (.gr L)))
      | .p (.al s) => match ownOf σ s with
        | some _ => k (put F.nv σ dst (.p (.go s)))
        | none => none
      | _ => none
    | none, ps => match look E.fd t, look E.al t with
      | some n, some zs => match Nat.beq zs.length n && Nat.beq n 3, zeroF zs, partsF F.nv σ ps with
        | true, some fs, some qs => match qs.all fun q => Nat.blt q.1 n with
          | true => k (put F.nv σ dst (.p (.st (setF qs fs))))
          | false => none
        | _, _, _ => none
      | _, _ => none
    | _, _ => none
  | .buildSlice t n parts => match isTk F.dpl dst, dst with
   | true, some d => buildDeep E F.nv σ d t n parts.toList k
   | _, _ => valOp E cl H F.nv ((ownParts F.nv σ parts.toList).foldl shareIf σ) (.buildSlice t n parts) fun v => k (put F.nv ((ownParts F.nv σ parts.toList).foldl shareIf σ) dst (frzV F dst v))
  | .slice t x lo hi none => match look E.sl t, evalO F.nv σ x with
    | some _, .p (.sl L) => match boundA F.nv σ 0 lo, boundA F.nv σ L.length hi with
      | some l, some h => br (decide (0 ≤ l) && (decide (l ≤ h) && decide (h ≤ L.length))) (k (put F.nv σ dst (.p (.sl (sliceA L l h))))) none
      | _, _ => none
    | some _, .fr e L => match boundA F.nv σ 0 lo, boundA F.nv σ L.length hi with
      | some l, some h => br (decide (0 ≤ l) && (decide (l ≤ h) && decide (h ≤ L.length))) (k (put F.nv σ dst (.p (slv e (sliceA L l h))))) none
      | _, _ => none
    | some _, .p (.nl d L) => match boundA F.nv σ 0 lo, boundA F.nv σ L.length hi with
      | some l, some h => br (decide (0 ≤ l) && (decide (l ≤ h) && decide (h ≤ L.length))) (k (put F.nv σ dst (.p (.nl d (sliceA L l h))))) none
      | _, _ => none
    | some _, .p (.al s) => match ownOf σ s with
      | some (e, L) => match boundA F.nv σ 0 lo, boundA F.nv σ L.length hi with
        | some l, some h => match isTk F.sk dst, lo, dst with
          | false, _, _ => br (decide (0 ≤ l) && (decide (l ≤ h) && decide (h ≤ L.length))) (k (put F.nv (shareG σ s e L) dst (.p (slv e (sliceA L l h))))) none
          | true, none, some d => br (decide (0 ≤ h) && decide (h ≤ L.length)) (k (setA (σ.set s .mv) (F.nv + d) (.own e (L.take h.toNat)))) none
          | true, _, _ => none
        | _, _ => none
      | none => none
    | none, .p (.sc (.s x)) => match isIn E.st t, boundA F.nv σ 0 lo, boundA F.nv σ x.size hi with
      | true, some l, some h => br (decide (0 ≤ l) && (decide (l ≤ h) && decide (h ≤ x.size))) (k (put F.nv σ dst (.p (.sc (.s (x.extract l.toNat h.toNat)))))) none
      | _, _, _ => none
    | _, _ => none
  | .call c => match c.callee with
    | .builtin .append => match c.args.toList, c.argTypes.toList, dst with
      | [x, y], [t, t'], some d => match look E.sl t, Nat.beq t t', evalO F.nv σ x with
        | some (e0, _), true, .p (.al s) => match ownOf σ s, listOf σ (evalO F.nv σ y) with
          | some (e, L), some M => match Nat.beq e e0, isN e with
            | true, false => br (decide (L.length + M.length ≤ lim)) (k (setA (σ.set s .mv) (F.nv + d) (.own e (L ++ M)))) none
            | _, _ => none
          | some (e, L), none => match Nat.beq e e0, isN e, listN σ (evalO F.nv σ y) with
            | true, true, some (d', M) => match Nat.beq d' (dep e) with
              | true => br (decide (L.length + M.length ≤ lim)) (k (setA (σ.set s .mv) (F.nv + d) (.own e (L ++ M)))) none
              | false => none
            | _, _, _ => none
          | none, _ => appDeep F.nv σ d e0 s (evalO F.nv σ y) k
        | _, _, _ => none
      | _, _, _ => none
    | _ => match pureCall H F σ dst c with
      | true => valOp E cl H F.nv σ (.call c) fun v => k (put F.nv σ dst (frzV F dst v))
      | false => effCall cl H F σ dst c k
  | op => valOp E cl H F.nv σ op fun v => k (put F.nv σ dst v)
def anyV : AV → Bool
  | .p (.al _) => true
  | .p (.go _) => true
  | .p (.pt _ _) => true
  | .p (.fp _) => true
  | .ep _ _ => true
  | .own _ _ => true
  | .mv => true
  | .tu _ => true
  | .fn _ _ => true
  | _ => false
def nrA (d : Nat) (v : AV) : Bool := !(hasVA d v || hasPA d v)
def noRef (σ : List AV) (d : Nat) : Bool := σ.all (nrA d)
def apartA (σ : List AV) (d : Nat) : Bool := !anyV (σ.getD d .u) && noRef σ d
def pureS (dst : Option Tmp) (c : Call) : Bool := match c.callee with
  | .value (.func f) => match isRo H f, isIn H.soft f, vtOf F dst with
    | true, false, none => true
    | true, true, none => isTk F.sp dst
    | _, _, _ => false
  | .builtin .append => false
  | .builtin _ => true
  | _ => false
def kindV (dst : Option Tmp) (op : Op) : Bool := match op with
  | .store _ _ _ => false
  | .alloc _ => false
  | .box _ _ => false
  | .build _ _ => false
  | .call c => pureS H F dst c && !(isTk F.fz dst || isTk F.fl dst)
  | .buildSlice _ _ _ => !(isTk F.fz dst || isTk F.fl dst)
  | _ => true
def notAl : AV → Bool
  | .p (.al _) => false
  | _ => true
def notMv : AV → Bool
  | .p (.al s) => !goesOver F s
  | _ => true
def dynV (σ : List AV) (op : Op) : Bool := match op with
  | .assign x => notMv F (evalO F.nv σ x)
  | .slice _ x _ _ _ => notAl (evalO F.nv σ x)
  | .buildSlice _ _ ps => (ownParts F.nv σ ps.toList).isEmpty
  | _ => true
def appD (σ : List AV) (dst : Option Tmp) (op : Op) : Bool := match op, dst with
  | .call c, some d => match c.callee, c.args.toList with
    | .builtin .append, .tmp t :: _ => match σ.getD (F.nv + t) .u with
      | .own e _ => !dp e && (noRef σ (F.nv + t) && (apartA σ (F.nv + d) && !Nat.beq t d))
      | _ => false
    | _, _ => false
  | _, _ => false
def stoD (σ : List AV) (dst : Option Tmp) (op : Op) : Bool := match op, dst with
  | .store _ a _, none => match evalO F.nv σ a with
    | .ep _ _ => true
    | _ => false
  | _, _ => false
def stepD (solo : Bool) (σ : List AV) (dst : Option Tmp) (op : Op) {R : Type} (k : List AV → Option R) : Option R :=
  match kindV H F dst op && dynV F σ op, dst with
  | true, some d => match apartA σ (F.nv + d) with
    | true => valOp E cl H F.nv σ op fun v => match nrA (F.nv + d) v with
      | true => k (σ.set (F.nv + d) v)
      | false => none
    | false => none
  | _, _ => match solo || (appD F σ dst op || stoD F σ dst op) with
    | true => stepOp E cl H F σ dst op k
    | false => none
variable (draw : Bool) (all : Array Oper) {R : Type}
def behind : Nat → Nat → Nat → Bool
  | 0, _, _ => false
  | n + 1, j, i => match all[j]? with
    | some o => o.after.toList.any fun e => Region.binds .any e && (Nat.beq e.on i || behind n e.on i)
    | none => false
def soloAt (i : Nat) : Bool := (List.range all.size).all fun j => Nat.beq i j || (behind all all.size i j || behind all all.size j i)
variable (solo : Bool)
def oneOp (σ : List AV) (o : Oper) (k : List AV → Option R) : Option R := match draw with
  | true => stepD E cl H F solo σ o.dst o.op k
  | false => stepOp E cl H F σ o.dst o.op k
def skipOp (σ : List AV) (o : Oper) (k : List AV → Option R) : Option R := match draw, o.dst with
  | true, some d => match apartA σ (F.nv + d) with
    | true => k (σ.set (F.nv + d) .und)
    | false => none
  | _, d => k (put F.nv σ d .und)
def guarded (σ : List AV) (o : Oper) (k : List AV → Option R) : Option R := match o.guard with
  | none => oneOp E cl H F draw solo σ o k
  | some (j, want) => match (all[j]?).bind (·.dst) with
    | some d => match σ.getD (F.nv + d) .u with
      | .p (.sc (.b x)) => br (x == want) (oneOp E cl H F draw solo (σ.set (F.nv + d) (.p (.sc (.b want)))) o k)
          (skipOp F draw (σ.set (F.nv + d) (.p (.sc (.b (!want))))) o k)
      | .und => skipOp F draw σ o k
      | _ => none
    | none => none
end
section
variable (E : Env) (cl : Calling) (H : Hints) (F : Fi) (draw : Bool) (all : Array Oper) {R : Type}
def goOps : List Oper → Nat → List AV → (List AV → Option R) → Option R
  | [], _, σ, k => k σ
  | o :: r, i, σ, k => guarded E cl H F draw all (draw && soloAt all i) σ o fun σ' => goOps r (i + 1) σ' k
end
def goDeep (E : Env) (cl : Calling) (H : Hints) (F : Fi) (all : Array Oper) {R : Type} : Nat → List Oper → Nat → List AV → (List AV → Option R) → Option R
  | 0, o1 :: o2 :: o3 :: r, i, σ, k => inner3 E cl F o1 o2 o3 σ fun σ' => goOps E cl H F false all r (i + 3) σ' k
  | n + 1, o :: r, i, σ, k => guarded E cl H F false all false σ o fun σ' => goDeep E cl H F all n r (i + 1) σ' k
  | _, _, _, _, _ => none
noncomputable def recL {β : Type} (f : Array Bool → Nat → β) (rd : Array Bool → List Nat) (Ds : List (Array Bool)) : List β :=
  List.rec (motive := fun _ => List β) [] (fun D _ ih => List.rec (motive := fun _ => List β) ih (fun i _ ih2 => f D i :: ih2) (rd D)) Ds
noncomputable def recR {β : Type} (f : Array Bool → Nat → β) (rd : Array Bool → List Nat) (Ds : List (Array Bool)) : List β :=
  List.rec (motive := fun _ => List β) [] (fun D _ ih => List.rec (motive := fun _ => List β) ih (fun i _ ih2 => f D i :: ih2) (rd D)) Ds
section
variable (E : Env) (cl : Calling) (H : Hints) (F : Fi) (all : Array Oper) {R : Type}
def goL (D : Array Bool) : List Oper → Nat → List AV → (List AV → Option R) → Option R
  | [], _, σ, k => k σ
  | o :: r, i, σ, k => match D.getD i false with
    | true => guarded E cl H F true all true σ o fun σ' => goL D r (i + 1) σ' k
    | false => goL D r (i + 1) σ k
def actN (i : Nat) (σ : List AV) : Option (List AV) := match all[i]? with
  | some o => guarded E cl H F true all true σ o some
  | none => none
noncomputable def edgeL (Ds : List (Array Bool)) (σ : List AV) : List (Option (List AV)) := recL (fun D i => goL E cl H F all D all.toList 0 σ (actN E cl H F all i)) (Region.ready .any all) Ds
noncomputable def edgeR (Ds : List (Array Bool)) (σ : List AV) : List (Option (List AV)) := recR (fun D i => goL E cl H F all (D.setIfInBounds i true) all.toList 0 σ some) (Region.ready .any all) Ds
end
def memD (Ds : List (Array Bool)) (D : Array Bool) : Bool := Ds.any fun D' => D'.toList == D.toList
def closedB (all : Array Oper) (Ds : List (Array Bool)) : Bool := memD Ds (Array.replicate all.size false) && Ds.all fun D =>
  (Nat.beq D.size all.size && (Region.ready .any all D).all fun i => memD Ds (D.setIfInBounds i true)) && (!(Region.ready .any all D).isEmpty || D.toList.all id)
def argA (o : Oper) : Option Tmp := match o.op with
  | .call c => match c.callee, c.args.toList with
    | .builtin .append, .tmp t :: _ => some t
    | _, _ => none
  | _ => none
def farA (all : Array Oper) (oi oj : Oper) : Bool := match argA oi with
  | some t => !(oj.looksAt all).contains t && decide (oj.dst ≠ some t)
  | none => true
def isLoc (H : Hints) (F : Fi) (o : Oper) : Bool := o.dst.isSome && (kindV H F o.dst o.op || (argA o).isSome)
def isSto (o : Oper) : Bool := o.dst.isNone && (o.guard.isNone && match o.op with
  | .store _ _ _ => true
  | _ => false)
def isLook (o : Oper) : Bool := o.dst.isSome && match o.op with
  | .move _ => true
  | .indexAddr _ _ _ => true
  | .binOp _ _ _ _ _ => true
  | _ => false
def cmt (H : Hints) (F : Fi) (all : Array Oper) (oi oj : Oper) : Bool := oi.apart all oj && ((isLoc H F oi && (isLoc H F oj && (farA all oi oj && farA all oj oi))) || ((isSto oi && isLook oj) || (isLook oi && isSto oj)))
def freeV (H : Hints) (F : Fi) (all : Array Oper) (listed : Array Bool) (i : Nat) : Bool := match all[i]? with
  | none => false
  | some oi => (List.range all.size).all fun j => Nat.beq j i || (listed.getD j true || match all[j]? with
      | some oj => behind all all.size j i || cmt H F all oi oj
      | none => true)
def lexV (H : Hints) (F : Fi) (all : Array Oper) : Nat → Nat → Array Bool → Bool
  | 0, _, listed => (Region.ready .any all listed).isEmpty
  | n + 1, i, listed => (Region.ready .any all listed).contains i && (freeV H F all listed i && lexV H F all n (i + 1) (listed.setIfInBounds i true))
def okD (H : Hints) (F : Fi) (all : Array Oper) : Bool := lexV H F all all.size 0 (Array.replicate all.size false)
def lexO (H : Hints) (F : Fi) (all : Array Oper) : List Nat → Array Bool → Bool
  | [], listed => (Region.ready .any all listed).isEmpty
  | i :: r, listed => (Region.ready .any all listed).contains i && (freeV H F all listed i && lexO H F all r (listed.setIfInBounds i true))
def okO (H : Hints) (F : Fi) (all : Array Oper) (l : List Nat) : Bool := Nat.beq l.length all.size && lexO H F all l (Array.replicate all.size false)
def goO (E : Env) (cl : Calling) (H : Hints) (F : Fi) (all : Array Oper) {R : Type} : List Nat → List AV → (List AV → Option R) → Option R
  | [], σ, k => k σ
  | i :: r, σ, k => match all[i]? with
    | some o => guarded E cl H F true all (soloAt all i) σ o fun σ' => goO E cl H F all r σ' k
    | none => none
def clear1 (σ : List AV) (s : Nat) : List AV := setA σ s .u
def rowsIn : List Nat → Nat → List AV → List Nat
  | _, _, [] => []
  | [], _, _ => []
  | k :: ks, i, v :: σ => match Nat.beq k i with
    | true => match refable v with
      | true => k :: rowsIn ks (i + 1) σ
      | false => rowsIn ks (i + 1) σ
    | false => rowsIn (k :: ks) (i + 1) σ
def setU : List Nat → Nat → List AV → List AV
  | _, _, [] => []
  | [], _, σ => σ
  | k :: ks, i, v :: σ => match Nat.beq k i with
    | true => (match refable v with
      | true => v
      | false => .u) :: setU ks (i + 1) σ
    | false => v :: setU (k :: ks) (i + 1) σ
def clear (ks : List Nat) (σ : List AV) : List AV := setU ks 0 ((rowsIn ks 0 σ).foldl clear1 σ)
def klOf (F : Fi) (id : Nat) : List Nat × List Nat × List Nat := match look F.kl id with
  | some x => x
  | none => ([], [], [])
def kLoop {R : Type} (r : X × List AV) (k : X → List AV → Option R) : Option R := match r.1 with
  | .norm => none
  | .rest => none
  | x => k x r.2
def kReg {R : Type} (r : X × List AV) (k : X → List AV → Option R) : Option R := match r.1 with
  | .norm => k .norm r.2
  | _ => none
def headR : Code → Option Nat
  | .region id _ _ => some id
  | .seq a _ => headR a
  | _ => none
def goesT (F : Fi) (cur : Nat) (b : Code) : Option Nat := match cur, headR b with
  | 0, some id => match isIn F.tl id with
    | true => some id
    | false => none
  | _, _ => none
def kTail {R : Type} (r : X × List AV) (k : X → List AV → Option R) : Option R := match r.1 with
  | .norm => k .ret r.2
  | .rest => k .norm r.2
  | _ => none
section
variable (E : Env) (cl : Calling) (H : Hints) (F : Fi) (lp : Looping) {R : Type}
def EC (cur : Nat) : Code → List AV → (X → List AV → Option R) → Option R
  | .skip, σ, k => k .norm σ
  | .seq a b, σ, k => EC cur a σ fun x σ' => match x with
    | .norm => match goesT F cur b with
      | some id => match lp (id + 200000) (.block 0 b) (clear (klOf F (id + 200000)).1 σ') with
        | some (g, p, r, r') => br g (br p (kTail r k) (kTail r' k)) none
        | none => none
      | none => EC cur b σ' k
    | .rest => none
    | x => k x σ'
  | .cond c a b, σ, k => match evalO F.nv σ c with
    | .p (.sc (.b t)) => br t (EC cur a σ k) (EC cur b σ k)
    | _ => none
  | .block id b, σ, k => EC id b σ fun x σ' => match x with
    | .norm => k .norm (clear (klOf F id).2.1 σ')
    | .out i => match Nat.beq i id with
      | true => k .norm (clear (klOf F id).2.1 σ')
      | false => k (.out i) σ'
    | x => k x σ'
  | .loop b, σ, k => match lp cur b (clear (klOf F cur).1 σ) with
    | some (g, p, r, r') => br g (br p (kLoop r k) (kLoop r' k)) none
    | none => none
  | .exit id, σ, k => k (.out id) σ
  | .ret, σ, k => k .ret σ
  | .region id ops draw, σ, k => match draw with
    | false => match look F.dt id with
      | none => goOps E cl H F false ops ops.toList 0 σ (k .norm)
      | some n => goDeep E cl H F ops n ops.toList 0 σ (k .norm)
    | true => match isIn F.tb id with
      | false => match okD H F ops with
        | true => goOps E cl H F true ops ops.toList 0 σ (k .norm)
        | false => match look F.od id with
          | some l => match okO H F ops l with
            | true => goO E cl H F ops l σ (k .norm)
            | false => none
          | none => none
      | true => match lp (id + 100000) (.region id ops true) (clear (klOf F (id + 100000)).1 σ) with
        | some (g, p, r, _) => br g (br p (kReg r k) none) none
        | none => none
  | _, _, _ => none
end
section
variable (E : Env) (F : Fi) (σ : List AV)
def resA : ResultVar → Option AV
  | .tmp t => some (evalO F.nv σ (.tmp t))
  | .cell a t => match cellAt (evalO F.nv σ (.tmp a)) with
    | some b => match isIn E.one t, look E.gr t with
      | true, _ => match σ.getD b .u with
        | .own _ _ => some (.p (.al b))
        | .mv => none
        | x => some x
      | false, some _ => match σ.getD b .u with
        | .own _ _ => some (.p (.go b))
        | .p (.sl L) => some (.p (.gr L))
        | _ => none
      | _, _ => none
    | none => none
def resAs : List ResultVar → Option (List AV)
  | [] => some []
  | x :: r => match resA E F σ x, resAs r with
    | some y, some ys => some (y :: ys)
    | _, _ => none
def goOut : List Nat → List Nat → List Nat
  | [], d => d
  | s :: r, d => match Nat.blt s F.m || isIn d s with
    | true => goOut r d
    | false => match σ.getD s .u with
      | .own _ _ => goOut r (d ++ [s])
      | _ => goOut r d
end
def noFr : AV → Bool
  | .fr _ _ => false
  | _ => true
def ownFr (m : Nat) : List AV → Option (AV × List AV)
  | [] => none
  | .fr e L :: r => match !isN e && r.all fun v => !softA v with
    | true => some (.own e L, .p (.al m) :: r)
    | false => none
  | v :: r => match softA v with
    | true => none
    | false => (ownFr m r).map fun x => (x.1, v :: x.2)
def hasPt : AV → Bool
  | .p (.pt _ _) => true
  | .fn _ _ => true
  | .tu _ => true
  | _ => false
def renO (m : Nat) (ρ : Nat → Option Nat) (v : AV) : AV := match hasPt v with
  | true => renA (fun s => match Nat.blt s m with
    | true => some s
    | false => none) v
  | false => renA ρ v
def outOf (F : Fi) (fresh : Bool) (σ : List AV) (rs : List AV) : List AV × List AV :=
  let Mv := goOut F σ (rs.flatMap refsA) []
  let ρ := fun s => match Nat.blt s F.m with
    | true => some s
    | false => idxOf Mv F.m s
  let inh := (σ.take F.m).map (renO F.m ρ)
  let rs' := rs.map (renO F.m ρ)
  let ex := Mv.map fun s => σ.getD s .u
  match fresh && (inh.all (fun v => !softA v) && ex.all fun v => !softA v) with
  | true => match ownFr (F.m + ex.length) rs' with
    | some (v, rs'') => (rs'', inh ++ ex ++ [v])
    | none => (rs', inh ++ ex)
  | false => (rs', inh ++ ex)
def start (F : Fi) (n : Nat) (args inh : List AV) : List AV := inh ++ List.replicate (F.nv - F.m) .u ++ args ++ List.replicate (n - args.length) .und
def take1 (F : Fi) (σ : List AV) (t : Nat) : List AV := match σ.getD (F.nv + t) .u with
  | .p (.al s) => match ownOf σ s with
    | some (e, L) => match Nat.beq s (F.nv + t), Nat.blt (F.nv + t) σ.length with
      | false, true => setA (moveOwn σ s (F.nv + t) e L) s .u
      | _, _ => σ
    | none => σ
  | _ => σ
def softR : AV → AV
  | .fr e L => .p (slv e L)
  | x => x
def resAll (E : Env) (F : Fi) (σ : List AV) (l : List ResultVar) : Option (List AV × List AV) := match F.so with
  | false => (resAs E F σ l).map fun rs => (σ, rs)
  | true => match resAs E F σ l with
    | some rs => (resAs E F ((rs.flatMap refsA).foldl shareIf σ) l).map fun rs' => ((rs.flatMap refsA).foldl shareIf σ, rs'.map softR)
    | none => none
def newRes (F : Fi) (σ inh : List AV) : List ResultVar → Option (List AV × List AV)
  | [.tmp t] => match evalO F.nv σ (.tmp t), inh with
    | .p (.pt k n), [] => match ((List.range' k n).map fun s => σ.getD s .u).all okNew with
      | true => some ([.p (.pt 0 n)], (List.range' k n).map fun s => σ.getD s .u)
      | false => none
    | _, _ => none
  | _ => none
def runFn (E : Env) (cl : Calling) (H : Hints) (F : Fi) (lp : Looping) (fn : Func) (args inh : List AV) : Option (List AV × List AV) :=
  match fn.body with
  | none => none
  | some c => match args.all canArg && (Nat.beq inh.length F.m && ((Nat.ble F.m F.nc && Nat.ble F.nc F.nv) && (Nat.ble args.length fn.ntmps && Nat.ble fn.results.toList.length 4))) with
    | false => none
    | true => EC E cl H F lp 0 c (F.tk.foldl (take1 F) (start F fn.ntmps args inh)) fun x σ => match x with
      | .out _ => none
      | .rest => none
      | _ => match newRes F σ inh fn.results.toList with
        | some x => some x
        | none => match resAll E F σ fn.results.toList with
          | some (σ, rs) => match rs.all canArg with
            | true => some (outOf F (args.all noFr && inh.all noFr) σ rs)
            | false => none
          | none => none
def w64 (x : Int) : Int := IntKind.i64.wrap x
def shl64 (a b : Int) : Int := w64 (a * 2 ^ (min b.toNat IntKind.i64.bits))
def shr64 (a b : Int) : Int := a.fdiv (2 ^ (min b.toNat IntKind.i64.bits))
def and64 (a b : Int) : Int := bits .and .i64 a b
def or64 (a b : Int) : Int := bits .or .i64 a b
def xor64 (a b : Int) : Int := bits .xor .i64 a b
def okAt (L : List Sc) (i : Int) : Bool := inRange i L.length && sameKind (.n .i64 0) (L.getD i.toNat (.n .i64 0))
def atI (L : List Sc) (i : Int) : Int := numOf (L.getD i.toNat (.n .i64 0))
def ints (L : List Int) : List Sc := L.map (Sc.n .i64)
def nums (L : List Sc) : List Int := L.map numOf
def allI (L : List Sc) : Bool := L.all (sameKind (.n .i64 0))
end Go.Proofs.YtlnhommmmajllaaGreat.Ev
