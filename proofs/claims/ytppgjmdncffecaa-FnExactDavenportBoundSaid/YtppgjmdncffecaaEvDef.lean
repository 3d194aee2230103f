/-
  EvDef: an evaluator of the IR's code on plain data (integers, booleans, strings, slices and groups by value). Definitions alone.
-/
import Derived.Below
import Derived.WalkKit
import Derived.StillTail
namespace Go.Proofs.Ytppgjmdncffecaa.Ev
open Go

inductive Sc where
  | b (x : Bool)
  | n (k : IntKind) (x : Int)
  | s (x : ByteArray)

def Sc.val : Sc → Value
  | .b x => .bool x
  | .n k x => .int k x
  | .s x => .string x

/-- What is known of a slot. 'fr': a slice in a new row that nobody writes. 'own': the slot's slice lies in a row that nobody else looks at. 'al', 'ep': the same slice, a cell of it, as slot 's' owns it. -/
inductive AV where
  | u
  | und
  | sc (x : Sc)
  | sl (L : List Sc)
  | gr (L : List Sc)
  | bp (L : List Sc)
  | ev (x : Sc)
  | fr (e : TypeId) (L : List Sc)
  | own (e : TypeId) (L : List Sc)
  | al (s : Nat)
  | ep (s i : Nat)
  | t2 (a b : AV)
  | t3 (a b c : AV)
  | t4 (a b c d : AV)

/-- The types that occur: slices with their element's type and zero; structs of one slice; types of one cell; booleans; integers; strings. -/
structure Env where
  sl : List (TypeId × TypeId × Sc)
  gr : List (TypeId × TypeId)
  sc : List TypeId
  bl : List TypeId
  ik : List (TypeId × IntKind)
  st : List TypeId

def look {α : Type} : List (TypeId × α) → TypeId → Option α
  | [], _ => none
  | (t, x) :: r, u => match Nat.beq t u with
    | true => some x
    | false => look r u
def isIn : List TypeId → TypeId → Bool
  | [], _ => false
  | t :: r, u => match Nat.beq t u with
    | true => true
    | false => isIn r u

inductive X where
  | norm
  | ret
  | out (id : Nat)

def br {α : Type} (t : Bool) (x y : α) : α := match t with
  | true => x
  | false => y

/-- No length beyond this is looked at. -/
def lim : Nat := 1099511627776

def dflt : Sc := .b false

def numOf : Sc → Int
  | .n _ x => x
  | _ => 0
def booOf : Sc → Bool
  | .b x => x
  | _ => false
def strOf : Sc → ByteArray
  | .s x => x
  | _ => ByteArray.empty
/-- Is y of the kind that z is of? -/
def sameKind (z y : Sc) : Bool := match z, y with
  | .n k _, .n k' _ => decide (k = k')
  | .b _, .b _ => true
  | .s _, .s _ => true
  | _, _ => false
def castSc (z y : Sc) : Sc := match z with
  | .n k _ => .n k (numOf y)
  | .b _ => .b (booOf y)
  | .s _ => .s (strOf y)
theorem castSc_eq {z y : Sc} (h : sameKind z y = true) : castSc z y = y := by
  cases z <;> cases y <;> simp_all [sameKind, castSc, numOf, booOf, strOf]

def constAV : Value → AV
  | .int k x => .sc (.n k x)
  | .bool x => .sc (.b x)
  | .string x => .sc (.s x)
  | .slice none 0 0 => .sl []
  | _ => .u

def evalO (σ : List AV) : Operand → AV
  | .tmp t => match σ.getD t .u with
    | .own _ _ => .al t
    | x => x
  | .const v => constAV v
  | _ => .u

def ownOf (σ : List AV) (s : Nat) : Option (TypeId × List Sc) := match σ.getD s .u with
  | .own e L => some (e, L)
  | _ => none

def listOf (σ : List AV) : AV → Option (List Sc)
  | .sl L => some L
  | .fr _ L => some L
  | .al s => (ownOf σ s).map (·.2)
  | _ => none

def drop1 (d : Nat) : AV → AV
  | .al s => match Nat.beq s d with
    | true => .u
    | false => .al s
  | .ep s i => match Nat.beq s d with
    | true => .u
    | false => .ep s i
  | x => x
def kill (d : Nat) (σ : List AV) : List AV := match σ.getD d .u with
  | .own _ _ => σ.map (drop1 d)
  | _ => σ
def setA (σ : List AV) (d : Nat) (v : AV) : List AV := (kill d σ).set d (drop1 d v)
def put (σ : List AV) (d : Option Tmp) (v : AV) : List AV := match d with
  | none => σ
  | some d => setA σ d v

def redir1 (s d : Nat) : AV → AV
  | .al t => match Nat.beq t s with
    | true => .al d
    | false => .al t
  | .ep t i => match Nat.beq t s with
    | true => .ep d i
    | false => .ep t i
  | x => x
/-- The row of slot s goes over to slot d; s looks at it from there. -/
def moveOwn (σ : List AV) (s d : Nat) (e : TypeId) (L : List Sc) : List AV :=
  ((((kill d σ).map (redir1 s d)).set s (.al d)).set d (.own e L))
def share1 (s : Nat) (e : TypeId) (L : List Sc) : AV → AV
  | .al t => match Nat.beq t s with
    | true => .fr e L
    | false => .al t
  | .ep t i => match Nat.beq t s with
    | true => .ev (L.getD i dflt)
    | false => .ep t i
  | x => x
/-- The row of slot s is from now on only read. -/
def share (σ : List AV) (s : Nat) (e : TypeId) (L : List Sc) : List AV := (σ.map (share1 s e L)).set s (.fr e L)

def scBin (op : BinOp) (x y : Sc) {R : Type} (k : Sc → Option R) : Option R :=
  match x, y with
  | .n kx a, .n ky b =>
    match op with
    | .shl => br (decide (b < 0)) none (k (.n kx (kx.wrap (a * 2 ^ (min b.toNat kx.bits)))))
    | .shr => br (decide (b < 0)) none (k (.n kx (a.fdiv (2 ^ (min b.toNat kx.bits)))))
    | _ => if kx = ky then
      match op with
      | .add => k (.n kx (kx.wrap (a + b)))
      | .sub => k (.n kx (kx.wrap (a - b)))
      | .mul => k (.n kx (kx.wrap (a * b)))
      | .quo => br (b == 0) none (k (.n kx (kx.wrap (a.tdiv b))))
      | .rem => br (b == 0) none (k (.n kx (a.tmod b)))
      | .and => k (.n kx (bits .and kx a b))
      | .or => k (.n kx (bits .or kx a b))
      | .xor => k (.n kx (bits .xor kx a b))
      | .andNot => k (.n kx (bits .andNot kx a b))
      | .eql => k (.b (a == b))
      | .neq => k (.b (a != b))
      | .lss => k (.b (decide (a < b)))
      | .leq => k (.b (decide (a ≤ b)))
      | .gtr => k (.b (decide (a > b)))
      | .geq => k (.b (decide (a ≥ b)))
      | _ => none
      else none
  | .s a, .s b =>
    match op with
    | .add => br (decide (a.size + b.size ≤ lim)) (k (.s (a ++ b))) none
    | .eql => k (.b (a.toList == b.toList))
    | .neq => k (.b (!(a.toList == b.toList)))
    | _ => none
  | .b a, .b b =>
    match op with
    | .eql => k (.b (a == b))
    | .neq => k (.b (!(a == b)))
    | _ => none
  | _, _ => none

/-- May the operation be asked at this type? (Only '==' and '!=' look at it.) -/
def binOk (E : Env) (op : BinOp) (t : TypeId) : Sc → Bool
  | .b _ => isIn E.bl t
  | _ => match op with
    | _ => true

def weak : AV → AV
  | .own e L => .fr e L
  | .bp L => .gr L
  | x => x
def resA : AV → AV
  | .bp L => .gr L
  | x => x
def argOf (σ : List AV) : AV → AV
  | .al s => match ownOf σ s with
    | some (_, L) => .sl L
    | none => .u
  | .fr _ L => .sl L
  | x => x
def packed : List AV → AV
  | [] => .u
  | [a] => resA a
  | [a, b] => .t2 (weak a) (weak b)
  | [a, b, c] => .t3 (weak a) (weak b) (weak c)
  | [a, b, c, d] => .t4 (weak a) (weak b) (weak c) (weak d)
  | _ => .u
def isArg : AV → Bool
  | .sc _ => true
  | .sl _ => true
  | .gr _ => true
  | _ => false

def extractA : AV → Nat → AV
  | .t2 a _, 0 => a
  | .t2 _ b, 1 => b
  | .t3 a _ _, 0 => a
  | .t3 _ b _, 1 => b
  | .t3 _ _ c, 2 => c
  | .t4 a _ _ _, 0 => a
  | .t4 _ b _ _, 1 => b
  | .t4 _ _ c _, 2 => c
  | .t4 _ _ _ d, 3 => d
  | _, _ => .u

def inRange (i : Int) (n : Nat) : Bool := decide (0 ≤ i) && decide (i < n)

/-- The zero of a type of one cell. -/
def zeroOf (E : Env) (t : TypeId) : Option Sc := match look E.ik t, isIn E.bl t, isIn E.st t with
  | some k, _, _ => some (.n k 0)
  | _, true, _ => some (.b false)
  | _, _, true => some (.s ByteArray.empty)
  | _, _, _ => none

/-- A result that may lie in memory of others ('bp': a struct so). -/
def soft : AV → Bool
  | .sl _ => true
  | .bp _ => true
  | _ => false
def shareA (σ : List AV) : AV → AV
  | .own e L => .fr e L
  | .al s => match ownOf σ s with
    | some (e, L) => .fr e L
    | none => .u
  | .ep s i => match ownOf σ s with
    | some (_, L) => .ev (L.getD i dflt)
    | none => .u
  | x => x
/-- All rows are from now on only read. -/
def shareAll (σ : List AV) : List AV := σ.map (shareA σ)

/-- What a call hands back, and whether that is to be relied on. -/
abbrev Calling := FuncId → List AV → Option (Bool × List AV)
/-- What a loop (its block's number, its body) comes to: may it be relied on; which of two ends. -/
abbrev Looping := Nat → Code → List AV → Option (Bool × Bool × (X × List AV) × (X × List AV))

/-- Operations that hand back a value and leave the slots alone. -/
def valOp (E : Env) (cl : Calling) (σ : List AV) (op : Op) {R : Type} (k : AV → Option R) : Option R :=
  match op with
  | .move x => k (evalO σ x)
  | .pick c a b => match evalO σ c with
    | .sc (.b t) => match evalO σ a, evalO σ b with
      | .sc x, .sc y => br t (k (.sc x)) (k (.sc y))
      | .sc x, _ => br t (k (.sc x)) none
      | _, .sc y => br t none (k (.sc y))
      | _, _ => none
    | _ => none
  | .box t x => match look E.gr t, evalO σ x with
    | some _, .gr L => k (.bp L)
    | _, _ => none
  | .fieldAddr t x f => match look E.gr t, evalO σ x, f with
    | some _, .bp L, 0 => k (.bp L)
    | _, _, _ => none
  | .field t x f => match look E.gr t, evalO σ x, f with
    | some _, .gr L, 0 => k (.sl L)
    | _, _, _ => none
  | .load t x => match evalO σ x with
    | .bp L => match look E.gr t, look E.sl t with
      | some _, _ => k (.gr L)
      | _, some _ => k (.sl L)
      | _, _ => none
    | .ev x => match isIn E.sc t with
      | true => k (.sc x)
      | false => none
    | .ep s i => match isIn E.sc t, zeroOf E t, ownOf σ s with
      | true, some z, some (_, L) => br (sameKind z (L.getD i z)) (k (.sc (castSc z (L.getD i z)))) none
      | _, _, _ => none
    | _ => none
  | .binOp op t x y _ => match evalO σ x, evalO σ y with
    | .sc x, .sc y => match binOk E op t x with
      | true => scBin op x y fun z => k (.sc z)
      | false => none
    | _, _ => none
  | .unOp op _ x => match op, evalO σ x with
    | .not, .sc (.b x) => k (.sc (.b (!x)))
    | .neg, .sc (.n kd x) => k (.sc (.n kd (kd.wrap (0 - x))))
    | _, _ => none
  | .convert s d x => match look E.ik s, look E.ik d, evalO σ x with
    | some _, some kd, .sc (.n _ x) => k (.sc (.n kd (kd.wrap x)))
    | _, _, _ => none
  | .indexAddr t x i => match look E.sl t, evalO σ x, evalO σ i with
    | some (_, z), .sl L, .sc (.n _ i) => br (inRange i L.length && sameKind z (L.getD i.toNat z)) (k (.ev (castSc z (L.getD i.toNat z)))) none
    | some (_, z), .fr _ L, .sc (.n _ i) => br (inRange i L.length && sameKind z (L.getD i.toNat z)) (k (.ev (castSc z (L.getD i.toNat z)))) none
    | some _, .al s, .sc (.n _ i) => match ownOf σ s with
      | some (_, L) => br (inRange i L.length) (k (.ep s i.toNat)) none
      | none => none
    | _, _, _ => none
  | .index t x i => match isIn E.st t, evalO σ x, evalO σ i with
    | true, .sc (.s x), .sc (.n _ i) => br (inRange i x.size) (k (.sc (.n .u8 (x.data.toList.getD i.toNat 0).toNat))) none
    | _, _, _ => none
  | .extract x i => match extractA (evalO σ x) i with
    | .u => none
    | v => k v
  | .call c => match c.callee with
    | .value (.func f) => match (c.args.toList.map fun x => argOf σ (evalO σ x)) with
      | vs => match vs.all isArg with
        | true => match cl f vs with
          | some (g, rs) => match rs.any soft with
            | true => none
            | false => br g (k (packed rs)) none
          | none => none
        | false => none
    | .builtin .len => match c.args.toList, c.argTypes.toList with
      | [x], [t] => match evalO σ x with
        | .sc (.s x) => match isIn E.st t with
          | true => k (.sc (.n .i64 x.size))
          | false => none
        | v => match look E.sl t, listOf σ v with
          | some _, some L => k (.sc (.n .i64 L.length))
          | _, _ => none
      | _, _ => none
    | .builtin .min => match c.args.toList.map (evalO σ) with
      | [.sc (.n kx x), .sc (.n _ y)] => k (.sc (.n kx (if y < x then y else x)))
      | _ => none
    | .builtin .max => match c.args.toList.map (evalO σ) with
      | [.sc (.n kx x), .sc (.n _ y)] => k (.sc (.n kx (if y > x then y else x)))
      | _ => none
    | _ => none
  | _ => none

/-- The parts of a literal slice, in order. -/
def partsOf (σ : List AV) : Nat → List (Nat × Operand) → Option (List Sc)
  | _, [] => some []
  | j, (i, x) :: r => match Nat.beq i j, evalO σ x with
    | true, .sc v => (partsOf σ (j + 1) r).map (v :: ·)
    | _, _ => none

def sliceA (L : List Sc) (lo hi : Int) : List Sc := (L.take hi.toNat).drop lo.toNat

def boundA (σ : List AV) (dfl : Int) : Option Operand → Option Int
  | none => some dfl
  | some x => match evalO σ x with
    | .sc (.n _ i) => some i
    | _ => none

/-- A call with a soft result. -/
def softCall (cl : Calling) (σ : List AV) (f : FuncId) (c : Call) : Option (Bool × List AV) := match (c.args.toList.map fun x => argOf σ (evalO σ x)) with
  | vs => match vs.all isArg with
    | true => match cl f vs with
      | some (g, rs) => match rs.any soft with
        | true => some (g, rs)
        | false => none
      | none => none
    | false => none

/-- One operation. -/
def stepOp (E : Env) (cl : Calling) (σ : List AV) (dst : Option Tmp) (op : Op) {R : Type} (k : List AV → Option R) : Option R :=
  match op with
  | .assign x => match x, dst with
    | .tmp t, some d => match σ.getD t .u with
      | .own e L => match Nat.beq t d, Nat.blt d σ.length with
        | false, true => k (moveOwn σ t d e L)
        | _, _ => none
      | .al s => match Nat.beq s d, Nat.blt d σ.length, ownOf σ s with
        | false, true, some (e, L) => k (moveOwn σ s d e L)
        | _, _, _ => none
      | v => k (setA σ d v)
    | x, d => k (put σ d (evalO σ x))
  | .store t a x => match isIn E.sc t, evalO σ a, evalO σ x with
    | true, .ep s i, .sc v => match ownOf σ s with
      | some (e, L) => k ((put (σ.set s (.own e (L.set i v))) dst .und))
      | none => none
    | _, _, _ => none
  | .buildSlice t n parts => match look E.sl t, Nat.beq parts.toList.length n && Nat.blt n 1000, partsOf σ 0 parts.toList with
    | some (e, _), true, some L => k (put σ dst (.own e L))
    | _, _, _ => none
  | .makeSlice t l c => match look E.sl t, evalO σ l, evalO σ c with
    | some (e, z), .sc (.n _ x), .sc (.n _ y) => br (decide (0 ≤ x) && (decide (x ≤ y) && decide (y ≤ lim))) (k (put σ dst (.own e (List.replicate x.toNat z)))) none
    | _, _, _ => none
  | .build t parts => match look E.gr t, parts.toList with
    | some _, [(0, x)] => match evalO σ x with
      | .sl L => k (put σ dst (.gr L))
      | .fr _ L => k (put σ dst (.gr L))
      | .al s => match ownOf σ s with
        | some (e, L) => k (put (share σ s e L) dst (.gr L))
        | none => none
      | _ => none
    | _, _ => none
  | .slice t x lo hi none => match look E.sl t, evalO σ x with
    | some _, .sl L => match boundA σ 0 lo, boundA σ L.length hi with
      | some l, some h => br (decide (0 ≤ l) && (decide (l ≤ h) && decide (h ≤ L.length))) (k (put σ dst (.sl (sliceA L l h)))) none
      | _, _ => none
    | some _, .fr _ L => match boundA σ 0 lo, boundA σ L.length hi with
      | some l, some h => br (decide (0 ≤ l) && (decide (l ≤ h) && decide (h ≤ L.length))) (k (put σ dst (.sl (sliceA L l h)))) none
      | _, _ => none
    | some _, .al s => match ownOf σ s with
      | some (e, L) => match boundA σ 0 lo, boundA σ L.length hi with
        | some l, some h => br (decide (0 ≤ l) && (decide (l ≤ h) && decide (h ≤ L.length))) (k (put (share σ s e L) dst (.sl (sliceA L l h)))) none
        | _, _ => none
      | none => none
    | none, .sc (.s x) => match isIn E.st t, boundA σ 0 lo, boundA σ x.size hi with
      | true, some l, some h => br (decide (0 ≤ l) && (decide (l ≤ h) && decide (h ≤ x.size))) (k (put σ dst (.sc (.s (x.extract l.toNat h.toNat))))) none
      | _, _, _ => none
    | _, _ => none
  | .call c => match c.callee with
    | .builtin .append => match c.args.toList, c.argTypes.toList, dst with
      | [x, y], [t, t'], some d => match look E.sl t, Nat.beq t t', evalO σ x with
        | some (e0, _), true, .al s => match ownOf σ s, listOf σ (evalO σ y) with
          | some (e, L), some M => match Nat.beq e e0 with
            | true => br (decide (L.length + M.length ≤ lim)) (k (setA (setA σ s .u) d (.own e (L ++ M)))) none
            | false => none
          | _, _ => none
        | _, _, _ => none
      | _, _, _ => none
    | .value (.func f) => match softCall cl σ f c with
      | some (g, rs) => br g (k (put (shareAll σ) dst (packed rs))) none
      | none => valOp E cl σ (.call c) fun v => k (put σ dst v)
    | _ => valOp E cl σ (.call c) fun v => k (put σ dst v)
  | op => valOp E cl σ op fun v => k (put σ dst v)

/-- Is it known to be a plain value that no row hangs on? -/
def plainA : AV → Bool
  | .own _ _ => false
  | _ => true

/-- A new row that is only read. -/
def mild : AV → AV
  | .own e L => .fr e L
  | x => x
/-- The value of an operation of a region whose order is open. -/
def valD (E : Env) (cl : Calling) (σ : List AV) (op : Op) {R : Type} (k : AV → Option R) : Option R :=
  match op with
  | .assign x => k (evalO σ x)
  | op => valOp E cl σ op fun v => k (mild v)

/-- A plain value is laid over a plain one. -/
def setD (σ : List AV) (dst : Option Tmp) (v : AV) {R : Type} (k : List AV → Option R) : Option R :=
  match dst with
  | none => none
  | some d => match plainA (σ.getD d .u) && plainA v with
    | false => none
    | true => k (σ.set d v)


section
variable (E : Env) (cl : Calling) (draw : Bool) (all : Array Oper) {R : Type}
def oneOp (σ : List AV) (o : Oper) (k : List AV → Option R) : Option R := match draw with
  | true => valD E cl σ o.op fun v => setD σ o.dst v k
  | false => stepOp E cl σ o.dst o.op k
def skipOp (σ : List AV) (o : Oper) (k : List AV → Option R) : Option R := match draw with
  | true => setD σ o.dst .und k
  | false => k (put σ o.dst .und)
def goOps : List Oper → List AV → (List AV → Option R) → Option R
  | [], σ, k => k σ
  | o :: r, σ, k => match o.guard with
    | none => oneOp E cl draw σ o fun σ' => goOps r σ' k
    | some (j, want) => match (all[j]?).bind (·.dst) with
      | some d => match σ.getD d .u with
        | .sc (.b x) => br (x == want) (oneOp E cl draw (σ.set d (.sc (.b want))) o fun σ' => goOps r σ' k)
            (skipOp draw (σ.set d (.sc (.b (!want)))) o fun σ' => goOps r σ' k)
        | .und => skipOp draw σ o fun σ' => goOps r σ' k
        | _ => none
      | none => none
end

def clear1 (σ : List AV) (s : Nat) : List AV := setA σ s .u
def clear (ks : List Nat) (σ : List AV) : List AV := ks.foldl clear1 σ

/-- The operations ahead of the first store. -/
def headLen : List Oper → Nat
  | [] => 0
  | o :: r => match o.op with
    | .store _ _ _ => 0
    | _ => headLen r + 1
/-- Is the region's own order as good as any? (the slots that its operations name are ordered) -/
def drawOk (ops : Array Oper) : Bool := Region.lexB .any ops

/-- A region that ends with a new variable for a struct, laid at once. -/
def cellTail : List Oper → Option (List Oper × Oper × Oper)
  | [] => none
  | o :: r => match r with
    | [o2] => match o.op, o2.op with
      | .alloc _, .store _ _ _ => some ([], o, o2)
      | _, _ => none
    | r => (cellTail r).map fun (f, a, b) => (o :: f, a, b)
def notTmp (d : Nat) : Operand → Bool
  | .tmp t => !Nat.beq t d
  | _ => true
def isTmp (d : Nat) : Operand → Bool
  | .tmp t => Nat.beq t d
  | _ => false
def cellOp (E : Env) (σ : List AV) (o1 o2 : Oper) {R : Type} (k : List AV → Option R) : Option R := match o1.op, o1.dst, o2.op with
  | .alloc t, some d, .store t' p x => match look E.gr t, evalO σ x, Nat.beq t t' && (isTmp d p && (notTmp d x && (Nat.blt d σ.length && (o1.guard.isNone && o2.guard.isNone)))) with
    | some _, .gr L, true => k (put (setA σ d (.bp L)) o2.dst .und)
    | _, _, _ => none
  | _, _, _ => none

section
variable (E : Env) (cl : Calling) (lp : Looping) (kl : Nat → List Nat × List Nat × List Nat) {R : Type}
def EC (cur : Nat) : Code → List AV → (X → List AV → Option R) → Option R
  | .skip, σ, k => k .norm σ
  | .seq a b, σ, k => EC cur a σ fun x σ' => match x with
    | .norm => EC cur b σ' k
    | x => k x σ'
  | .cond c a b, σ, k => match evalO σ c with
    | .sc (.b t) => br t (EC cur a σ k) (EC cur b σ k)
    | _ => none
  | .block id b, σ, k => EC id b σ fun x σ' => match x with
    | .norm => k .norm (clear (kl id).2.1 σ')
    | .out i => match Nat.beq i id with
      | true => k .norm (clear (kl id).2.1 σ')
      | false => k (.out i) σ'
    | x => k x σ'
  | .loop b, σ, k => match lp cur b (clear (kl cur).1 σ) with
    | some (g, p, r, r') => br g (br p (k r.1 r.2) (k r'.1 r'.2)) none
    | none => none
  | .exit id, σ, k => k (.out id) σ
  | .ret, σ, k => k .ret σ
  | .region _ ops draw, σ, k => match draw with
    | false => match cellTail ops.toList with
      | some (f, o1, o2) => goOps E cl false ops f σ fun σ' => cellOp E σ' o1 o2 (k .norm)
      | none => goOps E cl false ops ops.toList σ (k .norm)
    | true => match drawOk ops with
      | true => match Nat.beq (headLen ops.toList) ops.size with
        | true => goOps E cl true ops ops.toList σ (k .norm)
        | false => match Region.lexTailB .any ops (headLen ops.toList) with
          | true => goOps E cl true ops (ops.toList.take (headLen ops.toList)) σ fun σ' => goOps E cl false ops (ops.toList.drop (headLen ops.toList)) σ' (k .norm)
          | false => none
      | false => match Region.lexTailB .any ops (headLen ops.toList) with
        | true => goOps E cl true ops (ops.toList.take (headLen ops.toList)) σ fun σ' => goOps E cl false ops (ops.toList.drop (headLen ops.toList)) σ' (k .norm)
        | false => none
  | _, _, _ => none
end

/-- What a function hands back. -/
def retA (σ : List AV) (t : Nat) : Option (Nat × AV) := match σ.getD t .u with
  | .own e L => some (t, .own e L)
  | .al s => (ownOf σ s).map fun (e, L) => (s, .own e L)
  | .fr e L => some (1000000, .own e L)
  | .sc x => some (t, .sc x)
  | .sl L => some (t, .sl L)
  | .gr L => some (t, .bp L)
  | _ => none
def rets (σ : List AV) : List ResultVar → Option (List (Nat × AV))
  | [] => some []
  | .tmp t :: r => match retA σ t, rets σ r with
    | some x, some xs => match xs.any fun y => Nat.beq x.1 y.1 with
      | true => none
      | false => some (x :: xs)
    | _, _ => none
  | _ :: _ => none

def start (n : Nat) (args : List AV) : List AV := args ++ List.replicate (n - args.length) .und

def runFn (E : Env) (cl : Calling) (lp : Looping) (kl : Nat → List Nat × List Nat × List Nat) (fn : Func) (args : List AV) : Option (List AV) :=
  match fn.body with
  | none => none
  | some c => match args.all isArg && (Nat.ble args.length fn.ntmps && Nat.ble fn.results.toList.length 4) with
    | false => none
    | true => EC E cl lp kl 0 c (start fn.ntmps args) fun x σ => match x with
      | .out _ => none
      | _ => (rets σ fn.results.toList).map (·.map (·.2))

/-- What the evaluator is told of a program. -/
structure Setup where
  P : Program
  E : Env
  kl : FuncId → Nat → List Nat × List Nat × List Nat
  ext : Calling

/-! ### Shorter words for what comes up at int. -/
def w64 (x : Int) : Int := IntKind.i64.wrap x
def shl64 (a b : Int) : Int := w64 (a * 2 ^ (min b.toNat IntKind.i64.bits))
def shr64 (a b : Int) : Int := a.fdiv (2 ^ (min b.toNat IntKind.i64.bits))
def and64 (a b : Int) : Int := bits .and .i64 a b
def or64 (a b : Int) : Int := bits .or .i64 a b
def xor64 (a b : Int) : Int := bits .xor .i64 a b
def andNot64 (a b : Int) : Int := bits .andNot .i64 a b
def okAt (L : List Sc) (i : Int) : Bool := inRange i L.length && sameKind (.n .i64 0) (L.getD i.toNat (.n .i64 0))
def atI (L : List Sc) (i : Int) : Int := numOf (L.getD i.toNat (.n .i64 0))
def ints (L : List Int) : List Sc := L.map (Sc.n .i64)
def nums (L : List Sc) : List Int := L.map numOf
def allI (L : List Sc) : Bool := L.all (sameKind (.n .i64 0))

/-- A call that can be relied on. -/
def sure {α : Type} (x : α) : Bool × α := (true, x)
def sureL (x : X) (σ : List AV) : Bool × Bool × (X × List AV) × (X × List AV) := (true, true, (x, σ), (x, σ))

/-- Fuel n: calls, and the loops of each function. -/
def run (S : Setup) : Nat → Calling × (FuncId → Looping)
  | 0 => (S.ext, fun _ _ _ _ => none)
  | n + 1 =>
    (fun f args => match S.ext f args with
      | some r => some r
      | none => match S.P.funcs[f]? with
        | none => none
        | some fn => (runFn S.E (run S n).1 ((run S n).2 f) (S.kl f) fn args).map sure,
     fun f id b σ => EC S.E (run S n).1 ((run S n).2 f) (S.kl f) id b σ fun x σ' => match x with
      | .norm => (run S n).2 f id b (clear (S.kl f id).1 σ')
      | .out i => some (sureL (.out i) (clear (S.kl f id).2.1 σ'))
      | .ret => some (sureL .ret (clear (S.kl f id).2.2 σ')))
end Go.Proofs.Ytppgjmdncffecaa.Ev
