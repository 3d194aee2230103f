/-
  VSortF: the library's sort of a row of slices of integers by length, then lexicographically, as a call in plain data.
-/
import Derived.Test.YtlnhommmmajllaaGreatVGen
import Derived.Sort.OwnSortedInts
import Derived.Shelf.SlSortCmp.Kit1
set_option linter.unusedVariables false
namespace Go.Proofs.YtlnhommmmajllaaGreat.Ev
open Go Go.RowKit Go.Sort
def cmpLex : List Int → List Int → Int
  | [], [] => 0
  | [], _ :: _ => -1
  | _ :: _, [] => 1
  | x :: a, y :: b => if Lib.compareInt x y = 0 then cmpLex a b else Lib.compareInt x y
def cmpZ (a b : List Int) : Int := if a.length = b.length then cmpLex a b else (a.length : Int) - b.length
theorem cmpI_neg (x y : Int) : Lib.compareInt y x = - Lib.compareInt x y := by
  unfold Lib.compareInt
  by_cases h1 : x < y
  · have h2 : ¬ y < x := by omega
    simp [h1, h2]
  · by_cases h2 : y < x
    · simp [h1, h2]
    · simp [h1, h2]
theorem cmpI_zero {x y : Int} (h : Lib.compareInt x y = 0) : x = y := by
  unfold Lib.compareInt at h
  by_cases h1 : x < y
  · simp [h1] at h
  · by_cases h2 : y < x
    · simp [h1, h2] at h
    · omega
theorem cmpI_lt {x y : Int} : Lib.compareInt x y < 0 ↔ x < y := by
  unfold Lib.compareInt
  by_cases h1 : x < y
  · simp [h1]
  · by_cases h2 : y < x
    · simp [h1, h2]
    · simp [h1, h2]
theorem cmpLex_neg : ∀ a b : List Int, cmpLex b a = - cmpLex a b
  | [], [] => rfl
  | [], _ :: _ => rfl
  | _ :: _, [] => rfl
  | x :: a, y :: b => by
    simp only [cmpLex]
    rw [cmpI_neg x y]
    by_cases h : Lib.compareInt x y = 0
    · rw [if_pos h, if_pos (by omega), cmpLex_neg a b]
    · rw [if_neg h, if_neg (by omega)]
theorem cmpLex_zero : ∀ {a b : List Int}, cmpLex a b = 0 → a = b
  | [], [], _ => rfl
  | [], _ :: _, h => by simp [cmpLex] at h
  | _ :: _, [], h => by simp [cmpLex] at h
  | x :: a, y :: b, h => by
    simp only [cmpLex] at h
    by_cases h1 : Lib.compareInt x y = 0
    · rw [if_pos h1] at h
      rw [cmpI_zero h1, cmpLex_zero h]
    · rw [if_neg h1] at h; exact absurd h h1
theorem cmpLex_trans : ∀ {a b c : List Int}, cmpLex a b < 0 → cmpLex b c < 0 → cmpLex a c < 0
  | [], [], _, h, _ => by simp [cmpLex] at h
  | [], _ :: _, [], _, h => by simp [cmpLex] at h
  | [], _ :: _, _ :: _, _, _ => by simp [cmpLex]
  | _ :: _, [], _, h, _ => by simp [cmpLex] at h
  | x :: a, y :: b, [], _, h => by simp [cmpLex] at h
  | x :: a, y :: b, z :: c, h1, h2 => by
    simp only [cmpLex] at h1 h2 ⊢
    by_cases e1 : Lib.compareInt x y = 0
    · have := cmpI_zero e1
      subst this
      rw [if_pos e1] at h1
      by_cases e2 : Lib.compareInt x z = 0
      · rw [if_pos e2] at h2 ⊢
        exact cmpLex_trans h1 h2
      · rw [if_neg e2] at h2 ⊢
        exact h2
    · rw [if_neg e1] at h1
      by_cases e2 : Lib.compareInt y z = 0
      · have := cmpI_zero e2
        subst this
        rw [if_neg e1]
        exact h1
      · rw [if_neg e2] at h2
        have h3 := cmpI_lt.1 h1
        have h4 := cmpI_lt.1 h2
        have h5 : Lib.compareInt x z < 0 := cmpI_lt.2 (by omega)
        rw [if_neg (by omega)]
        exact h5
theorem cmpLex_self : ∀ a : List Int, cmpLex a a = 0
  | [] => rfl
  | x :: a => by
    have : Lib.compareInt x x = 0 := by simp [Lib.compareInt]
    simp only [cmpLex, if_pos this, cmpLex_self a]
theorem cmpZ_neg (a b : List Int) : cmpZ b a = - cmpZ a b := by
  unfold cmpZ
  by_cases h : a.length = b.length
  · rw [if_pos h, if_pos h.symm, cmpLex_neg]
  · rw [if_neg h, if_neg (Ne.symm h)]; omega
theorem cmpZ_zero {a b : List Int} (h : cmpZ a b = 0) : a = b := by
  unfold cmpZ at h
  by_cases h1 : a.length = b.length
  · rw [if_pos h1] at h; exact cmpLex_zero h
  · rw [if_neg h1] at h; omega
theorem cmpZ_self (a : List Int) : cmpZ a a = 0 := by unfold cmpZ; rw [if_pos rfl, cmpLex_self]
theorem cmpZ_trans {a b c : List Int} (h1 : cmpZ a b < 0) (h2 : cmpZ b c < 0) : cmpZ a c < 0 := by
  unfold cmpZ at *
  by_cases e1 : a.length = b.length
  · rw [if_pos e1] at h1
    by_cases e2 : b.length = c.length
    · rw [if_pos e2] at h2
      rw [if_pos (e1.trans e2)]
      exact cmpLex_trans h1 h2
    · rw [if_neg e2] at h2
      rw [if_neg (by omega)]
      omega
  · rw [if_neg e1] at h1
    by_cases e2 : b.length = c.length
    · rw [if_neg (by omega)]
      omega
    · rw [if_neg e2] at h2
      rw [if_neg (by omega)]
      omega
theorem ltZ {a b : List Int} : ltOf cmpZ a b = decide (cmpZ a b < 0) := rfl
theorem swoZ : SWO (ltOf cmpZ) where
  irrefl x := by rw [ltZ, cmpZ_self]; rfl
  trans x y z h1 h2 := by rw [ltZ, decide_eq_true_eq] at *; exact cmpZ_trans h1 h2
  ntrans x y z h1 h2 := by
    rw [ltZ, decide_eq_false_iff_not] at *
    have n1 := cmpZ_neg x y
    have n2 := cmpZ_neg y z
    have n3 := cmpZ_neg x z
    intro h3
    by_cases e1 : cmpZ x y = 0
    · rw [cmpZ_zero e1] at h3; exact h2 h3
    · have h4 : cmpZ y x < 0 := by omega
      by_cases e2 : cmpZ y z = 0
      · rw [← cmpZ_zero e2] at h3; omega
      · have h5 : cmpZ z y < 0 := by omega
        have := cmpZ_trans h5 h4
        omega
theorem totZ (x y : List Int) (h1 : ltOf cmpZ x y = false) (h2 : ltOf cmpZ y x = false) : x = y := by
  rw [ltZ, decide_eq_false_iff_not] at *
  have := cmpZ_neg x y
  exact cmpZ_zero (by omega)
def catL (y : Sc) : List Int := nums (lstOf y)
def okC : Sc → Bool
  | .l M => allI M && decide (M.length ≤ lim)
  | _ => false
def sortZs (Z : List (List Int)) : List (List Int) := Z.mergeSort fun x y => !ltOf cmpZ y x
def insK (x : List Int) : List (List Int) → List (List Int)
  | [] => [x]
  | y :: r => match ltOf cmpZ y x with
    | true => y :: insK x r
    | false => x :: y :: r
def sortK (Z : List (List Int)) : List (List Int) := Z.foldr insK []
theorem insK_perm (x : List Int) : ∀ l, (insK x l).Perm (x :: l)
  | [] => List.Perm.refl _
  | y :: r => by
    unfold insK
    split
    · exact ((insK_perm x r).cons y).trans (List.Perm.swap x y r)
    · exact List.Perm.refl _
theorem insK_sorted (x : List Int) : ∀ l, l.Pairwise (fun a b => ltOf cmpZ b a = false) → (insK x l).Pairwise (fun a b => ltOf cmpZ b a = false)
  | [], _ => by simp [insK]
  | y :: r, h => by
    rw [List.pairwise_cons] at h
    unfold insK
    split
    · rename_i hlt
      refine List.pairwise_cons.2 ⟨fun z hz => ?_, insK_sorted x r h.2⟩
      rcases List.mem_cons.1 ((insK_perm x r).mem_iff.1 hz) with rfl | hz
      · cases hc : ltOf cmpZ z y with
        | false => rfl
        | true => have := swoZ.trans _ _ _ hlt hc; rw [swoZ.irrefl] at this; cases this
      · exact h.1 z hz
    · rename_i hlt
      refine List.pairwise_cons.2 ⟨fun z hz => ?_, List.pairwise_cons.2 h⟩
      rcases List.mem_cons.1 hz with rfl | hz
      · exact hlt
      · exact swoZ.ntrans _ _ _ (h.1 z hz) hlt
theorem sortK_perm : ∀ Z, (sortK Z).Perm Z
  | [] => List.Perm.refl _
  | x :: Z => (insK_perm x _).trans ((sortK_perm Z).cons x)
theorem sortK_sorted : ∀ Z, (sortK Z).Pairwise (fun a b => ltOf cmpZ b a = false)
  | [] => List.Pairwise.nil
  | x :: Z => insK_sorted x _ (sortK_sorted Z)
theorem sortZs_eq (Z : List (List Int)) : sortZs Z = sortK Z := by
  refine List.Perm.eq_of_pairwise (le := fun a b => ltOf cmpZ b a = false) (fun a b _ _ h1 h2 => (totZ a b h2 h1)) ?_ (sortK_sorted Z) ((List.mergeSort_perm Z _).trans (sortK_perm Z).symm)
  have := List.pairwise_mergeSort (le := fun x y : List Int => !ltOf cmpZ y x) (fun a b c h1 h2 => by
    simp only [Bool.not_eq_true'] at *
    exact swoZ.ntrans _ _ _ h2 h1) (fun a b => by
    cases hc : ltOf cmpZ b a with
    | false => simp
    | true =>
      cases hc2 : ltOf cmpZ a b with
      | false => simp
      | true => have := swoZ.trans _ _ _ hc hc2; rw [swoZ.irrefl] at this; cases this) Z
  exact this.imp fun h => by simpa using h
def lsts (Z : List (List Int)) : List Sc := Z.map fun a => .l (ints a)
def sortF (L : List Sc) : Option (List Sc) := br (L.all okC && decide (L.length ≤ lim)) (some (lsts (sortK (L.map catL)))) none
def RdI (w : World) (A : Option Addr) (a : List Int) : Prop := a = [] ∨ ∃ ad, A = some ad ∧ ∀ (j : Nat) x, a[j]? = some x → w.cell? (ad.add j) = some (.int .i64 x)
section
variable {α : Type} [Inhabited α] {enc : α → Value}
theorem grownBy_sorted {w : World} {g n : Nat} {os : Array Obj} (d : Array α) : w.grownBy (grow (putRow enc (Sort.ahead w n) g 0 d) os) (some g) := by
  refine ⟨rfl, rfl, rfl, by simp, fun k hk hne => ?_⟩
  rw [heap_grow_old _ _ (by simpa using hk)]
  have : g ≠ k := fun e => hne (by rw [e])
  simp [putRow, mapBlock, Sort.ahead, Array.getElem?_modify, this]
theorem heap_sorted {w : World} {g n : Nat} {os : Array Obj} {cur : Array Value} {e : TypeId} {fr : Nat × Nat} (d : Array α) (hb : w.heap[g]? = some (.cells cur e fr)) :
    (grow (putRow enc (Sort.ahead w n) g 0 d) os).heap[g]? = some (.cells (putCells enc 0 d cur) e fr) := by
  have hg : g < w.heap.size := (Array.getElem?_eq_some_iff.1 hb).1
  rw [heap_grow_old _ _ (by simpa using hg)]
  simp [putRow, mapBlock, Sort.ahead, Array.getElem?_modify, hb, onCells]
theorem take_putCells (cur : Array Value) (ts : List α) (h : ts.length ≤ cur.size) : (putCells enc 0 ts.toArray cur).toList.take ts.length = ts.map enc := by
  apply List.ext_getElem?
  intro j
  by_cases hj : j < ts.length
  · rw [List.getElem?_take_of_lt hj, Array.getElem?_toList]
    simp [putCells, hj, show j < cur.size by omega]
  · rw [List.getElem?_take_eq_none (by omega), List.getElem?_eq_none (by simp; omega)]
theorem ownsRow_sorted {w : World} {base g cap n m : Nat} {e : TypeId} {os : Array Obj} {cur : Array Value} {ts : List α} (hl : ts.length = m) (hbase : base ≤ g) (hb : w.heap[g]? = some (.cells cur e (0, 0)))
    (h1 : m ≤ cap) (h2 : cap ≤ maxLen) (h3 : cur.size = cap * 1) :
    (grow (putRow enc (Sort.ahead w n) g 0 ts.toArray) os).ownsRow base e 1 (.slice (some ⟨g, 0, none⟩) m cap) m (ts.map enc) :=
  ⟨by simp [hl], .inr ⟨g, cap, _, rfl, hbase, heap_sorted _ hb, h1, h2, by simp [putCells, h3], by rw [Nat.mul_one, ← hl]; exact take_putCells cur ts (by omega)⟩⟩
end
theorem permIn_map {α β : Type} [Inhabited α] [Inhabited β] (f : α → β) {d d' : Array α} (h : PermIn 0 d.size d d') : (d'.toList.map f).Perm (d.toList.map f) := by
  obtain ⟨hsz, _, hp⟩ := h
  have e1 : d'.extract 0 d.size = d' := by rw [← hsz]; exact Array.extract_size
  rw [e1, Array.extract_size] at hp
  exact hp.map f
theorem sorted_map (f : Nat → List Int) {d d' : Array Nat} (hp : PermIn 0 d.size d d') (hs : SortedIn (ltOf fun x y => cmpZ (f x) (f y)) 0 d.size d') : d'.toList.map f = sortZs (d.toList.map f) := by
  have hsz := hp.1
  have hP : PermIn 0 (d.map f).size (d.map f) (d'.map f) := by
    refine ⟨by simp [hsz], fun i hi => ?_, ?_⟩
    · rcases hi with hi | hi
      · omega
      · have h1 : (d.map f).size ≤ i := hi
        have h2 : (d'.map f).size ≤ i := by simpa [hsz] using hi
        rw [getElem!_neg _ _ (by omega), getElem!_neg _ _ (by omega)]
    · have e1 : (d'.map f).extract 0 (d.map f).size = d'.map f := by
        have : (d.map f).size = (d'.map f).size := by simp [hsz]
        rw [this]; exact Array.extract_size
      rw [e1, Array.extract_size, Array.toList_map, Array.toList_map]
      exact permIn_map f hp
  have hS : SortedIn (ltOf cmpZ) 0 (d.map f).size (d'.map f) := by
    intro i j h0 hij hj
    have hj' : j < d'.size := by rw [hsz]; simpa using hj
    have hi' : i < d'.size := by omega
    have := hs i j h0 hij (by rw [← hsz]; exact hj')
    rw [getElem!_pos (d'.map f) j (by simpa using hj'), getElem!_pos (d'.map f) i (by simpa using hi'), Array.getElem_map, Array.getElem_map]
    rw [getElem!_pos d' j hj', getElem!_pos d' i hi'] at this
    exact this
  have := sorted_unique_holds (lt := ltOf cmpZ) swoZ totZ (d.map f) (d'.map f) hP hS
  rw [Array.toList_map, Array.toList_map] at this
  exact this
theorem sortF_CS {P : Program} {f g : FuncId} {e : TypeId} (hf : ∃ fn, P.funcs[f]? = some fn ∧ fn.body.isSome = true)
    (hg : ∀ (a b : List Int) (A B : Option Addr) (ca cb : Nat) (w : World), a.length ≤ lim → b.length ≤ lim → RdI w A a → RdI w B b → Calls P g #[.slice A a.length ca, .slice B b.length cb] w fun e w' => e = .returned (.int .i64 (cmpZ a b)) ∧ ∃ q os, w' = grow (w.drewN q) os)
    (c1 : ∀ (enc : Nat → Value) (h1 : OneCell enc) (cf : Nat → Nat → Int) (hO : SWO (ltOf cf)) (blk off cap : Nat) (d : Array Nat) (w : World), CmpLays1 P g #[] enc cf blk off d.size w → Holds enc w blk off d → blk < w.heap.size → d.size < 4611686018427387904 →
      Calls P f #[.slice (some ⟨blk, off, none⟩) d.size cap, .func (.func g) #[] #[]] w fun e w' => e = .returned (.tuple #[]) ∧ ∃ d' n os, PermIn 0 d.size d d' ∧ SortedIn (ltOf cf) 0 d.size d' ∧ w' = sortWorld enc w blk off n d' os)
    (c0 : ∀ (p : Option Addr) (cap : Nat) (w : World), Calls P f #[.slice p 0 cap, .func (.func g) #[] #[]] w fun e w' => e = .returned (.tuple #[]) ∧ w' = w) {L r : List Sc} (h : sortF L = some r) (heN : dep e = 1 := by rfl) (hdp : dp e = false := by rfl) :
    CS P f [.p (.al 0), .fn g []] [.own e L] [] [.own e r] := by
  refine CS.of ⟨hf, ?_⟩
  intro w M vs pre
  unfold sortF at h
  cases hc : (L.all okC && decide (L.length ≤ lim)) with
  | false => rw [hc] at h; cases h
  | true =>
  rw [hc] at h
  have h : some (lsts (sortK (L.map catL))) = some r := h
  rw [← sortZs_eq] at h
  obtain rfl := Option.some.inj h
  rw [Bool.and_eq_true, decide_eq_true_eq, List.all_eq_true] at hc
  obtain ⟨hok, hlim⟩ := hc
  have hlen := pre.len
  obtain ⟨x, y, rfl⟩ : ∃ x y, vs = [x, y] := by
    match vs, hlen with
    | [x, y], _ => exact ⟨x, y, rfl⟩
  obtain ⟨_, hx⟩ : rf [AV.own e L] 0 = true ∧ x = M.tm 0 := (pre.arg 0 _ _ rfl rfl).1
  have hy : y = .func (.func g) #[] #[] := by
    obtain ⟨xs, h1, h2, _⟩ := (pre.arg 1 _ _ rfl rfl).1
    have : xs = [] := List.eq_nil_of_length_eq_zero h2
    subst this
    exact h1
  have hslot := pre.core.slot 0
  obtain ⟨⟨⟨us, hrow, hHL⟩, hwf⟩, hown⟩ : Row w M.fz 0 e (M.tm 0) L ∧ ∀ b, (M.tm 0).ownBlock = some b → M.ow b = some (.r 0 []) := (RowO.flat hdp).1 hslot
  have hul := hHL.1
  have hcat : ∀ i, i < L.length → L.getD i (.l []) = .l (ints (catL (L.getD i (.l [])))) ∧ (catL (L.getD i (.l []))).length ≤ lim := by
    intro i hi
    have hm : L.getD i (.l []) ∈ L := by simp [List.getD, hi]
    have := hok _ hm
    cases hq : L.getD i (.l []) with
    | l K =>
      rw [hq] at this
      simp only [okC, Bool.and_eq_true, decide_eq_true_eq] at this
      refine ⟨by simp only [catL, lstOf, ints_nums this.1], ?_⟩
      simp only [catL, lstOf, nums, List.length_map]
      exact this.2
    | _ => rw [hq] at this; cases this
  have hcatN : ∀ i, ¬ i < L.length → catL (L.getD i (.l [])) = [] := by
    intro i hi
    have : L.getD i (.l []) = .l [] := by simp [List.getD, hi]
    rw [this]; rfl
  generalize hF : (fun i => catL (L.getD i (.l []))) = F at hcat
  have hFi : ∀ i, catL (L.getD i (.l [])) = F i := fun i => by rw [← hF]
  have hmap : (List.range L.length).map F = L.map catL := by
    apply List.ext_getElem?
    intro j
    by_cases hj : j < L.length
    · rw [List.getElem?_map, List.getElem?_map, List.getElem?_range hj, List.getElem?_eq_getElem hj, Option.map_some, Option.map_some, ← hF]
      simp [List.getD, hj]
    · simp [hj]
  generalize hE : (fun i => us.getD i (.slice none 0 0)) = E
  have hEi : ∀ i, us.getD i (.slice none 0 0) = E i := fun i => by rw [← hE]
  have hval : ∀ i, ∃ A c, E i = .slice A (F i).length c ∧ (A = A) ∧ ∀ w', (∀ b, b < w.heap.size → M.fz b → w'.heap[b]? = w.heap[b]?) → RdI w' A (F i) ∧ HF w' (fun b => M.fz b ∧ b < w.heap.size) (.l (ints (F i))) (E i) := by
    intro i
    by_cases hi : i < L.length
    · have hiu : i < us.length := by omega
      have h1 := hHL.2 i _ us[i] (List.getElem?_eq_getElem hi) (List.getElem?_eq_getElem hiu)
      have e1 : L.getD i (.l []) = L[i] := by simp [List.getD, hi]
      have e2 : E i = us[i] := by rw [← hE]; simp [List.getD, hiu]
      have h2 := (hcat i hi).1
      rw [hFi, e1] at h2
      rw [h2] at h1
      have h1' := h1
      obtain ⟨A, c, g1, g2, g3⟩ := HF_l.1 h1
      rw [ints_length] at g1
      refine ⟨A, c, by rw [e2, g1], rfl, fun w' hw' => ⟨?_, ?_⟩⟩
      · rcases g3 with g3 | ⟨ad, g4, g5, g6⟩
        · left
          have := congrArg List.length g3
          rw [ints_length] at this
          exact List.eq_nil_of_length_eq_zero this
        · refine .inr ⟨ad, g4, fun j x hj => ?_⟩
          obtain ⟨v, q1, q2⟩ := g6 j (.n .i64 x) (by unfold ints; rw [List.getElem?_map, hj]; rfl)
          have q3 : v = .int .i64 x := (HF_sc rfl).1 q2
          subst q3
          refine cell_same q1 ?_
          have := cell_lt q1
          rw [block_of_add] at this ⊢
          exact hw' _ this g5
      · rw [e2]
        exact h1'.keep fun b hb hz => ⟨hw' b hb hz, hz, hb⟩
    · have e1 : E i = .slice none 0 0 := by
        have h0 : us.length ≤ i := by omega
        rw [← hE]
        simp [h0]
      have e2 : F i = [] := by rw [← hFi]; exact hcatN i hi
      rw [e2, e1]
      exact ⟨none, 0, rfl, rfl, fun w' _ => ⟨.inl rfl, HF_l.2 ⟨none, 0, rfl, Nat.le_refl _, .inl rfl⟩⟩⟩
  have hFl : ∀ i, (F i).length ≤ lim := by
    intro i
    by_cases hi : i < L.length
    · have := (hcat i hi).2; rw [hFi] at this; exact this
    · rw [← hFi, hcatN i hi]; exact Nat.zero_le _
  have h1c : OneCell E := fun i => by
    obtain ⟨A, c, h1, _⟩ := hval i
    rw [h1]; rfl
  have hvals : us = (List.range L.length).map E := by
    apply List.ext_getElem?
    intro j
    by_cases hj : j < L.length
    · rw [List.getElem?_map, List.getElem?_range hj, Option.map_some, ← hE]
      simp [List.getD, show j < us.length by omega]
    · rw [List.getElem?_eq_none (by omega), List.getElem?_eq_none (by simp; omega)]
  rw [hx, hy]
  rcases hrow.2 with ⟨h1, h2⟩ | ⟨gb, cap, cur, h1, hb, h3, h4, h5, h6, h7⟩
  · have hz : L = [] := List.eq_nil_of_length_eq_zero h2
    subst hz
    have e0 : lsts (sortZs (List.map catL [])) = [] := by simp [sortZs, lsts]
    rw [e0, h1]
    refine (c0 none 0 w).mono fun en w' ⟨he, hw⟩ => ?_
    subst hw
    exact ⟨[], M, he, pre.core, Kept.refl _ _, fun b q hb => .inl ⟨q, hb⟩, rfl, fun _ h => h, rfl, fun _ _ _ => rfl, fun _ _ _ => rfl, rfl, fun i v x hv => by simp at hv⟩
  · have hbl : gb < w.heap.size := (Array.getElem?_eq_some_iff.1 h3).1
    have hog : M.ow gb = some (.r 0 []) := hown gb (by rw [h1]; rfl)
    have hds : (List.range L.length).toArray.size = L.length := by simp
    have hH : Holds E w gb 0 (List.range L.length).toArray := by
      intro j hj
      have hj' : j < L.length := by simpa using hj
      refine ⟨?_, by simp [World.frozen?, h3]⟩
      rw [Nat.mul_one] at h7
      have h8 : (cur.toList.take L.length)[j]? = us[j]? := by rw [h7]
      rw [List.getElem?_take_of_lt hj', hvals, List.getElem?_map, List.getElem?_range hj', Option.map_some] at h8
      simp only [World.cell?, h3, Nat.zero_add, Option.isSome_none, Bool.false_eq_true, if_false]
      rw [← Array.getElem?_toList, h8]
      simp [hj']
    have hsz : (List.range L.length).toArray.size < 4611686018427387904 := by rw [hds]; exact Nat.lt_of_le_of_lt hlim (by decide)
    have hO : SWO (ltOf fun x y => cmpZ (F x) (F y)) := ⟨fun x => swoZ.irrefl (F x), fun x y z => swoZ.trans (F x) (F y) (F z), fun x y z => swoZ.ntrans (F x) (F y) (F z)⟩
    have hkeepS : ∀ (m : Nat) (os : Array Obj) (dk : Array Nat), ∀ b, b < w.heap.size → M.fz b → (sortWorld E w gb 0 m dk os).heap[b]? = w.heap[b]? := by
      intro m os dk b hb hz
      refine (grownBy_sorted (enc := E) (w := w) (g := gb) (n := m) (os := os) dk).block b hb fun e' => ?_
      have e' := Option.some.inj e'
      subst e'
      rw [hz.2] at hog
      cases hog
    have hcmp : CmpLays1 P g #[] E (fun x y => cmpZ (F x) (F y)) gb 0 (List.range L.length).toArray.size w := by
      intro m os dk hs x y
      obtain ⟨A, c, g1, _, g2⟩ := hval x
      obtain ⟨B, c', g3, _, g4⟩ := hval y
      rw [g1, g3]
      exact hg (F x) (F y) A B c c' _ (hFl x) (hFl y) (g2 _ (hkeepS m os dk)).1 (g4 _ (hkeepS m os dk)).1
    have := c1 E h1c (fun x y => cmpZ (F x) (F y)) hO gb 0 cap (List.range L.length).toArray w hcmp hH hbl hsz
    rw [hds] at this
    rw [h1]
    refine this.mono fun en w' ⟨he, d', n, os, hp, hs, hw⟩ => ?_
    have hgrow : w.grownBy w' (some gb) := by rw [hw]; exact grownBy_sorted _
    have hsr : d'.toList.map F = sortZs (L.map catL) := by
      have := sorted_map F (d := (List.range L.length).toArray) (by rw [hds]; exact hp) (by rw [hds]; exact hs)
      rw [this]
      congr 1
    have hd' : d'.toList.length = L.length := by
      have := hp.1
      rw [hds] at this
      rw [Array.length_toList]; exact this
    have hrl : (lsts (sortZs (L.map catL))).length = L.length := by rw [← hsr]; simp only [lsts, List.length_map, hd']
    have hkeep : ∀ b, b < w.heap.size → b ≠ gb → w'.heap[b]? = w.heap[b]? := fun b hb hn => hgrow.block b hb fun e => hn (Option.some.inj e)
    have hkz : ∀ b, b < w.heap.size → M.fz b → w'.heap[b]? = w.heap[b]? := fun b hb hz => hkeep b hb fun e' => by subst e'; rw [hz.2] at hog; cases hog
    refine ⟨[], M, he, ⟨fun t => ?_, fun k ad hl => ?_, fun b q hb => ⟨Nat.lt_of_lt_of_le (pre.core.low b q hb).1 hgrow.size, (pre.core.low b q hb).2⟩, pre.core.sub⟩, ?_, fun b q hb => .inl ⟨q, hb⟩, rfl, fun _ h => h, rfl, fun _ _ _ => rfl, fun _ _ _ => rfl, rfl, fun i v x hv => by simp at hv⟩
    · cases t with
      | zero =>
        refine (RowO.flat hdp).2 ⟨⟨⟨d'.toList.map E, ?_, ?_⟩, ?_⟩, hown⟩
        · rw [h1, hrl, hw]
          have := ownsRow_sorted (enc := E) (w := w) (n := n) (os := os) (ts := d'.toList) hd' (Nat.zero_le gb) h3 h4 h5 h6
          simpa [sortWorld] using this
        · refine ⟨by rw [hrl, List.length_map, hd'], fun j x v hj hv => ?_⟩
          rw [← hsr] at hj
          simp only [lsts, List.map_map, List.getElem?_map, Option.map_eq_some_iff, Function.comp] at hj hv
          obtain ⟨i, hi, rfl⟩ := hj
          obtain ⟨i', hi', rfl⟩ := hv
          rw [hi] at hi'
          injection hi' with hi'
          subst hi'
          obtain ⟨A, c, _, _, g2⟩ := hval i
          exact (g2 w' hkz).2.keep fun b _ hz => ⟨rfl, hz.1⟩
        · rw [heN]
          unfold wfL
          rw [List.all_eq_true]
          intro y hy
          simp only [lsts, List.mem_map] at hy
          obtain ⟨a, _, rfl⟩ := hy
          show (ints a).all (wfS 0) = true
          rw [List.all_eq_true]
          intro q hq
          unfold ints at hq
          obtain ⟨k, _, rfl⟩ := List.mem_map.1 hq
          rfl
      | succ t => exact trivial
    · obtain ⟨q1, q2, q3, k0, n0, q4, q5⟩ := pre.core.cell k ad hl
      have hne : ad.block ≠ gb := fun e => by
        rw [e, hog] at q4
        cases q4
      have hlt := cell_lt q1
      refine ⟨cell_same q1 (hkeep _ hlt hne), ?_, q3, k0, n0, q4, q5⟩
      rw [← q2]
      simp only [World.frozen?, hkeep _ hlt hne]
    · have hk := Kept.of_grown hgrow
      exact ⟨hk.os, hk.tape, hk.output, hk.size, fun b hb hn => hk.block b hb fun e => by
        have e := Option.some.inj e
        subst e
        exact hn ⟨_, hog⟩⟩
end Go.Proofs.YtlnhommmmajllaaGreat.Ev
