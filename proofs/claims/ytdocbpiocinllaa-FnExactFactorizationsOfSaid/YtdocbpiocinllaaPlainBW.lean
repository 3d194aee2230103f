/-
  PlainBW: marks of slices of slices; the law FnExactAtomsOf.
-/
import Derived.Test.YtdocbpiocinllaaPlainBO
import Derived.Test.YtdocbpiocinllaaPlainM
set_option linter.unusedVariables false
set_option linter.unusedSimpArgs false
namespace Go.Proofs.Ytdocbpiocinllaa
open Go Ev

theorem mark_big (L : List Int) (k : Nat) (hl : k + L.length < 9223372036854775807) : f_l_markIntS_io (k : Int) (ints L) = some (((k + L.length : Nat) : Int), ints (upK k L.length)) := by
  have key := loop_count (rd := f_l_markIntS_io_r0) (fun i => (ints (upK k i ++ L.drop i), ((k + i : Nat) : Int), (i : Int))) L.length (a := (ints (upK k L.length), ((k + L.length : Nat) : Int))) (fun i hi => by
      have hlen : (upK k i ++ L.drop i).length = L.length := by rw [List.length_append, upK_length, List.length_drop]; omega
      have e1 : inRange (i : Int) L.length = true := by rw [inRange_nat]; simpa using hi
      simp only [f_l_markIntS_io_r0, f_l_markIntS_io_k0, ints_length, hlen, lt_dec hi, e1, br_true, Int.toNat_natCast, ints_set, upK_succ k i L hi, w64_nat (show k + i < 9223372036854775807 by omega), w64_nat (show i < 9223372036854775807 by omega)]
      rfl) (by
      simp only [f_l_markIntS_io_r0, f_l_markIntS_io_k0, List.drop_length, List.append_nil, ints_length, upK_length, lt_dec_self, br_false]) 0 (Nat.zero_le _)
  have e0 : (ints (upK k 0 ++ L.drop 0), ((k + 0 : Nat) : Int), ((0 : Nat) : Int)) = (ints L, (k : Int), 0) := by simp [upK, natsI]
  rw [e0] at key
  simp only [f_l_markIntS_io, f_l_markIntS_io_k, key, bl1_one]
theorem held_big (k n : Nat) (hl : k + n < 9223372036854775807) : f_l_heldIntS (ints (upK k n)) (k : Int) = some ((k + n : Nat) : Int) := by
  have key := loop_count (rd := f_l_heldIntS_r0 (ints (upK k n))) (fun i => (((k + i : Nat) : Int), (i : Int))) n (a := ((k + n : Nat) : Int)) (fun i hi => by
      have hi' : i < (upK k n).length := by rw [upK_length]; exact hi
      simp only [f_l_heldIntS_r0, f_l_heldIntS_k0, ints_length, upK_length, lt_dec hi, br_true, ok_nat hi', at_nat, upK_getD hi, bne_self_eq_false, br_false, w64_nat (show k + i < 9223372036854775807 by omega), w64_nat (show i < 9223372036854775807 by omega)]
      rfl) (by
      simp only [f_l_heldIntS_r0, f_l_heldIntS_k0, ints_length, upK_length, lt_dec_self, br_false]) 0 (Nat.zero_le _)
  have e0 : (((k + 0 : Nat) : Int), ((0 : Nat) : Int)) = ((k : Int), 0) := by simp
  rw [e0] at key
  simp only [f_l_heldIntS, f_l_heldIntS_k, key, bl_one]

/-! ### Rows of rows -/
section
variable {α : Type} (enc : α → List Sc) (sz : α → Nat) (mk : Nat → α → α)
def encL (Z : List α) : List Sc := Z.map fun a => .l (enc a)
def szL : List α → Nat
  | [] => 0
  | a :: Z => sz a + szL Z
def mkL : Nat → List α → List α
  | _, [] => []
  | k, a :: Z => mk k a :: mkL (k + sz a) Z
theorem encL_len (Z : List α) : (encL enc Z).length = Z.length := by simp [encL]
theorem szL_append (A B : List α) : szL sz (A ++ B) = szL sz A + szL sz B := by
  induction A with
  | nil => simp [szL]
  | cons a A ih => simp only [List.cons_append, szL, ih]; omega
theorem mkL_append (A B : List α) (k : Nat) : mkL sz mk k (A ++ B) = mkL sz mk k A ++ mkL sz mk (k + szL sz A) B := by
  induction A generalizing k with
  | nil => simp [mkL, szL]
  | cons a A ih => simp only [List.cons_append, mkL, szL, ih, Nat.add_assoc]
theorem mkL_len (Z : List α) (k : Nat) : (mkL sz mk k Z).length = Z.length := by
  induction Z generalizing k with
  | nil => rfl
  | cons a Z ih => simp [mkL, ih]
theorem szL_take {Z : List α} {i : Nat} (h : i < Z.length) : szL sz (Z.take (i + 1)) = szL sz (Z.take i) + sz Z[i] := by
  rw [List.take_succ_eq_append_getElem h, szL_append]
  simp [szL]
theorem szL_le {Z : List α} (i : Nat) : szL sz (Z.take i) ≤ szL sz Z := by
  have := szL_append sz (Z.take i) (Z.drop i)
  rw [List.take_append_drop] at this
  omega
theorem encL_at {Z : List α} {i : Nat} (h : i < Z.length) : lsN (encL enc Z) i = enc Z[i] := by
  unfold lsN encL
  simp [List.getD, h, lstOf]
theorem encL_atI {Z : List α} {i : Nat} (h : i < Z.length) : lsI (encL enc Z) (i : Int) = enc Z[i] := by
  have := encL_at enc h
  unfold lsN at this
  unfold lsI
  rw [Int.toNat_natCast]
  exact this
/-- Rows are marked one by one. -/
theorem mark_loop {rd : List Sc × Int × Int → Option (Ro (List Sc × Int × Int) (List Sc × Int) Unit)} {f : Int → List Sc → Option (Int × List Sc)}
    (hrd : ∀ V k i, rd (V, k, i) = br (decide (i < (V.length : Int))) (br (inRange i V.length) (br (Nat.blt i.toNat V.length) (bo (f k (lsN V i.toNat)) (0, []) fun r1 => some (.again (V.set i.toNat (Sc.l r1.2), r1.1, w64 (i + 1)))) none) none) (some (.one (V, k))))
    (Z : List α) (k : Nat) (hk : k + szL sz Z < 9223372036854775807) (hZ : Z.length < 9223372036854775807) (hf : ∀ a ∈ Z, ∀ k', k' + sz a < 9223372036854775807 → f (k' : Int) (enc a) = some (((k' + sz a : Nat) : Int), enc (mk k' a))) :
    loopL rd (encL enc Z, (k : Int), 0) = some (.one (encL enc (mkL sz mk k Z), ((k + szL sz Z : Nat) : Int))) := by
  have key := loop_count (rd := rd) (fun i => (encL enc (mkL sz mk k (Z.take i) ++ Z.drop i), ((k + szL sz (Z.take i) : Nat) : Int), (i : Int))) Z.length (a := (encL enc (mkL sz mk k Z), ((k + szL sz Z : Nat) : Int))) (fun i hi => by
    have hlen : (mkL sz mk k (Z.take i) ++ Z.drop i).length = Z.length := by rw [List.length_append, mkL_len, List.length_take, List.length_drop]; omega
    have hmi : (mkL sz mk k (Z.take i)).length = i := by rw [mkL_len, List.length_take]; omega
    have hget : (mkL sz mk k (Z.take i) ++ Z.drop i)[i]'(by omega) = Z[i] := by
      rw [List.getElem_append_right (by omega)]
      simp [hmi]
    have hle := szL_le sz (Z := Z) (i + 1)
    rw [szL_take sz hi] at hle
    have e1 := hf Z[i] (List.getElem_mem hi) (k + szL sz (Z.take i)) (by omega)
    rw [hrd, encL_len, hlen, lt_dec hi, br_true, inRange_nat, decide_eq_true hi, br_true, Int.toNat_natCast, show Nat.blt i Z.length = true by rw [Nat.blt_eq]; exact hi, br_true, encL_at enc (by omega), hget, e1, bo_some, w64_nat (by omega), szL_take sz hi]
    have e2 : (encL enc (mkL sz mk k (Z.take i) ++ Z.drop i)).set i (Sc.l (enc (mk (k + szL sz (Z.take i)) Z[i]))) = encL enc (mkL sz mk k (Z.take (i + 1)) ++ Z.drop (i + 1)) := by
      rw [List.take_succ_eq_append_getElem hi, mkL_append]
      unfold encL
      rw [List.map_append, List.set_append, if_neg (by rw [List.length_map]; omega), List.length_map, hmi, Nat.sub_self, List.drop_eq_getElem_cons hi, List.map_cons, List.set_cons_zero]
      simp [mkL]
    rw [e2, Nat.add_assoc])
    (by rw [hrd, encL_len]
        have hlen : (mkL sz mk k (Z.take Z.length) ++ Z.drop Z.length).length = Z.length := by rw [List.length_append, mkL_len, List.length_take, List.length_drop]; omega
        rw [hlen, lt_dec_self, br_false, List.take_length, List.drop_length, List.append_nil]) 0 (Nat.zero_le _)
  simpa [mkL, szL] using key
/-- Marked rows are found as they were marked. -/
theorem held_loop {V : List Sc} {rd : Int × Int → Option (Ro (Int × Int) Int Unit)} {f : List Sc → Int → Option Int}
    (hrd : ∀ k i, rd (k, i) = br (decide (i < (V.length : Int))) (br (inRange i V.length) (bo (f (lsI V i) k) 0 fun r1 => br (decide (r1 < 0)) (some (.two ())) (some (.again (r1, w64 (i + 1))))) none) (some (.one k)))
    (Z : List α) (k : Nat) (hV : V = encL enc (mkL sz mk k Z)) (hk : k + szL sz Z < 9223372036854775807) (hZ : Z.length < 9223372036854775807) (hf : ∀ a ∈ Z, ∀ k', k' + sz a < 9223372036854775807 → f (enc (mk k' a)) (k' : Int) = some ((k' + sz a : Nat) : Int)) :
    loopL rd ((k : Int), 0) = some (.one ((k + szL sz Z : Nat) : Int)) := by
  have hVl : V.length = Z.length := by rw [hV, encL_len, mkL_len]
  have key := loop_count (rd := rd) (fun i => (((k + szL sz (Z.take i) : Nat) : Int), (i : Int))) Z.length (a := ((k + szL sz Z : Nat) : Int)) (fun i hi => by
    have hle := szL_le sz (Z := Z) (i + 1)
    rw [szL_take sz hi] at hle
    have hmi : (mkL sz mk k (Z.take i)).length = i := by rw [mkL_len, List.length_take]; omega
    have hget : (mkL sz mk k Z)[i]'(by rw [mkL_len]; exact hi) = mk (k + szL sz (Z.take i)) Z[i] := by
      have e : mkL sz mk k Z = mkL sz mk k (Z.take i) ++ mk (k + szL sz (Z.take i)) Z[i] :: mkL sz mk (k + szL sz (Z.take i) + sz Z[i]) (Z.drop (i + 1)) := by
        have h1 := mkL_append sz mk (Z.take i) (Z.drop i) k
        rw [List.take_append_drop] at h1
        rw [h1, List.drop_eq_getElem_cons hi]
        rfl
      simp only [e]
      rw [List.getElem_append_right (by omega)]
      simp [hmi]
    have e1 := hf Z[i] (List.getElem_mem hi) (k + szL sz (Z.take i)) (by omega)
    have e2 : lsI V (i : Int) = enc (mk (k + szL sz (Z.take i)) Z[i]) := by rw [hV, encL_atI enc (by rw [mkL_len]; exact hi), hget]
    have hn : decide (((k + szL sz (Z.take i) + sz Z[i] : Nat) : Int) < 0) = false := decide_eq_false (by omega)
    rw [hrd, hVl, lt_dec hi, br_true, inRange_nat, decide_eq_true hi, br_true, e2, e1, bo_some, hn, br_false, w64_nat (by omega), szL_take sz hi, Nat.add_assoc])
    (by rw [hrd, hVl, lt_dec_self, br_false, List.take_length]) 0 (Nat.zero_le _)
  simpa [szL] using key
/-- Rows are what they are. -/
theorem eq_loop {V : List Sc} {rd : Int → Option (Ro Int Unit Unit)} {f : List Sc → List Sc → Option Bool}
    (hrd : ∀ i, rd i = br (decide (i < (V.length : Int))) (br (inRange i V.length) (br (inRange i V.length) (bo (f (lsI V i) (lsI V i)) false fun r1 => br (!r1) (some (.two ())) (some (.again (w64 (i + 1))))) none) none) (some (.one ())))
    (Z : List α) (hV : V = encL enc Z) (hZ : Z.length < 9223372036854775807) (hf : ∀ a ∈ Z, f (enc a) (enc a) = some true) : loopL rd 0 = some (.one ()) := by
  have hVl : V.length = Z.length := by rw [hV, encL_len]
  have key := loop_count (rd := rd) (fun i => (i : Int)) Z.length (a := ()) (fun i hi => by
    have e2 : lsI V (i : Int) = enc Z[i] := by rw [hV, encL_atI enc hi]
    rw [hrd, hVl, lt_dec hi, br_true, inRange_nat, decide_eq_true hi, br_true, br_true, e2, hf _ (List.getElem_mem hi), bo_some, Bool.not_true, br_false, w64_nat (by omega)])
    (by rw [hrd, hVl, lt_dec_self, br_false]) 0 (Nat.zero_le _)
  exact key
end

/-- Of rows of integers. -/
def szZ (Z : List (List Int)) : Nat := szL List.length Z
def mkZ (k : Nat) (Z : List (List Int)) : List (List Int) := mkL List.length (fun k a => upK k a.length) k Z
theorem lz_enc (Z : List (List Int)) : lz Z = encL ints Z := rfl
theorem mkZ_len (Z : List (List Int)) (k : Nat) : (mkZ k Z).length = Z.length := mkL_len _ _ _ _
theorem markSS_eq (Z : List (List Int)) (k : Nat) (hk : k + szZ Z < 9223372036854775807) (hZ : Z.length < 9223372036854775807) : f_l_markIntSS_io (k : Int) (lz Z) = some (((k + szZ Z : Nat) : Int), lz (mkZ k Z)) := by
  have := mark_loop ints List.length (fun k a => upK k a.length) (rd := f_l_markIntSS_io_r0) (f := f_l_markIntS_io) (fun V k i => rfl) Z k hk hZ (fun a _ k' h' => mark_big a k' h')
  rw [lz_enc]
  simp only [f_l_markIntSS_io, f_l_markIntSS_io_k, this, bl1_one]
  rfl
theorem heldSS_eq (Z : List (List Int)) (k : Nat) (hk : k + szZ Z < 9223372036854775807) (hZ : Z.length < 9223372036854775807) : f_l_heldIntSS (lz (mkZ k Z)) (k : Int) = some ((k + szZ Z : Nat) : Int) := by
  have := held_loop ints List.length (fun k a => upK k a.length) (V := lz (mkZ k Z)) (rd := f_l_heldIntSS_r0 (lz (mkZ k Z))) (f := f_l_heldIntS) (fun k i => rfl) Z k rfl hk hZ (fun a _ k' h' => held_big k' a.length h')
  simp only [f_l_heldIntSS, f_l_heldIntSS_k, this, bl_one]
  rfl
theorem eqSS_self (Z : List (List Int)) (hZ : Z.length < 9223372036854775807) (ha : ∀ a ∈ Z, a.length ≤ lim) : f_l_eqIntSS (lz Z) (lz Z) = some true := by
  have := eq_loop ints (V := lz Z) (rd := f_l_eqIntSS_r0 (lz Z) (lz Z)) (f := f_l_eqIntS) (fun i => rfl) Z rfl hZ (fun a h => eqIntS_self a (ha a h))
  simp only [f_l_eqIntSS, f_l_eqIntSS_k, bne_self_eq_false, br_false, this, bl_one]

theorem atomsG_sz : atomsT.all (fun x => decide (szZ x.2 ≤ 1000) && x.2.all fun a => decide (a.length ≤ 7)) = true := by kernel_rfl
theorem atomsA_sz (G : List Int) : szZ (atomsA G) ≤ 1000 ∧ ∀ a ∈ atomsA G, a.length ≤ 7 := by
  unfold atomsA atomsG
  split
  · split
    · rename_i x hx
      have := List.all_eq_true.1 atomsG_sz x (List.mem_of_find?_eq_some hx)
      simp only [Bool.and_eq_true, decide_eq_true_eq, List.all_eq_true] at this
      exact this
    · exact ⟨Nat.zero_le _, fun a ha => by cases ha⟩
  · exact ⟨Nat.zero_le _, fun a ha => by cases ha⟩
end Go.Proofs.Ytdocbpiocinllaa
