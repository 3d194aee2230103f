/-
  PlainM: marks; EgzPart.
-/
import Derived.Test.YtdocbpiocinllaaPlainH
set_option linter.unusedVariables false
set_option linter.unusedSimpArgs false
namespace Go.Proofs.Ytdocbpiocinllaa
open Go Ev

/-! ### Marks -/
def upK (k n : Nat) : List Int := natsI (List.range' k n)
theorem upK_length (k n : Nat) : (upK k n).length = n := by simp [upK, natsI]
theorem upK_getD {k n i : Nat} (h : i < n) : (upK k n).getD i 0 = ((k + i : Nat) : Int) := by
  unfold upK
  rw [natsI_getD]
  congr 1
  simp [List.getD, List.getElem?_range' h]
theorem upK_succ (k i : Nat) (L : List Int) (h : i < L.length) : (upK k i ++ L.drop i).set i ((k + i : Nat) : Int) = upK k (i + 1) ++ L.drop (i + 1) := by
  rw [List.set_append, if_neg (by rw [upK_length]; omega), upK_length, Nat.sub_self, List.drop_eq_getElem_cons h, List.set_cons_zero]
  unfold upK natsI
  rw [List.range'_concat, List.map_append, List.append_assoc]
  simp
theorem mark_eq (L : List Int) (k : Nat) (h : k + L.length ≤ lim) : f_l_markIntS_io (k : Int) (ints L) = some (((k + L.length : Nat) : Int), ints (upK k L.length)) := by
  have hl := lim_lt h
  have key := loop_count (rd := f_l_markIntS_io_r0) (fun i => (ints (upK k i ++ L.drop i), ((k + i : Nat) : Int), (i : Int))) L.length (a := (ints (upK k L.length), ((k + L.length : Nat) : Int))) (fun i hi => by
      have hlen : (upK k i ++ L.drop i).length = L.length := by rw [List.length_append, upK_length, List.length_drop]; omega
      have e1 : inRange (i : Int) L.length = true := by rw [inRange_nat]; simpa using hi
      simp only [f_l_markIntS_io_r0, f_l_markIntS_io_k0, ints_length, hlen, lt_dec hi, e1, br_true, Int.toNat_natCast, ints_set, upK_succ k i L hi, w64_nat (show k + i < 9223372036854775807 by omega), w64_nat (show i < 9223372036854775807 by omega)]
      rfl) (by
      simp only [f_l_markIntS_io_r0, f_l_markIntS_io_k0, List.drop_length, List.append_nil, ints_length, upK_length, lt_dec_self, br_false]) 0 (Nat.zero_le _)
  have e0 : (ints (upK k 0 ++ L.drop 0), ((k + 0 : Nat) : Int), ((0 : Nat) : Int)) = (ints L, (k : Int), 0) := by simp [upK, natsI]
  rw [e0] at key
  simp only [f_l_markIntS_io, f_l_markIntS_io_k, key, bl1_one]
theorem held_eq (k n : Nat) (h : k + n ≤ lim) : f_l_heldIntS (ints (upK k n)) (k : Int) = some ((k + n : Nat) : Int) := by
  have hl := lim_lt h
  have key := loop_count (rd := f_l_heldIntS_r0 (ints (upK k n))) (fun i => (((k + i : Nat) : Int), (i : Int))) n (a := ((k + n : Nat) : Int)) (fun i hi => by
      have hi' : i < (upK k n).length := by rw [upK_length]; exact hi
      simp only [f_l_heldIntS_r0, f_l_heldIntS_k0, ints_length, upK_length, lt_dec hi, br_true, ok_nat hi', at_nat, upK_getD hi, bne_self_eq_false, br_false, w64_nat (show k + i < 9223372036854775807 by omega), w64_nat (show i < 9223372036854775807 by omega)]
      rfl) (by
      simp only [f_l_heldIntS_r0, f_l_heldIntS_k0, ints_length, upK_length, lt_dec_self, br_false]) 0 (Nat.zero_le _)
  have e0 : (((k + 0 : Nat) : Int), ((0 : Nat) : Int)) = ((k : Int), 0) := by simp
  rw [e0] at key
  simp only [f_l_heldIntS, f_l_heldIntS_k, key, bl_one]

/-! ### EgzPart -/
def subL (L : List Int) (c n : Nat) : List Int := ((List.range n).filter fun i => c.testBit i).map fun i => L.getD i 0
theorem subL_succ (L : List Int) (c n : Nat) : subL L c (n + 1) = if c.testBit n then subL L c n ++ [L.getD n 0] else subL L c n := by
  unfold subL
  rw [List.range_succ, List.filter_append]
  cases h : c.testBit n <;> simp [h]
theorem subL_length (L : List Int) (c n : Nat) : (subL L c n).length ≤ n := by
  unfold subL
  rw [List.length_map]
  exact Nat.le_trans (List.length_filter_le _ _) (by simp)
theorem pcn_smallM : ∀ (d n a : Nat), a < 2 ^ d → d ≤ n → pcn n a = pcn d a := by
  intro d
  induction d with
  | zero =>
    intro n a ha _
    have h0 : a = 0 := by simpa using ha
    subst h0
    rw [pcn_zero, pcn_zero]
  | succ d ih =>
    intro n a ha hn
    obtain ⟨m, rfl⟩ : ∃ m, n = m + 1 := ⟨n - 1, by omega⟩
    rw [Nat.pow_succ] at ha
    show a % 2 + pcn m (a / 2) = a % 2 + pcn d (a / 2)
    rw [ih m (a / 2) (by omega) (by omega)]
theorem subL_pop (L : List Int) {c n : Nat} (h : c < 2 ^ n) (hn : n ≤ 63) : (subL L c n).length = popN c := by
  unfold subL popN
  rw [List.length_map, filter_len, pcn_smallM n 63 c h hn]
def sumL (A : List Int) : Int := A.foldl (fun s x => w64 (s + x)) 0
theorem sumL_succ (A : List Int) {i : Nat} (h : i < A.length) : sumL (A.take (i + 1)) = w64 (sumL (A.take i) + A.getD i 0) := by
  unfold sumL
  rw [List.take_succ_eq_append_getElem h, List.foldl_append]
  simp [List.getD, h]
theorem app_lim {A : List Int} {x : Int} {n : Nat} (h : A.length ≤ n) (hn : n ≤ 1000) : decide ((ints A).length + [Sc.n .i64 x].length ≤ lim) = true := by
  rw [ints_length]
  simp only [List.length_cons, List.length_nil, decide_eq_true_eq]
  unfold lim
  omega
theorem i_part_eq {L : List Int} {c : Nat} (hL : L.length ≤ 12) (hc : c < 9223372036854775808) : f_i_part (ints L) (c : Int) = some (ints (subL L c L.length)) := by
  have key := loop_count (rd := f_i_part_r0 (c : Int) (ints L) (L.length : Int)) (fun i => (ints (subL L c i), (i : Int))) L.length (a := ints (subL L c L.length)) (fun i hi => by
      simp only [f_i_part_r0, f_i_part_k0, ints_length, lt_dec hi, ok_nat hi, i_in_eq hc, bo_some, br_true, subL_succ]
      have e1 := app_lim (x := L.getD i 0) (subL_length L c i) (by omega)
      rw [ints_length] at e1
      cases hb : c.testBit i with
      | true =>
        simp only [br_true, at_nat, e1, if_true, ints_snoc, w64_nat (show i < 9223372036854775807 by omega)]
      | false => simp only [br_false, w64_nat (show i < 9223372036854775807 by omega)]; rfl) (by
      simp only [f_i_part_r0, f_i_part_k0, lt_dec_self, br_false]) 0 (Nat.zero_le _)
  have e0 : (ints (subL L c 0), ((0 : Nat) : Int)) = (([] : List Sc), (0 : Int)) := rfl
  rw [e0] at key
  simp only [f_i_part, f_i_part_k, ints_length, key, bl1_one]
theorem two_of (b : Bool) : b = true ∨ b = false := by cases b <;> simp
theorem eq_nat_decM (a b : Nat) : ((a : Int) == (b : Int)) = decide (a = b) := by
  by_cases h : a = b
  · simp [h]
  · have : ¬ ((a : Int) = (b : Int)) := by omega
    simp [h, this]
theorem find_shift (g : Nat → Bool) (m : Nat) (h0 : g 0 = false) : (List.range (m + 1)).find? g = ((List.range m).find? fun k => g (k + 1)).map (· + 1) := by
  rw [List.range_succ_eq_map, List.find?_cons, h0, List.find?_map]
  rfl
theorem le_lim' {n : Nat} (h : n ≤ 2097152) : n ≤ lim := Nat.le_trans h (by decide)
def goodE (L : List Int) (p c : Nat) : Bool := decide ((subL L c L.length).length = p) && ((sumL (subL L c L.length)).tmod (p : Int) == 0)
theorem rng_loop {L : List Int} (hL : L.length ≤ 12) {rd : Int → Option (Ro Int Unit (List Sc))} (h : ∀ k, k < L.length → rd (k : Int) = if !inB (L.getD k 0) (-1000000) 1000000 then some (.two []) else some (.again ((k + 1 : Nat) : Int))) (he : rd (L.length : Int) = some (.one ())) :
    loopL rd 0 = if (List.range L.length).any (fun k => !inB (L.getD k 0) (-1000000) 1000000) then some (.two []) else some (.one ()) := by
  have := loop_find (rd := rd) (fun k => (k : Int)) L.length (fun k => !inB (L.getD k 0) (-1000000) 1000000) (fun _ => ([] : List Sc)) h he
  have e0 : ((0 : Nat) : Int) = 0 := rfl
  rw [e0] at this
  rw [this]
  cases hf : (List.range L.length).find? fun k => !inB (L.getD k 0) (-1000000) 1000000 with
  | some k =>
    have : (List.range L.length).any (fun k => !inB (L.getD k 0) (-1000000) 1000000) = true := List.any_eq_true.2 ⟨k, List.mem_of_find?_eq_some hf, List.find?_some (p := fun k => !inB (L.getD k 0) (-1000000) 1000000) hf⟩
    rw [this]
    rfl
  | none =>
    have : (List.range L.length).any (fun k => !inB (L.getD k 0) (-1000000) 1000000) = false := by
      rw [List.any_eq_false]
      intro x hx
      have := List.find?_eq_none.1 hf x hx
      simpa using this
    rw [this]
    rfl
end Go.Proofs.Ytdocbpiocinllaa
