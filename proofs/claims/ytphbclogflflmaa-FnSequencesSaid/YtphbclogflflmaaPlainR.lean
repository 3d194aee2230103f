/-
  PlainR: ShortestZero.
-/
import Derived.Test.YtphbclogflflmaaPlainQ
set_option linter.unusedVariables false
set_option linter.unusedSimpArgs false
namespace Go.Proofs.Ytphbclogflflmaa
open Go Ev

def zAt (g l : List Nat) (j : Nat) : Bool := decide (totN g (subN l (j + 1) l.length) = 0)
def bestF (g l : List Nat) (b : List Nat) (j : Nat) : List Nat := if zAt g l j then (if b.length = 0 then subN l (j + 1) l.length else if (subN l (j + 1) l.length).length < b.length then subN l (j + 1) l.length else b) else b
def bestN (g l : List Nat) (j : Nat) : List Nat := (List.range j).foldl (bestF g l) []
theorem bestN_succ (g l : List Nat) (j : Nat) : bestN g l (j + 1) = bestF g l (bestN g l j) j := by
  unfold bestN
  rw [List.range_succ, List.foldl_append]
  rfl
theorem subN_pop (l : List Nat) {c : Nat} (h : c < 2 ^ l.length) (hn : l.length ≤ 63) : (subN l c l.length).length = popN c := by
  unfold subN popN
  rw [List.length_map, filter_len, pcn_smallM l.length 63 c h hn]
def codeOf (g l : List Nat) (k m : Nat) : Option Nat := (List.range m).find? fun j => goodZ g l k (j + 1)
theorem pop_pos {c : Nat} (h : c ≠ 0) (hc : c < 9223372036854775808) : popN c ≠ 0 := fun e => by
  have : ∀ (n b : Nat), b < 2 ^ n → pcn n b = 0 → b = 0 := by
    intro n
    induction n with
    | zero => intro b h _; simpa using h
    | succ n ih =>
      intro b h h0
      have h0 : b % 2 + pcn n (b / 2) = 0 := h0
      rw [Nat.pow_succ] at h
      have := ih (b / 2) (by omega) (by omega)
      omega
  exact h (this 63 c (by omega) e)
/-- What the best is, as far as it has been looked for. -/
theorem best_spec (g l : List Nat) (hn : l.length ≤ 12) : ∀ j, j < 2 ^ l.length → ((∀ i, i < j → zAt g l i = false) ∧ bestN g l j = []) ∨
    ∃ i, i < j ∧ bestN g l j = subN l (i + 1) l.length ∧ (∀ i', i' < j → zAt g l i' = true → popN (i + 1) ≤ popN (i' + 1)) ∧ zAt g l i = true ∧ ∀ i', i' < i → ¬ (zAt g l i' = true ∧ popN (i' + 1) = popN (i + 1))
  | 0, _ => .inl ⟨fun i hi => absurd hi (by omega), rfl⟩
  | j + 1, hj => by
    have h12 := code_lt hn hj
    have hp : ∀ i, i ≤ j → (subN l (i + 1) l.length).length = popN (i + 1) := fun i hi => subN_pop l (by omega) (by omega)
    have hpos : ∀ i, i ≤ j → popN (i + 1) ≠ 0 := fun i hi => pop_pos (by omega) (by omega)
    rw [bestN_succ]
    unfold bestF
    rcases best_spec g l hn j (by omega) with ⟨h1, h2⟩ | ⟨i, h1, h2, h3, h4, h5⟩
    · cases hz : zAt g l j with
      | false =>
        refine .inl ⟨fun i hi => ?_, by rw [h2]; rfl⟩
        rcases Nat.lt_or_ge i j with h | h
        · exact h1 i h
        · rw [show i = j by omega]; exact hz
      | true =>
        refine .inr ⟨j, by omega, by rw [h2]; rfl, fun i' hi' hz' => ?_, hz, fun i' hi' hh => ?_⟩
        · rcases Nat.lt_or_ge i' j with h | h
          · rw [h1 i' h] at hz'; cases hz'
          · rw [show i' = j by omega]; exact Nat.le_refl _
        · rw [h1 i' hi'] at hh; cases hh.1
    · have hb : (bestN g l j).length = popN (i + 1) := by rw [h2]; exact hp i (by omega)
      have hb0 : ¬ ((bestN g l j).length = 0) := by rw [hb]; exact hpos i (by omega)
      cases hz : zAt g l j with
      | false =>
        refine .inr ⟨i, by omega, by rw [← h2]; rfl, fun i' hi' hz' => ?_, h4, h5⟩
        rcases Nat.lt_or_ge i' j with h | h
        · exact h3 i' h hz'
        · rw [show i' = j by omega, hz] at hz'; cases hz'
      | true =>
        rw [if_pos rfl, if_neg hb0, hb, hp j (Nat.le_refl _)]
        by_cases hlt : popN (j + 1) < popN (i + 1)
        · rw [if_pos hlt]
          refine .inr ⟨j, by omega, rfl, fun i' hi' hz' => ?_, hz, fun i' hi' hh => ?_⟩
          · rcases Nat.lt_or_ge i' j with h | h
            · have := h3 i' h hz'; omega
            · rw [show i' = j by omega]; exact Nat.le_refl _
          · have := h3 i' hi' hh.1; omega
        · rw [if_neg hlt]
          refine .inr ⟨i, by omega, h2, fun i' hi' hz' => ?_, h4, h5⟩
          rcases Nat.lt_or_ge i' j with h | h
          · exact h3 i' h hz'
          · rw [show i' = j by omega]; omega
theorem goodZ_iff (g l : List Nat) (k j : Nat) : goodZ g l k (j + 1) = true ↔ popN (j + 1) = k ∧ zAt g l j = true := by
  unfold goodZ zAt
  simp
theorem s_short_eq {g l : List Nat} (v : VS g l) (hs : isSeq (natsI g) (natsI l) = true) {m : Nat} (hm : 2 ^ l.length = m + 1) : loopL (f_s_ShortestZero_r0 (ints (natsI l)) (ints (natsI g))) ([], 1) = some (.one (ints (natsI (bestN g l m)))) := by
  have hlen := v.len
  have e9 : decide (((m + 1 : Nat) : Int) < shl64 1 (l.length : Int)) = false := by rw [shl1_nat (by omega), hm]; simp
  have hlimG := v.grp.lim
  have hlimL : (natsI l).length ≤ lim := by rw [natsI_length]; exact v.lim
  have key := loop_count (rd := f_s_ShortestZero_r0 (ints (natsI l)) (ints (natsI g))) (fun j => (ints (natsI (bestN g l j)), ((j + 1 : Nat) : Int))) m (a := ints (natsI (bestN g l m))) (fun j hj => by
    have hc : j + 1 < 2 ^ l.length := by omega
    have hc2 := code_lt hlen hc
    have e1 : decide (((j + 1 : Nat) : Int) < shl64 1 (l.length : Int)) = true := by rw [shl1_nat (by omega)]; exact decide_eq_true (Int.ofNat_lt.2 hc)
    have hp := s_part_eq (L := natsI l) (c := j + 1) (by rw [natsI_length]; exact hlen) (by omega)
    rw [natsI_length, subN_natsI] at hp
    simp only [f_s_ShortestZero_r0, f_s_ShortestZero_k0, ints_length, natsI_length, neg_dec, e1, br_true, br_false, s_IsSequence_eq _ _ hlimG hlimL, hs, bo_some, hp, s_l16Sum_eq v.grp (subN_each v (j + 1)) (Nat.le_trans (subN_length _ _ _) v.lim), zero_dec, dlt, w64_nat (show j + 1 < 9223372036854775807 by omega), bestN_succ]
    unfold bestF
    have ez : decide (totN g (subN l (j + 1) l.length) = 0) = zAt g l j := rfl
    rw [ez]
    cases zAt g l j with
    | false => rfl
    | true =>
      by_cases hb : (bestN g l j).length = 0
      · simp only [hb, decide_true]; rfl
      · by_cases hlt : (subN l (j + 1) l.length).length < (bestN g l j).length
        · simp only [decide_eq_false hb, decide_eq_true hlt, if_neg hb, if_pos hlt]; rfl
        · simp only [decide_eq_false hb, decide_eq_false hlt, if_neg hb, if_neg hlt]; rfl) (by
    simp only [f_s_ShortestZero_r0, f_s_ShortestZero_k0, ints_length, natsI_length, neg_dec, e9, br_false]; rfl) 0 (Nat.zero_le _)
  exact key
theorem i_zol_eq {g l : List Nat} (v : VS g l) (hs : isSeq (natsI g) (natsI l) = true) {m : Nat} (hm : 2 ^ l.length = m + 1) {k : Nat} (hk : 1 ≤ k ∧ k ≤ l.length) :
    f_i_ZeroOfLength (ints (natsI g)) (ints (natsI l)) (k : Int) = some (match codeOf g l k m with
      | some j => (ints (natsI (subN l (j + 1) l.length)), true)
      | none => ([], false)) := by
  have hlen := v.len
  have hlimL : (natsI l).length ≤ lim := by rw [natsI_length]; exact v.lim
  have hin : inB (k : Int) 1 (l.length : Int) = true := by simp [inB]; omega
  have e9 : decide (((m + 1 : Nat) : Int) < shl64 1 (l.length : Int)) = false := by rw [shl1_nat (by omega), hm]; simp
  have q2 := loop_find (rd := f_i_ZeroOfLength_r0 (ints (natsI l)) (k : Int) (ints (natsI g)) (shl64 1 (l.length : Int))) (fun c => (c : Int)) (m + 1) (goodZ g l k) (fun c => ints (natsI (subN l c l.length))) (a := ()) (fun c hc => i_zol_step v k (by omega)) (by
    simp only [f_i_ZeroOfLength_r0, f_i_ZeroOfLength_k0, e9, br_false])
  have g0 : goodZ g l k 0 = false := by
    have : ¬ (popN 0 = k) := by rw [show popN 0 = 0 from pcn_zero 63]; omega
    unfold goodZ
    rw [decide_eq_false this]
    rfl
  rw [find_shift _ _ g0] at q2
  have e2 : ((0 : Nat) : Int) = 0 := rfl
  rw [e2] at q2
  simp only [f_i_ZeroOfLength, f_i_ZeroOfLength_k, i_IsSequence_eq _ _ v.grp.lim hlimL, hs, i_within_eq, bo_some, ints_length, natsI_length, hin, neg_dec, q2]
  unfold codeOf
  cases (List.range m).find? fun c => goodZ g l k (c + 1) <;> rfl
theorem i_short_eq {g l : List Nat} (v : VS g l) (hs : isSeq (natsI g) (natsI l) = true) {m : Nat} (hm : 2 ^ l.length = m + 1) : f_i_ShortestZero (ints (natsI g)) (ints (natsI l)) = some (match (List.range l.length).find? fun i => (codeOf g l (i + 1) m).isSome with
      | some i => (ints (natsI (subN l ((codeOf g l (i + 1) m).getD 0 + 1) l.length)), true)
      | none => ([], false)) := by
  have hlen := v.len
  have hlimL : (natsI l).length ≤ lim := by rw [natsI_length]; exact v.lim
  have q := loop_find (rd := f_i_ShortestZero_r0 (ints (natsI l)) (ints (natsI g))) (fun i => ((i + 1 : Nat) : Int)) l.length (fun i => (codeOf g l (i + 1) m).isSome) (fun i => ints (natsI (subN l ((codeOf g l (i + 1) m).getD 0 + 1) l.length))) (a := ()) (fun i hi => by
    have e1 : decide (((i + 1 : Nat) : Int) ≤ (l.length : Int)) = true := decide_eq_true (by omega)
    simp only [f_i_ShortestZero_r0, f_i_ShortestZero_k0, ints_length, natsI_length, e1, i_IsSequence_eq _ _ v.grp.lim hlimL, hs, bo_some, br_true, i_zol_eq v hs hm (show 1 ≤ i + 1 ∧ i + 1 ≤ l.length by omega), w64_nat (show i + 1 < 9223372036854775807 by omega)]
    cases codeOf g l (i + 1) m <;> rfl) (by
    have e1 : decide (((l.length + 1 : Nat) : Int) ≤ (l.length : Int)) = false := decide_eq_false (by omega)
    simp only [f_i_ShortestZero_r0, f_i_ShortestZero_k0, ints_length, natsI_length, e1]; rfl)
  have e2 : ((0 + 1 : Nat) : Int) = 1 := rfl
  rw [e2] at q
  simp only [f_i_ShortestZero, f_i_ShortestZero_k, q]
  cases (List.range l.length).find? fun i => (codeOf g l (i + 1) m).isSome <;> rfl
theorem ShortestZero_both (G L : List Int) (h : G.length ≤ lim) (hL : L.length ≤ lim) : ∃ R b, f_s_ShortestZero (ints G) (ints L) = some (ints R, b) ∧ f_i_ShortestZero (ints G) (ints L) = some (ints R, b) ∧ R.length ≤ 12 := by
  cases hs : isSeq G L with
  | false =>
    refine ⟨[], false, ?_, ?_, by simp⟩
    · have q : loopL (f_s_ShortestZero_r0 (ints L) (ints G)) ([], 1) = some (.one []) := loopL_one (by
        simp only [f_s_ShortestZero_r0, f_s_ShortestZero_k0, ints_length, neg_dec, s_IsSequence_eq G L h hL, hs, bo_some, br_false]
        cases decide (1 < shl64 1 (L.length : Int)) == true <;> rfl)
      simp only [f_s_ShortestZero, f_s_ShortestZero_k, q, bl1_one]
      rfl
    · have q : loopL (f_i_ShortestZero_r0 (ints L) (ints G)) 1 = some (.one ()) := loopL_one (by
        simp only [f_i_ShortestZero_r0, f_i_ShortestZero_k0, ints_length, i_IsSequence_eq G L h hL, hs, bo_some, br_false]
        cases decide (1 ≤ (L.length : Int)) == true <;> rfl)
      simp only [f_i_ShortestZero, f_i_ShortestZero_k, q, bl_one]
      rfl
  | true =>
    obtain ⟨g, l, rfl, rfl, v⟩ := nat_of_isSeq hs
    obtain ⟨m, hm⟩ : ∃ m, 2 ^ l.length = m + 1 := ⟨2 ^ l.length - 1, by have := Nat.two_pow_pos l.length; omega⟩
    have hlen := v.len
    have e1 := s_short_eq v hs hm
    have e2 := i_short_eq v hs hm
    have e3 : f_s_ShortestZero (ints (natsI g)) (ints (natsI l)) = some (ints (natsI (bestN g l m)), decide (((bestN g l m).length : Int) > 0)) := by
      simp only [f_s_ShortestZero, f_s_ShortestZero_k, e1, bl1_one, ints_length, natsI_length]
    rcases best_spec g l hlen m (by omega) with ⟨h1, h2⟩ | ⟨i, h1, h2, h3, h4, h5⟩
    · have hnone : (List.range l.length).find? (fun i => (codeOf g l (i + 1) m).isSome) = none := by
        rw [List.find?_eq_none]
        intro k _ hk
        unfold codeOf at hk
        rw [List.find?_isSome] at hk
        obtain ⟨j, hj, hg⟩ := hk
        have := ((goodZ_iff _ _ _ _).1 hg).2
        rw [h1 j (List.mem_range.1 hj)] at this
        cases this
      rw [hnone] at e2
      exact ⟨[], false, by rw [e3, h2]; rfl, e2, by simp⟩
    · have hp : ∀ j, j < m → (subN l (j + 1) l.length).length = popN (j + 1) := fun j hj => subN_pop l (by omega) (by omega)
      have hm12 := code_lt hlen (show m < 2 ^ l.length by omega)
      have hpi : popN (i + 1) ≠ 0 := pop_pos (by omega) (by omega)
      have hle : popN (i + 1) ≤ l.length := by rw [← hp i h1]; exact subN_length _ _ _
      have hcode : codeOf g l (popN (i + 1)) m = some i := by
        unfold codeOf
        rw [List.find?_range_eq_some]
        refine ⟨(goodZ_iff _ _ _ _).2 ⟨rfl, h4⟩, List.mem_range.2 h1, fun j hj => ?_⟩
        cases hg : goodZ g l (popN (i + 1)) (j + 1) with
        | false => rfl
        | true =>
          have := (goodZ_iff _ _ _ _).1 hg
          exact absurd ⟨this.2, this.1⟩ (h5 j hj)
      have hfind : (List.range l.length).find? (fun i => (codeOf g l (i + 1) m).isSome) = some (popN (i + 1) - 1) := by
        rw [List.find?_range_eq_some]
        have e : popN (i + 1) - 1 + 1 = popN (i + 1) := by omega
        refine ⟨by rw [e, hcode]; rfl, List.mem_range.2 (by omega), fun k hk => ?_⟩
        cases hg : (codeOf g l (k + 1) m).isSome with
        | false => rfl
        | true =>
          unfold codeOf at hg
          rw [List.find?_isSome] at hg
          obtain ⟨j, hj, hg⟩ := hg
          have := (goodZ_iff _ _ _ _).1 hg
          have := h3 j (List.mem_range.1 hj) this.2
          omega
      rw [hfind] at e2
      simp only [show popN (i + 1) - 1 + 1 = popN (i + 1) by omega, hcode, Option.getD_some] at e2
      refine ⟨natsI (subN l (i + 1) l.length), true, ?_, e2, by rw [natsI_length]; exact Nat.le_trans (subN_length _ _ _) hlen⟩
      rw [e3, h2]
      have : decide (((subN l (i + 1) l.length).length : Int) > 0) = true := decide_eq_true (by rw [hp i h1]; omega)
      rw [this]
end Go.Proofs.Ytphbclogflflmaa
