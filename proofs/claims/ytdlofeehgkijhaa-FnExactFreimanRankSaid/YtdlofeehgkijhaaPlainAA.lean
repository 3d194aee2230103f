/-
  PlainAA: the number of maps into the group of two elements is a power of 2: FreimanRank.
-/
import Derived.Test.YtdlofeehgkijhaaPlainZ
set_option linter.unusedVariables false
set_option linter.unusedSimpArgs false
namespace Go.Proofs.Ytdlofeehgkijhaa
open Go Ev

theorem snoc_lt {p : List Nat} {x i : Nat} (h : i < p.length) : (p ++ [x]).getD i 0 = p.getD i 0 := by simp [List.getD, List.getElem?_append_left h]
theorem snoc_eq (p : List Nat) (x : Nat) : (p ++ [x]).getD p.length 0 = x := by simp [List.getD]
theorem ext_mem (o : Nat) : ∀ (d : Nat) (p m : List Nat), m.length = p.length + d → (∀ i, i < p.length → m.getD i 0 = p.getD i 0) → (∀ x ∈ m, x < o) → m ∈ extN o d p
  | 0, p, m, h1, h2, _ => by
    have : m = p := by
      apply List.ext_getElem (by omega)
      intro i hi hi'
      have := h2 i hi'
      simpa [List.getD, List.getElem?_eq_getElem hi, List.getElem?_eq_getElem hi'] using this
    rw [this]
    simp [extN]
  | d + 1, p, m, h1, h2, h3 => by
    have hlt : p.length < m.length := by omega
    have hx : m.getD p.length 0 < o := h3 _ (by simp [List.getD, List.getElem?_eq_getElem hlt])
    refine List.mem_flatMap.2 ⟨m.getD p.length 0, List.mem_range'_1.2 (by omega), ext_mem o d _ m (by rw [List.length_append, List.length_singleton]; omega) (fun i hi => ?_) h3⟩
    rw [List.length_append, List.length_singleton] at hi
    by_cases e : i < p.length
    · rw [snoc_lt e, h2 i e]
    · rw [show i = p.length by omega, snoc_eq]
def sum3 (k : Nat) (a b c : List Nat) : List Nat := (List.range k).map fun i => (a.getD i 0 + b.getD i 0 + c.getD i 0) % 2
theorem sum3_at {k i : Nat} (a b c : List Nat) (h : i < k) : (sum3 k a b c).getD i 0 = (a.getD i 0 + b.getD i 0 + c.getD i 0) % 2 := by simp [sum3, List.getD, h]
theorem sum3_len (k : Nat) (a b c : List Nat) : (sum3 k a b c).length = k := by simp [sum3]
theorem sum3_two {k : Nat} {a b c : List Nat} : ∀ x ∈ sum3 k a b c, x < 2 := by
  intro x hx
  obtain ⟨i, _, rfl⟩ := List.mem_map.1 hx
  omega
section
variable {S : List Nat → Bool} {k : Nat}
def cn (S : List Nat → Bool) (d : Nat) (p : List Nat) : Nat := (extN 2 d p).countP S
theorem cn_succ (d : Nat) (p : List Nat) : cn S (d + 1) p = cn S d (p ++ [0]) + cn S d (p ++ [1]) := by
  unfold cn
  rw [extN, List.countP_flatMap]
  simp [List.range'_succ]
theorem cn_pos {d : Nat} {p : List Nat} : cn S d p ≠ 0 ↔ ∃ m ∈ extN 2 d p, S m = true := by
  unfold cn
  rw [← Nat.pos_iff_ne_zero, List.countP_pos_iff]
theorem cn_eq (hS : ∀ a b c, a.length = k → b.length = k → c.length = k → S a = true → S b = true → S c = true → S (sum3 k a b c) = true) : ∀ (d : Nat) (p q : List Nat), p.length + d = k → q.length = p.length →
    (∀ x ∈ p, x < 2) → (∀ x ∈ q, x < 2) → cn S d p ≠ 0 → cn S d q ≠ 0 → cn S d p = cn S d q
  | 0, p, q, _, _, _, _, hp, hq => by
    unfold cn extN at *
    rw [List.countP_singleton] at *
    split at hp <;> split at hq <;> simp_all
  | d + 1, p, q, hk, hl, hp2, hq2, hp, hq => by
    obtain ⟨e, he, hSe⟩ := cn_pos.1 hp
    obtain ⟨f, hf, hSf⟩ := cn_pos.1 hq
    obtain ⟨e1, e2, e3⟩ := extN_pre _ _ _ e he
    obtain ⟨f1, f2, f3⟩ := extN_pre _ _ _ f hf
    have e3 := e3 hp2
    have f3 := f3 hq2
    have hplt : p.length < e.length := by omega
    have hqlt : p.length < f.length := by omega
    have ha : e.getD p.length 0 < 2 := e3 _ (by simp [List.getD, List.getElem?_eq_getElem hplt])
    have hb : f.getD p.length 0 < 2 := f3 _ (by simp [List.getD, List.getElem?_eq_getElem hqlt])
    have h2 : ∀ (r : List Nat) (x : Nat), (∀ y ∈ r, y < 2) → x < 2 → ∀ y ∈ r ++ [x], y < 2 := fun r x hr hx y hy => by
      rcases List.mem_append.1 hy with hy | hy
      · exact hr y hy
      · rw [List.mem_singleton.1 hy]; exact hx
    -- who is there, is there on the other side
    have wit : ∀ (r : List Nat) (m : List Nat), r.length = p.length → m.length = k → (∀ i, i < p.length → m.getD i 0 = r.getD i 0) → (∀ x ∈ m, x < 2) → S m = true → cn S d (r ++ [m.getD p.length 0]) ≠ 0 := fun r m hr hm hpre h2m hSm => by
      refine cn_pos.2 ⟨m, ext_mem 2 d _ m (by rw [List.length_append, List.length_singleton]; omega) (fun i hi => ?_) h2m, hSm⟩
      rw [List.length_append, List.length_singleton] at hi
      by_cases e : i < p.length
      · rw [snoc_lt (by omega), hpre i e]
      · rw [show i = r.length by omega, snoc_eq, hr]
    have we := wit p e rfl (by omega) e2 e3 hSe
    have wf := wit q f hl (by omega) (fun i hi => f2 i (by omega)) f3 hSf
    have main : cn S d (p ++ [e.getD p.length 0]) = cn S d (q ++ [f.getD p.length 0]) :=
      cn_eq hS d _ _ (by rw [List.length_append, List.length_singleton]; omega) (by rw [List.length_append, List.length_append, hl]; rfl) (h2 p _ hp2 ha) (h2 q _ hq2 hb) we wf
    have other : cn S d (p ++ [1 - e.getD p.length 0]) = cn S d (q ++ [1 - f.getD p.length 0]) := by
      have tr : ∀ (p q e f : List Nat), p.length + (d + 1) = k → q.length = p.length → (∀ x ∈ p, x < 2) → (∀ x ∈ q, x < 2) → e.length = k → f.length = k → (∀ i, i < p.length → e.getD i 0 = p.getD i 0) → (∀ i, i < p.length → f.getD i 0 = q.getD i 0) → e.getD p.length 0 < 2 → f.getD p.length 0 < 2 → S e = true → S f = true →
          cn S d (p ++ [1 - e.getD p.length 0]) ≠ 0 → cn S d (q ++ [1 - f.getD p.length 0]) ≠ 0 := by
        intro p q e f hk hl hp2 hq2 e1 f1 e2 f2 ha hb hSe hSf hne
        obtain ⟨m, hm, hSm⟩ := cn_pos.1 hne
        obtain ⟨m1, m2, m3⟩ := extN_pre _ _ _ m hm
        rw [List.length_append, List.length_singleton] at m1 m2
        have mp : m.getD p.length 0 = 1 - e.getD p.length 0 := by rw [m2 _ (by omega), snoc_eq]
        refine cn_pos.2 ⟨sum3 k m e f, ext_mem 2 d _ _ (by rw [sum3_len, List.length_append, List.length_singleton]; omega) (fun i hi => ?_) sum3_two, hS _ _ _ (by omega) e1 f1 hSm hSe hSf⟩
        rw [List.length_append, List.length_singleton] at hi
        rw [sum3_at _ _ _ (by omega)]
        by_cases hip : i < p.length
        · rw [m2 i (by omega), snoc_lt hip, e2 i hip, f2 i hip, snoc_lt (by omega)]
          have : q.getD i 0 < 2 := hq2 _ (by have : i < q.length := by omega
                                             simp [List.getD, List.getElem?_eq_getElem this])
          omega
        · rw [show i = p.length by omega, mp, ← hl, snoc_eq, hl]
          omega
      have t1 := tr p q e f hk hl hp2 hq2 (by omega) (by omega) e2 (fun i hi => f2 i (by omega)) ha hb hSe hSf
      have t2 := tr q p f e (by omega) hl.symm hq2 hp2 (by omega) (by omega) (fun i hi => f2 i hi) (fun i hi => e2 i (by omega)) (by rw [hl]; exact hb) (by rw [hl]; exact ha) hSf hSe
      rw [hl] at t2
      by_cases hz : cn S d (p ++ [1 - e.getD p.length 0]) = 0
      · by_cases hz' : cn S d (q ++ [1 - f.getD p.length 0]) = 0
        · rw [hz, hz']
        · exact absurd hz (t2 hz')
      · exact cn_eq hS d _ _ (by rw [List.length_append, List.length_singleton]; omega) (by rw [List.length_append, List.length_append, hl]; rfl) (h2 p _ hp2 (by omega)) (h2 q _ hq2 (by omega)) hz (t1 hz)
    have sp : ∀ (r : List Nat) (x : Nat), x < 2 → cn S (d + 1) r = cn S d (r ++ [x]) + cn S d (r ++ [1 - x]) := fun r x hx => by
      rw [cn_succ]
      have : x = 0 ∨ x = 1 := by omega
      rcases this with rfl | rfl
      · rfl
      · rw [Nat.add_comm]
    rw [sp p _ ha, sp q _ hb, main, other]
theorem cn_pow (hS : ∀ a b c, a.length = k → b.length = k → c.length = k → S a = true → S b = true → S c = true → S (sum3 k a b c) = true) : ∀ (d : Nat) (p : List Nat), p.length + d = k → (∀ x ∈ p, x < 2) → cn S d p = 0 ∨ ∃ e, e ≤ d ∧ cn S d p = 2 ^ e
  | 0, p, _, _ => by
    unfold cn extN
    rw [List.countP_singleton]
    split
    · exact .inr ⟨0, Nat.le_refl _, rfl⟩
    · exact .inl rfl
  | d + 1, p, hk, hp2 => by
    have h2 : ∀ x, x < 2 → ∀ y ∈ p ++ [x], y < 2 := fun x hx y hy => by
      rcases List.mem_append.1 hy with hy | hy
      · exact hp2 y hy
      · rw [List.mem_singleton.1 hy]; exact hx
    have l0 : ∀ x, (p ++ [x]).length + d = k := fun x => by rw [List.length_append, List.length_singleton]; omega
    rw [cn_succ]
    rcases cn_pow hS d (p ++ [0]) (l0 0) (h2 0 (by omega)) with h0 | ⟨e, he, h0⟩
    · rw [h0, Nat.zero_add]
      rcases cn_pow hS d (p ++ [1]) (l0 1) (h2 1 (by omega)) with h1 | ⟨e, he, h1⟩
      · exact .inl h1
      · exact .inr ⟨e, by omega, h1⟩
    · rcases cn_pow hS d (p ++ [1]) (l0 1) (h2 1 (by omega)) with h1 | ⟨f, hf, h1⟩
      · rw [h1]; exact .inr ⟨e, by omega, h0⟩
      · have : cn S d (p ++ [0]) = cn S d (p ++ [1]) := cn_eq hS d _ _ (l0 0) (by simp) (h2 0 (by omega)) (h2 1 (by omega)) (by rw [h0]; exact Nat.ne_of_gt (Nat.two_pow_pos e)) (by rw [h1]; exact Nat.ne_of_gt (Nat.two_pow_pos f))
        exact .inr ⟨e + 1, by omega, by rw [← this, h0, Nat.pow_succ]; omega⟩
end
theorem skp0_false (g h l m : List Nat) : skp0 g h l m = false ↔ ∀ a b c d, a < l.length → a ≤ b → b < l.length → c < a + 1 → c ≤ d → d < l.length → breaks g h l m a b c d = false := by
  constructor
  · intro hs a b c d ha hab hb hc hcd hd
    cases hbr : breaks g h l m a b c d with
    | false => rfl
    | true =>
      have : skp0 g h l m = true := any_range'_iff.2 ⟨a, Nat.zero_le _, ha, any_range'_iff.2 ⟨b, hab, hb, any_range'_iff.2 ⟨c, Nat.zero_le _, hc, any_range'_iff.2 ⟨d, hcd, hd, hbr⟩⟩⟩⟩
      rw [hs] at this
      cases this
  · intro hall
    cases hs : skp0 g h l m with
    | false => rfl
    | true =>
      obtain ⟨a, _, ha, hb⟩ := any_range'_iff.1 hs
      obtain ⟨b, hb1, hb2, hb⟩ := any_range'_iff.1 hb
      obtain ⟨c, hc1, hc2, hb⟩ := any_range'_iff.1 hb
      obtain ⟨d, hd1, hd2, hb⟩ := any_range'_iff.1 hb
      rw [hall a b c d ha hb1 hb2 hc2 hd1 hd2] at hb
      cases hb
theorem add2 (x y : Nat) : addN [2] x y = (x % 2 + y % 2) % 2 := by simp [addN]
theorem keep_closed (g l : List Nat) (a b c : List Nat) (ha : a.length = l.length) (hb : b.length = l.length) (hc : c.length = l.length) (h1 : keepN g [2] l a = true) (h2 : keepN g [2] l b = true) (h3 : keepN g [2] l c = true) : keepN g [2] l (sum3 l.length a b c) = true := by
  unfold keepN at *
  rw [Bool.not_eq_true'] at *
  rw [skp0_false] at *
  intro i j p q hi hij hj hp hpq hq
  have b1 := h1 i j p q hi hij hj hp hpq hq
  have b2 := h2 i j p q hi hij hj hp hpq hq
  have b3 := h3 i j p q hi hij hj hp hpq hq
  unfold breaks at *
  cases hd : decide (addN g (l.getD i 0) (l.getD j 0) = addN g (l.getD p 0) (l.getD q 0)) with
  | false => rfl
  | true =>
    rw [hd] at b1 b2 b3
    rw [Bool.true_and, decide_eq_false_iff_not, Decidable.not_not, add2, add2] at *
    rw [sum3_at _ _ _ hi, sum3_at _ _ _ hj, sum3_at _ _ _ (by omega), sum3_at _ _ _ hq]
    omega
theorem VG2 : VG [2] := ⟨by decide, by decide, by decide⟩
theorem cntK_pow (g l : List Nat) : ∃ e, e ≤ l.length ∧ cntK g [2] l l.length [] = 2 ^ e := by
  rcases cn_pow (S := keepN g [2] l) (k := l.length) (fun a b c ha hb hc => keep_closed g l a b c ha hb hc) l.length [] (by simp) (by simp) with h | h
  · exfalso
    have : cn (keepN g [2] l) l.length [] ≠ 0 := cn_pos.2 ⟨List.replicate l.length 0, ext_mem 2 _ _ _ (by simp) (by simp) (by simp), by
      unfold keepN
      rw [Bool.not_eq_true', skp0_false]
      intro i j p q hi hij hj hp hpq hq
      unfold breaks
      have : ∀ i, (List.replicate l.length 0).getD i 0 = 0 := fun i => by
        by_cases hi : i < l.length <;> simp [List.getD, hi]
      rw [this, this, this, this]
      simp⟩
    exact this h
  · exact h
theorem half_pow (e : Nat) (he : e ≤ 60) : w64 (((2 ^ (e + 1) : Nat) : Int).tdiv 2) = ((2 ^ e : Nat) : Int) := by
  have : ((2 ^ (e + 1) : Nat) : Int).tdiv 2 = ((2 ^ (e + 1) / 2 : Nat) : Int) := rfl
  rw [this, Nat.pow_succ, Nat.mul_div_cancel _ (by decide)]
  exact w64_cast (Nat.lt_of_le_of_lt (Nat.pow_le_pow_right (by decide) he) (by decide))
theorem s_rank_loop : ∀ (e : Nat) (k : Int), -1 ≤ k → k + e ≤ 1000 → e ≤ 60 → loopL f_s_FreimanRank_r0 (k, ((2 ^ e : Nat) : Int)) = some (.one (k + e))
  | 0, k, _, _, _ => loopL_one (by simp [f_s_FreimanRank_r0, f_s_FreimanRank_k0, br_eq])
  | e + 1, k, h1, h2, h3 => by
    have hp := Nat.two_pow_pos e
    rw [loopL_again (s' := (k + 1, ((2 ^ e : Nat) : Int))) (by
      have d : decide (((2 ^ (e + 1) : Nat) : Int) > 1) = true := decide_eq_true (by rw [Nat.pow_succ]; omega)
      simp only [f_s_FreimanRank_r0, f_s_FreimanRank_k0, d, br_true, half_pow e (by omega), w64_in (show -9223372036854775808 ≤ k + 1 by omega) (by omega)])]
    rw [s_rank_loop e (k + 1) (by omega) (by omega) (by omega)]
    congr 2
    omega
theorem i_rank_loop : ∀ (e : Nat) (k : Int), -1 ≤ k → k + e ≤ 1000 → e ≤ 60 → loopL f_i_FreimanRank_r0 (((2 ^ e : Nat) : Int), k) = some (.one (k + e))
  | 0, k, _, _, _ => loopL_one (by
      have : ((((2 ^ 0 : Nat) : Int).tmod 2) == 0) = false := by decide
      simp only [f_i_FreimanRank_r0, f_i_FreimanRank_k0, this, br_false]
      simp)
  | e + 1, k, h1, h2, h3 => by
    have hp := Nat.two_pow_pos e
    rw [loopL_again (s' := (((2 ^ e : Nat) : Int), k + 1)) (by
      have d : ((((2 ^ (e + 1) : Nat) : Int).tmod 2) == 0) = true := by
        have : ((2 ^ (e + 1) : Nat) : Int).tmod 2 = ((2 ^ (e + 1) % 2 : Nat) : Int) := rfl
        rw [this, Nat.pow_succ, Nat.mul_mod_left]
        rfl
      simp only [f_i_FreimanRank_r0, f_i_FreimanRank_k0, d, br_true, half_pow e (by omega), w64_in (show -9223372036854775808 ≤ k + 1 by omega) (by omega)])]
    rw [i_rank_loop e (k + 1) (by omega) (by omega) (by omega)]
    congr 2
    omega
theorem cfm2 (G : List Int) (a : Int) : cfmR G [2] a = -1 ∨ ∃ e, e ≤ 60 ∧ cfmR G [2] a = ((2 ^ e : Nat) : Int) := by
  unfold cfmR
  cases hs : setG G a with
  | false => exact .inl rfl
  | true =>
    rw [if_pos rfl]
    split
    · rename_i hc
      have e2 : ([2] : List Int).map Int.toNat = [2] := rfl
      obtain ⟨e, he, hp⟩ := cntK_pow (G.map Int.toNat) (elems a.toNat)
      have h63 := elems_len a.toNat
      have h4 : (elems a.toNat).length ≤ 4 := by
        rw [elems_pop]
        simp only [Bool.and_eq_true, decide_eq_true_eq] at hc
        exact hc.2.2
      refine .inr ⟨e, by omega, ?_⟩
      rw [e2, hp]
      exact w64_cast (Nat.lt_of_le_of_lt (Nat.pow_le_pow_right (by decide) (show e ≤ 60 by omega)) (by decide))
    · exact .inl rfl
theorem FreimanRank_both (G L : List Int) (h : G.length ≤ lim) (hL : L.length ≤ lim) : ∃ r, f_s_FreimanRank (ints G) (ints L) = some r ∧ f_i_FreimanRank (ints G) (ints L) = some r := by
  simp only [f_s_FreimanRank, f_s_FreimanRank_k, f_i_FreimanRank, f_i_FreimanRank_k, s_SetOf_eq G L h hL, i_SetOf_eq G L h hL, bo_some]
  cases (setRes G L).2 with
  | false => exact ⟨_, rfl, rfl⟩
  | true =>
    obtain ⟨e1, e2⟩ := CountFreimanMaps_eq G [2] (setRes G L).1 h (by decide)
    have i2 : ints [2] = [Sc.n .i64 2] := rfl
    rw [i2] at e1 e2
    simp only [e1, e2, bo_some, Bool.not_true, br_false]
    rcases cfm2 G (setRes G L).1 with hm | ⟨e, he, hm⟩
    · rw [hm]
      have : loopL f_s_FreimanRank_r0 (-1, -1) = some (.one (-1)) := loopL_one (by simp [f_s_FreimanRank_r0, f_s_FreimanRank_k0, br_eq])
      rw [this]
      exact ⟨_, rfl, rfl⟩
    · rw [hm, s_rank_loop e (-1) (by omega) (by omega) he, i_rank_loop e 0 (by omega) (by omega) he]
      refine ⟨-1 + (e : Int), rfl, ?_⟩
      have d : decide (((2 ^ e : Nat) : Int) < 0) = false := neg_dec _
      rw [d, br_false, bl1_one, w64_in (by omega) (by omega)]
      congr 1
      omega
theorem FnExactFreimanRank_plain (x0 : List Int) (x1 : List Int) (w0 : All64 x0) (w1 : All64 x1) : f_l_FnExactFreimanRank (ints x0) (ints x1) = some true := by
  simp only [f_l_FnExactFreimanRank, f_l_FnExactFreimanRank_k, ints_length]
  by_cases h1 : x1.length ≤ 1048576
  · have d1 : decide ((x1.length : Int) > 1048576) = false := by simp; omega
    have hl1 := le_lim h1
    by_cases h : x0.length ≤ 1048576
    · obtain ⟨r, hr, hd⟩ := sz_gate h
      have hl := le_lim h
      obtain ⟨r2, e1, e2⟩ := FreimanRank_both x0 x1 hl hl1
      simp only [d1, hr, bo_some, hd, br_false, grOk_ints _ hl, br_true, toIntS_eq _ hl1, e1, e2, bne_self_eq_false, eqGroup_self _ hl, eqIntS_self _ hl1, Bool.not_true, BEq.rfl]
    · obtain ⟨r, hr, hd⟩ := sz_shut h w0.2
      simp only [d1, hr, bo_some, hd, br_true, br_false]
  · have d1 : decide ((x1.length : Int) > 1048576) = true := by simp; omega
    simp only [d1, br_true]
end Go.Proofs.Ytdlofeehgkijhaa
