/-
  PlainF: sums of sequences (IsZeroSum, SumOfSequence).
-/
import Derived.Test.YtdocbpiocinllaaPlainE
set_option linter.unusedVariables false
set_option linter.unusedSimpArgs false
namespace Go.Proofs.Ytdocbpiocinllaa
open Go Ev

/-- A loop over a list of natural numbers that folds; P holds at its head. -/
theorem loop_foldN {S T A B : Type} {rd : S → Option (Ro S A B)} (l : List Nat) (mk : T → Int → S) (f : T → Nat → T) (gg : T → A) (P : T → Prop) (t0 : T) (h0 : P t0)
    (h : ∀ (k : Nat) t, k < l.length → P t → rd (mk t (k : Int)) = some (.again (mk (f t (l.getD k 0)) ((k + 1 : Nat) : Int))))
    (hP : ∀ (k : Nat) t, k < l.length → P t → P (f t (l.getD k 0)))
    (he : ∀ t, P t → rd (mk t (l.length : Int)) = some (.one (gg t))) : loopL rd (mk t0 0) = some (.one (gg (l.foldl f t0))) ∧ P (l.foldl f t0) := by
  have step : ∀ k, k < l.length → (l.take (k + 1)).foldl f t0 = f ((l.take k).foldl f t0) (l.getD k 0) := by
    intro k hk
    rw [List.take_succ_eq_append_getElem hk, List.foldl_append]
    simp [List.getD, List.getElem?_eq_getElem hk]
  have inv : ∀ k, k ≤ l.length → P ((l.take k).foldl f t0) := by
    intro k
    induction k with
    | zero => intro _; exact h0
    | succ k ih => intro hk; rw [step k hk]; exact hP k _ hk (ih (by omega))
  have key := loop_count (rd := rd) (fun k => mk ((l.take k).foldl f t0) (k : Int)) l.length (a := gg (l.foldl f t0)) (fun k hk => by
    show rd (mk ((l.take k).foldl f t0) (k : Int)) = _
    rw [h k _ hk (inv k (by omega)), step k hk]) (by
      have := inv l.length (Nat.le_refl _)
      show rd (mk ((l.take l.length).foldl f t0) (l.length : Int)) = _
      rw [he _ this, List.take_length]) 0 (Nat.zero_le _)
  refine ⟨by simpa using key, ?_⟩
  have := inv l.length (Nat.le_refl _)
  rwa [List.take_length] at this

/-- A sequence: natural numbers below the order. -/
structure VS (g l : List Nat) : Prop where
  grp : VG g
  each : ∀ x ∈ l, x < ordN g
  len : l.length ≤ 12
theorem nats_of_has {G L : List Int} {g : List Nat} (hg : G = natsI g) (v : VG g) (h : L.any (fun x => !hasG G x) = false) : ∃ l, L = natsI l ∧ ∀ x ∈ l, x < ordN g := by
  rw [List.any_eq_false] at h
  have h' : ∀ x ∈ L, hasG (natsI g) x = true := fun x hx => by
    have := h x hx
    rw [hg] at this
    simpa using this
  refine ⟨L.map Int.toNat, ?_, fun n hn => ?_⟩
  · unfold natsI
    rw [List.map_map]
    conv => lhs; rw [← List.map_id L]
    refine List.map_congr_left fun x hx => ?_
    obtain ⟨n, rfl, _⟩ := (v.has x).1 (h' x hx)
    simp
  · obtain ⟨x, hx, rfl⟩ := List.mem_map.1 hn
    obtain ⟨n, rfl, hl⟩ := (v.has x).1 (h' x hx)
    simpa using hl
theorem nat_of_isSeq {G L : List Int} (h : isSeq G L = true) : ∃ g l, G = natsI g ∧ L = natsI l ∧ VS g l := by
  unfold isSeq at h
  simp only [Bool.and_eq_true, Bool.not_eq_true', decide_eq_true_eq] at h
  obtain ⟨h1, h2, h3, _⟩ := h
  obtain ⟨g, rfl, v⟩ := nat_of_isG h2
  obtain ⟨l, rfl, hl⟩ := nats_of_has rfl v h1
  exact ⟨g, l, rfl, rfl, v, hl, by simpa [natsI_length] using h3⟩
theorem VS.at {g l : List Nat} (v : VS g l) {k : Nat} (hk : k < l.length) : l.getD k 0 < ordN g := v.each _ (by simp [List.getD, List.getElem?_eq_getElem hk])
theorem ok_natsI {l : List Nat} {k : Nat} (h : k < l.length) : okAt (ints (natsI l)) (k : Int) = true := ok_nat (by rw [natsI_length]; exact h)
theorem at_natsI (l : List Nat) (k : Nat) : atI (ints (natsI l)) (k : Int) = ((l.getD k 0 : Nat) : Int) := by rw [at_nat, natsI_getD]

def totN (g l : List Nat) : Nat := l.foldl (addN g) 0
theorem totN_lt {g l : List Nat} (v : VG g) : totN g l < ordN g := by
  have key : ∀ (l : List Nat) (z : Nat), z < ordN g → l.foldl (addN g) z < ordN g := by
    intro l
    induction l with
    | nil => intro z hz; exact hz
    | cons x l ih => intro z hz; exact ih _ (addN_lt v.each z x)
  exact key l 0 (ordN_pos v.each)
theorem s_l16Sum_eq {g l : List Nat} (v : VG g) (hl : ∀ x ∈ l, x < ordN g) (hlen : l.length ≤ lim) : f_s_l16Sum (ints (natsI g)) (ints (natsI l)) = some ((totN g l : Nat) : Int) := by
  have h24 := v.ord
  have hll := lim_lt hlen
  have key := loop_foldN (rd := f_s_l16Sum_r0 (ints (natsI l)) (ints (natsI g))) l (fun (t : Nat) i => ((t : Int), i)) (addN g) (fun t => (t : Int)) (fun t => t < 24) 0 (by decide) (fun k t hk ht => by
    have hx : l.getD k 0 < ordN g := hl _ (by simp [List.getD, List.getElem?_eq_getElem hk])
    simp only [f_s_l16Sum_r0, f_s_l16Sum_k0, ints_length, natsI_length, lt_dec hk, ok_natsI hk, at_natsI, br_true, s_l2Add_eq v (by omega : t < 4611686018427387904) (by omega : l.getD k 0 < 4611686018427387904), bo_some, w64_nat (by omega : k < 9223372036854775807)])
    (fun k t hk ht => Nat.lt_of_lt_of_le (addN_lt v.each _ _) h24)
    (fun t ht => by simp only [f_s_l16Sum_r0, f_s_l16Sum_k0, ints_length, natsI_length, lt_dec_self, br_false])
  simp only [f_s_l16Sum, f_s_l16Sum_k]
  have := key.1
  rw [show ((0 : Nat) : Int) = 0 from rfl] at this
  rw [this, bl1_one]
  rfl
theorem i_total_eq {g l : List Nat} (v : VG g) (hl : ∀ x ∈ l, x < ordN g) (hlen : l.length ≤ lim) : f_i_Group_total (ints (natsI g)) (ints (natsI l)) = some ((totN g l : Nat) : Int) := by
  have h24 := v.ord
  have hll := lim_lt hlen
  have key := loop_foldN (rd := f_i_Group_total_r0 (ints (natsI g)) (ints (natsI l)) (l.length : Int)) l (fun (t : Nat) i => ((t : Int), i)) (addN g) (fun t => (t : Int)) (fun t => t < 24) 0 (by decide) (fun k t hk ht => by
    have hx : l.getD k 0 < ordN g := hl _ (by simp [List.getD, List.getElem?_eq_getElem hk])
    simp only [f_i_Group_total_r0, f_i_Group_total_k0, lt_dec hk, ok_natsI hk, at_natsI, br_true, i_add_eq v (by omega : t < 4611686018427387904) (by omega : l.getD k 0 < 4611686018427387904), bo_some, w64_nat (by omega : k < 9223372036854775807)])
    (fun k t hk ht => Nat.lt_of_lt_of_le (addN_lt v.each _ _) h24)
    (fun t ht => by simp only [f_i_Group_total_r0, f_i_Group_total_k0, lt_dec_self, br_false])
  simp only [f_i_Group_total, f_i_Group_total_k, ints_length, natsI_length]
  have := key.1
  rw [show ((0 : Nat) : Int) = 0 from rfl] at this
  rw [this, bl1_one]
  rfl
theorem VS.lim {g l : List Nat} (v : VS g l) : l.length ≤ Ev.lim := Nat.le_trans v.len (by decide)
theorem IsZeroSum_both (G L : List Int) (h : G.length ≤ lim) (hL : L.length ≤ lim) : ∃ r, f_s_IsZeroSum (ints G) (ints L) = some r ∧ f_i_IsZeroSum (ints G) (ints L) = some r := by
  simp only [f_s_IsZeroSum, f_s_IsZeroSum_k, f_i_IsZeroSum, f_i_IsZeroSum_k, s_IsSequence_eq G L h hL, i_IsSequence_eq G L h hL, bo_some]
  cases hs : isSeq G L with
  | false => exact ⟨_, rfl, rfl⟩
  | true =>
    obtain ⟨g, l, rfl, rfl, v⟩ := nat_of_isSeq hs
    simp only [s_l16Sum_eq v.grp v.each v.lim, i_total_eq v.grp v.each v.lim, bo_some]
    exact ⟨_, rfl, rfl⟩
end Go.Proofs.Ytdocbpiocinllaa
