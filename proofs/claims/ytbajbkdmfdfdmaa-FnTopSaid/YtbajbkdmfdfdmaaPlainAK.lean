/-
  PlainAK: the draws from a row of bytes: what each hands back, as far as the laws need it.
-/
import Derived.Test.YtbajbkdmfdfdmaaVOpen
import Derived.Test.YtbajbkdmfdfdmaaPlainAJ
set_option linter.unusedVariables false
set_option linter.unusedSimpArgs false
namespace Go.Proofs.Ytbajbkdmfdfdmaa
open Go Ev

theorem okZ_bytes {x0 : List Int} {i : Int} (h0 : 0 ≤ i) (h : i < (x0.length : Int)) : okZ (.n .u8 0) (bytesL x0) i = true := by
  obtain ⟨k, rfl⟩ : ∃ k : Nat, i = k := ⟨i.toNat, by omega⟩
  have hk : k < x0.length := by omega
  have h1 : (bytesL x0).getD k (.n .u8 0) = .n .u8 (x0[k]) := by simp [bytesL, List.getD, hk]
  unfold okZ inRange
  rw [Int.toNat_natCast, h1]
  simp [bytesL, hk, sameKind]
theorem bytesL_len (x0 : List Int) : (bytesL x0).length = x0.length := by simp [bytesL]
theorem and255 (a : Int) : 0 ≤ and64 a 255 ∧ and64 a 255 ≤ 255 := by
  have e : (BitVec.ofInt 64 (255 : Int)).toNat = 255 := by decide
  have : (BitVec.ofInt 64 a &&& BitVec.ofInt 64 255).toNat = (BitVec.ofInt 64 a).toNat &&& 255 := by rw [BitVec.toNat_and, e]
  have e2 : and64 a 255 = w64 (((BitVec.ofInt 64 a).toNat &&& 255 : Nat) : Int) := by
    show IntKind.i64.wrap ((BitVec.ofInt 64 a &&& BitVec.ofInt 64 255).toNat : Int) = _
    rw [this]; rfl
  have hle : (BitVec.ofInt 64 a).toNat &&& 255 ≤ 255 := Nat.and_le_right
  rw [e2, w64_in (by omega) (by omega)]
  omega
/-- A place in the row of bytes. -/
structure Cur (x0 : List Int) (c : List Sc × Int × Int) : Prop where
  row : c.1 = bytesL x0
  low : 0 ≤ c.2.1
  len : x0.length ≤ 1048576
theorem l1New_ok {x0 : List Int} (hx : x0.length ≤ 1048576) : ∃ c, f_s_l1New (bytesL x0) = some c ∧ Cur x0 c := by
  let h0 : Int := w64 (10101 + ((bytesL x0).length : Int))
  let hk : Nat → Int := fun k => Nat.rec h0 (fun k h => and64 (w64 ((w64 ((w64 (h * 131)) + (w64 (sAt (bytesL x0) .u8 (k : Int))))) + 7)) 1073741823) k
  have key := loop_count (rd := f_s_l1New_r0 (bytesL x0)) (fun k => (hk k, (k : Int))) (min x0.length 4000) (a := hk (min x0.length 4000)) (fun k hk' => by
    have h1 : k < x0.length := by omega
    have h2 : decide ((k : Int) < ((bytesL x0).length : Int)) = true := by rw [bytesL_len]; exact lt_dec h1
    have h3 : decide ((k : Int) < 4000) = true := decide_eq_true (by omega)
    have h4 := okZ_bytes (x0 := x0) (i := (k : Int)) (by omega) (by omega)
    simp only [f_s_l1New_r0, f_s_l1New_k0, h2, h3, h4, br_true, BEq.rfl, w64_nat (show k < 9223372036854775807 by omega)]
    rfl) (by
    simp only [f_s_l1New_r0, f_s_l1New_k0]
    by_cases h : x0.length ≤ 4000
    · have h2 : decide (((min x0.length 4000 : Nat) : Int) < ((bytesL x0).length : Int)) = false := by rw [bytesL_len]; exact decide_eq_false (by omega)
      simp only [h2, br_false, show (false == true) = false from rfl]
    · have h2 : decide (((min x0.length 4000 : Nat) : Int) < ((bytesL x0).length : Int)) = true := by rw [bytesL_len]; exact decide_eq_true (by omega)
      have h3 : decide (((min x0.length 4000 : Nat) : Int) < 4000) = false := decide_eq_false (by omega)
      simp only [h2, h3, br_false, br_true, BEq.rfl]) 0 (Nat.zero_le _)
  refine ⟨(bytesL x0, 0, hk (min x0.length 4000)), ?_, rfl, by simp, hx⟩
  have key' : loopL (f_s_l1New_r0 (bytesL x0)) (w64 (10101 + ((bytesL x0).length : Int)), 0) = some (.one (hk (min x0.length 4000))) := key
  simp only [f_s_l1New, f_s_l1New_k, key', bl1_one]
theorem l1Byte_ok {x0 : List Int} {c : List Sc × Int × Int} (hc : Cur x0 c) : ∃ r c', f_s_l1Byte_io c.1 c.2.1 c.2.2 = some (r, c') ∧ Cur x0 c' ∧ 0 ≤ r ∧ r ≤ 255 := by
  obtain ⟨b, i, h⟩ := c
  obtain ⟨e, hl, hx⟩ := hc
  dsimp only at e hl ⊢
  subst e
  simp only [f_s_l1Byte_io, f_s_l1Byte_io_k]
  by_cases hi : i < (x0.length : Int)
  · have h2 : decide (i < ((bytesL x0).length : Int)) = true := by rw [bytesL_len]; exact decide_eq_true hi
    simp only [h2, okZ_bytes hl hi, br_true]
    refine ⟨_, _, rfl, ⟨rfl, ?_, hx⟩, and255 _⟩
    show 0 ≤ w64 (i + 1)
    rw [w64_in (by omega) (by omega)]
    omega
  · have h2 : decide (i < ((bytesL x0).length : Int)) = false := by rw [bytesL_len]; exact decide_eq_false hi
    simp only [h2, br_false]
    exact ⟨_, _, rfl, ⟨rfl, hl, hx⟩, and255 _⟩
theorem tmod_range {a n : Int} (ha : 0 ≤ a) (hn : 0 < n) : 0 ≤ a.tmod n ∧ a.tmod n < n := ⟨Int.tmod_nonneg n ha, Int.tmod_lt_of_pos a hn⟩
theorem l1Below_ok {x0 : List Int} {c : List Sc × Int × Int} (hc : Cur x0 c) (n : Int) (hn : n ≤ 256) : ∃ r c', f_s_l1Below_io n c.1 c.2.1 c.2.2 = some (r, c') ∧ Cur x0 c' ∧ 0 ≤ r ∧ (0 < n → r < n) ∧ (n ≤ 0 → r = 0) := by
  simp only [f_s_l1Below_io, f_s_l1Below_io_k]
  by_cases h0 : n ≤ 0
  · rw [decide_eq_true h0]
    exact ⟨0, c, rfl, hc, by omega, fun h => h, fun _ => rfl⟩
  · obtain ⟨r, c', e, h', hr⟩ := l1Byte_ok hc
    have hz : (n == 0) = false := beq_eq_false_iff_ne.2 (by omega)
    simp only [decide_eq_false h0, decide_eq_true hn, br_true, br_false, e, bo_some, hz]
    have := tmod_range hr.1 (show 0 < n by omega)
    exact ⟨_, _, rfl, h', this.1, fun _ => this.2, fun h => absurd h h0⟩
theorem l1Once_ok {x0 : List Int} {c : List Sc × Int × Int} (hc : Cur x0 c) (n : Int) (hn : n ≤ 256) : ∃ r c', f_s_l1Once_io n c.1 c.2.1 c.2.2 = some (r, c') ∧ Cur x0 c' := by
  obtain ⟨r, c', e, h', _⟩ := l1Below_ok hc n hn
  simp only [f_s_l1Once_io, f_s_l1Once_io_k, e, bo_some]
  exact ⟨_, _, rfl, h'⟩
theorem l1PickInt_ok {x0 : List Int} {c : List Sc × Int × Int} (hc : Cur x0 c) (L : List Int) (h1 : 0 < L.length) (h2 : L.length ≤ 256) : ∃ k c', f_s_l1PickInt_io (ints L) c.1 c.2.1 c.2.2 = some (L.getD k 0, c') ∧ Cur x0 c' ∧ k < L.length := by
  obtain ⟨r, c', e, h', h0, hr, _⟩ := l1Below_ok hc (L.length : Int) (by omega)
  obtain ⟨k, rfl⟩ : ∃ k : Nat, r = k := ⟨r.toNat, by omega⟩
  have hk : k < L.length := by have := hr (by omega); omega
  simp only [f_s_l1PickInt_io, f_s_l1PickInt_io_k, ints_length, e, bo_some, ok_nat hk, br_true, at_nat]
  exact ⟨k, _, rfl, h', hk⟩
/-- The orders that are drawn from. -/
def drawT : List (List Int) := [[], [2], [3], [4], [5], [6], [7], [8], [9], [10], [11], [12], [2, 2], [2, 4], [3, 3], [2, 6], [2, 2, 2], [13], [16], [4, 4], [2, 2, 3], [2, 3], [24]]
theorem drawT_lit : ([[], [(Sc.n .i64 2)], [(Sc.n .i64 3)], [(Sc.n .i64 4)], [(Sc.n .i64 5)], [(Sc.n .i64 6)], [(Sc.n .i64 7)], [(Sc.n .i64 8)], [(Sc.n .i64 9)], [(Sc.n .i64 10)], [(Sc.n .i64 11)], [(Sc.n .i64 12)], [(Sc.n .i64 2), (Sc.n .i64 2)], [(Sc.n .i64 2), (Sc.n .i64 4)], [(Sc.n .i64 3), (Sc.n .i64 3)], [(Sc.n .i64 2), (Sc.n .i64 6)], [(Sc.n .i64 2), (Sc.n .i64 2), (Sc.n .i64 2)], [(Sc.n .i64 13)], [(Sc.n .i64 16)], [(Sc.n .i64 4), (Sc.n .i64 4)], [(Sc.n .i64 2), (Sc.n .i64 2), (Sc.n .i64 3)], [(Sc.n .i64 2), (Sc.n .i64 3)], [(Sc.n .i64 24)]] : List (List Sc)) = drawT.map ints := rfl
theorem drawT_at {k : Nat} (h : k < 23) : (drawT.map ints).getD k [] = ints (drawT.getD k []) ∧ (drawT.getD k []).length ≤ 3 := by
  have : ∀ k : Fin 23, (drawT.getD k.1 []).length ≤ 3 := by decide
  refine ⟨?_, this ⟨k, h⟩⟩
  simp only [List.getD, List.getElem?_map]
  cases drawT[k]? <;> rfl
theorem l2Draw_ok {x0 : List Int} {c : List Sc × Int × Int} (hc : Cur x0 c) (most : Int) : ∃ G c', f_s_l2Draw_io most c.1 c.2.1 c.2.2 = some (ints G, c') ∧ Cur x0 c' ∧ (G ∈ drawT ∧ (prodW G ≤ most ∨ G = [5]) ∧ G.length ≤ 3) := by
  simp only [f_s_l2Draw_io, f_s_l2Draw_io_k, drawT_lit]
  obtain ⟨r, c', e, h', h0, hr, _⟩ := l1Below_ok hc ((drawT.map ints).length : Int) (by decide)
  have hlen : (drawT.map ints).length = 23 := rfl
  obtain ⟨k, rfl⟩ : ∃ k : Nat, r = k := ⟨r.toNat, by omega⟩
  have hk : k < 23 := by have := hr (by rw [hlen]; decide); rw [hlen] at this; omega
  have hin : inRange (k : Int) (drawT.map ints).length = true := by rw [hlen, inRange_nat]; simpa using hk
  obtain ⟨eG, hG⟩ := drawT_at hk
  obtain ⟨G, hGe⟩ : ∃ G, drawT.getD k [] = G := ⟨_, rfl⟩
  rw [hGe] at eG hG
  have hmem : G ∈ drawT := by
    rw [← hGe]
    have : k < drawT.length := hk
    rw [List.getD_eq_getElem?_getD, List.getElem?_eq_getElem this]
    exact List.getElem_mem this
  have hlim : G.length ≤ lim := Nat.le_trans hG (by decide)
  simp only [e, bo_some, hin, br_true, Int.toNat_natCast, eG]
  have key := loop_count (rd := f_s_l2Draw_io_r0 most (ints G)) (fun i => (c'.1, c'.2.1, c'.2.2, [], (G.take i).foldl (fun n o => w64 (n * o)) 1, (i : Int))) G.length (a := (c'.1, c'.2.1, c'.2.2, [], prodW G)) (fun i hi => by
    have e2 : (G.take (i + 1)).foldl (fun n o => w64 (n * o)) 1 = w64 ((G.take i).foldl (fun n o => w64 (n * o)) 1 * G.getD i 0) := by
      rw [List.take_succ_eq_append_getElem hi, List.foldl_append]
      simp [List.getD, List.getElem?_eq_getElem hi]
    simp only [f_s_l2Draw_io_r0, f_s_l2Draw_io_k0, ints_length, lt_dec hi, ok_nat hi, at_nat, br_true, w64_nat (show i < 9223372036854775807 by omega), e2]) (by
    simp only [f_s_l2Draw_io_r0, f_s_l2Draw_io_k0, ints_length, lt_dec_self, br_false, List.take_length, prodW]) 0 (Nat.zero_le _)
  have key' : loopL (f_s_l2Draw_io_r0 most (ints G)) (c'.1, c'.2.1, c'.2.2, [], 1, 0) = some (.one (c'.1, c'.2.1, c'.2.2, [], prodW G)) := key
  simp only [key', bl1_one]
  by_cases hm : prodW G > most
  · rw [decide_eq_true hm]
    exact ⟨[5], _, rfl, ⟨h'.row, h'.low, h'.len⟩, by decide, .inr rfl, by decide⟩
  · have hl : decide (([] : List Sc).length + (ints G).length ≤ lim) = true := decide_eq_true (by rw [ints_length]; simpa using hlim)
    simp only [decide_eq_false hm, br_false, hl, br_true, List.nil_append]
    exact ⟨G, _, rfl, ⟨h'.row, h'.low, h'.len⟩, hmem, .inl (by omega), hG⟩
theorem l2Any_ok {x0 : List Int} {c : List Sc × Int × Int} (hc : Cur x0 c) : ∃ G c', f_s_l2Any_io c.1 c.2.1 c.2.2 = some (ints G, c') ∧ Cur x0 c' ∧ G.length ≤ 4 := by
  obtain ⟨G, c1, e1, h1, _, _, hG⟩ := l2Draw_ok hc 24
  obtain ⟨r, c2, e2, h2, _⟩ := l1Below_ok h1 16 (by decide)
  have e3 := l1PickInt_ok h2 [0, 1, -1, 25, 9223372036854775807] (by decide) (by decide)
  obtain ⟨k, c3, e3, h3, _⟩ := e3
  have e3' : f_s_l1PickInt_io [(Sc.n .i64 0), (Sc.n .i64 1), (Sc.n .i64 (-1)), (Sc.n .i64 25), (Sc.n .i64 9223372036854775807)] c2.1 c2.2.1 c2.2.2 = _ := e3
  simp only [f_s_l2Any_io, f_s_l2Any_io_k, e1, bo_some, e2, e3']
  cases (r == 0) with
  | true => exact ⟨[_], _, rfl, ⟨h3.row, h3.low, h3.len⟩, by rw [List.length_singleton]; decide⟩
  | false =>
    cases (r == 1) with
    | true => exact ⟨[2, 2, 2, 2], _, rfl, ⟨h2.row, h2.low, h2.len⟩, by decide⟩
    | false =>
      cases (r == 2) with
      | true => exact ⟨[5, 5], _, rfl, ⟨h2.row, h2.low, h2.len⟩, by decide⟩
      | false => exact ⟨G, _, rfl, ⟨h2.row, h2.low, h2.len⟩, by omega⟩
theorem loop_ex {S A B : Type} {rd : S → Option (Ro S A B)} (P : Nat → S → Prop) (Q : A → Prop) (step : ∀ n s, P (n + 1) s → ∃ s', rd s = some (.again s') ∧ P n s')
    (last : ∀ s, P 0 s → ∃ a, rd s = some (.one a) ∧ Q a) : ∀ n s, P n s → ∃ a, loopL rd s = some (.one a) ∧ Q a
  | 0, s, h => by
    obtain ⟨a, e, q⟩ := last s h
    exact ⟨a, loopL_one e, q⟩
  | n + 1, s, h => by
    obtain ⟨s', e, h'⟩ := step n s h
    obtain ⟨a, e2, q⟩ := loop_ex P Q step last n s' h'
    exact ⟨a, by rw [loopL_again e, e2], q⟩
theorem sameInts_self (L : List Int) (h : L.length ≤ lim) : f_l_sameInts (ints L) (ints L) = some true := by
  have hl := lim_lt h
  have key := loop_count (rd := f_l_sameInts_r0 (ints L) (ints L)) (fun k => (k : Int)) L.length (a := ()) (fun k hk => by
    simp only [f_l_sameInts_r0, f_l_sameInts_k0, ints_length, lt_dec hk, ok_nat hk, br_true, bne_self_eq_false, br_false, w64_nat (by omega : k < 9223372036854775807)])
    (by simp only [f_l_sameInts_r0, f_l_sameInts_k0, ints_length, lt_dec_self, br_false]) 0 (Nat.zero_le _)
  simp only [f_l_sameInts, f_l_sameInts_k, bne_self_eq_false, br_false]
  rw [show ((0 : Int)) = ((0 : Nat) : Int) from rfl, key]
  rfl
end Go.Proofs.Ytbajbkdmfdfdmaa
