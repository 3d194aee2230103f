/-
  PlainBS: the recursion of impl's factorizations goes through what spec's does.
-/
import Derived.Test.YtdocbpiocinllaaPlainBR
set_option linter.unusedVariables false
set_option linter.unusedSimpArgs false
namespace Go.Proofs.Ytdocbpiocinllaa
open Go Ev

theorem copy_eq {L : List Sc} (h : L.length ≤ lim) : f_i_copyInts L = some L := by
  simp only [f_i_copyInts, f_i_copyInts_k, List.nil_append, List.length_nil, Nat.zero_add, decide_eq_true h, br_true]
/-- The atoms of a list of places. -/
def pickA (A : List (List Int)) (ix : List Nat) : List (List Int) := ix.map fun j => A.getD j []
theorem lz_append (X Y : List (List Int)) : lz (X ++ Y) = lz X ++ lz Y := by simp [lz]
/-- What has been picked is written down. -/
theorem pick_loop {A : List (List Int)} (hA : AT A) (self : (Int × Int × List Sc × List Sc × List Sc × List Sc) → Option (List Sc × List Sc × List Sc)) {ix : List Nat} (hx : ∀ j ∈ ix, j < A.length) (hl : ix.length ≤ 1000) (v1 v4 : List Sc) :
    loopL (f_i_FactorizationsOf_2_r0 self (ints (natsI ix)) (ix.length : Int)) (lz A, v1, v4, [], 0) = some (.one (lz A, v1, v4, lz (pickA A ix))) := by
  have key := loop_count (rd := f_i_FactorizationsOf_2_r0 self (ints (natsI ix)) (ix.length : Int)) (fun k => (lz A, v1, v4, lz (pickA A (ix.take k)), (k : Int))) ix.length (a := (lz A, v1, v4, lz (pickA A ix))) (fun k hk => by
    have hj : ix.getD k 0 < A.length := hx _ (getD_mem hk)
    have ha := hA.le _ (getD_mem (d := []) hj)
    have e3 : ix.take (k + 1) = ix.take k ++ [ix.getD k 0] := by
      rw [List.take_succ_eq_append_getElem hk]
      simp [List.getD, hk]
    have e4 : (lz (pickA A (ix.take k))).length = k := by rw [lz_len, pickA, List.length_map, List.length_take]; omega
    simp only [f_i_FactorizationsOf_2_r0, f_i_FactorizationsOf_2_k0, lt_dec hk, br_true, ok_natsI hk, at_natsI, inRange_nat, lz_len, decide_eq_true hj, Int.toNat_natCast, lsN_lz, w64_nat (by omega : k < 9223372036854775807)]
    rw [copy_eq (by rw [ints_length]; unfold lim; omega), bo_some]
    rw [show decide ((pickA A (ix.take k)).length + [Sc.l (ints (A.getD (ix.getD k 0) []))].length ≤ lim) = true from decide_eq_true (by rw [← lz_len, e4]; simp only [List.length_cons, List.length_nil]; unfold lim; omega)]
    rw [br_true, e3]
    unfold pickA
    rw [List.map_append, lz_append]
    rfl)
    (by simp only [f_i_FactorizationsOf_2_r0, f_i_FactorizationsOf_2_k0, lt_dec_self, br_false, List.take_length]) 0 (Nat.zero_le _)
  have e0 : lz (pickA A []) = [] := rfl
  simp only [List.take_zero, e0] at key
  exact key
/-- The atoms' terms are numbers below N. -/
def AtIn (N : Nat) (A : List (List Int)) : Prop := ∀ a ∈ A, InR N a
theorem try_loop {A : List (List Int)} (hA : AT A) {N : Nat} (hN : AtIn N A) (self : (Int × Int × List Sc × List Sc × List Sc × List Sc) → Option (List Sc × List Sc × List Sc)) (n : Nat) {L : List Int} (hL : L.length ≤ 12) (h0 : L.length ≠ 0) {i : Nat} (hi : i ≤ A.length) {ix : List Nat} (hxl : ix.length ≤ 900) (T : List (List (List Int)))
    (hT : T.length + (facS A (n + 1) L i).length ≤ lim)
    (hs : ∀ (L' : List Int) (j : Nat) (T' : List (List (List Int))), L'.length < L.length → j < A.length → T'.length + (facS A n L' j).length ≤ lim →
      self ((j : Int), (L'.length : Int), ints (natsI (ix ++ [j])), lz A, encF T', ints (arr N (cntZ L'))) = some (lz A, encF (T' ++ (facS A n L' j).map fun f => pickA A (ix ++ [j]) ++ f), ints (arr N (cntZ L')))) :
    loopL (f_i_FactorizationsOf_2_r2 self (L.length : Int) (ints (natsI ix))) (lz A, encF T, ints (arr N (cntZ L)), (i : Int)) = some (.one (lz A, encF (T ++ (facS A (n + 1) L i).map fun f => pickA A ix ++ f), ints (arr N (cntZ L)))) := by
  have hA48 := hA.len
  rw [facS_succ, if_neg h0] at hT ⊢
  have key := loop_count (rd := f_i_FactorizationsOf_2_r2 self (L.length : Int) (ints (natsI ix))) (fun t => (lz A, encF (T ++ ((List.range' i t).flatMap (facG A n L)).map fun f => pickA A ix ++ f), ints (arr N (cntZ L)), ((i + t : Nat) : Int))) (A.length - i)
    (a := (lz A, encF (T ++ ((List.range' i (A.length - i)).flatMap (facG A n L)).map fun f => pickA A ix ++ f), ints (arr N (cntZ L)))) (fun t ht => by
    have hj : i + t < A.length := by omega
    have hmem := getD_mem (d := []) hj
    have ha := hA.le _ hmem
    have hpos := hA.pos _ hmem
    have hin := hN _ hmem
    simp only [f_i_FactorizationsOf_2_r2, f_i_FactorizationsOf_2_k2, lz_len, lt_dec hj, br_true, inRange_nat, decide_eq_true hj, Int.toNat_natCast, lsN_lz, w64_nat (by omega : i + t < 9223372036854775807)]
    rw [flat_succ]
    cases hm : minL L (A.getD (i + t) []) with
    | none =>
      have e : facG A n L (i + t) = [] := by unfold facG; rw [hm]
      obtain ⟨fl, hb⟩ := take_back (F := fun y => cntZ L y - ((A.getD (i + t) []).count (y : Int) : Nat)) (G := cntZ L) hin ha (fun y => by
        have h1 : L.count (y : Int) ≤ 12 := Nat.le_trans List.count_le_length hL
        have h2 : (A.getD (i + t) []).count (y : Int) ≤ 7 := Nat.le_trans List.count_le_length ha
        unfold cntZ
        omega) (fun y _ => by omega)
      rw [e, List.append_nil, take_not hin ha hL hm, bo_some]
      simp only [br_false]
      rw [hb, bo_some]
      rfl
    | some L' =>
      have e : facG A n L (i + t) = (facS A n L' (i + t)).map fun f => A.getD (i + t) [] :: f := by unfold facG; rw [hm]
      have hlen := minL_len hm
      have hc : ∀ x : Int, L.count x = (A.getD (i + t) []).count x + L'.count x := fun x => by rw [← (minL_some hm).count_eq x, List.count_append]
      have hb2 : (T ++ ((List.range' i t).flatMap (facG A n L)).map fun f => pickA A ix ++ f).length + (facS A n L' (i + t)).length ≤ lim := by
        have h1 := flat_le (F := facG A n L) i (t := t + 1) (m := A.length - i) (by omega)
        rw [flat_succ, List.length_append, e, List.length_map] at h1
        rw [List.length_append, List.length_map]
        omega
      obtain ⟨fl, hb⟩ := take_back (F := cntZ L') (G := cntZ L) hin ha (fun y => by
        have h1 : L'.count (y : Int) ≤ 12 := Nat.le_trans List.count_le_length (by omega)
        unfold cntZ
        omega) (fun y _ => by have := hc (y : Int); unfold cntZ; omega)
      rw [take_fits hin ha hL hm, bo_some]
      simp only [br_true]
      rw [copy_eq (by rw [ints_length, natsI_length]; unfold lim; omega), bo_some]
      rw [show decide ((ints (natsI ix)).length + [(Sc.n .i64 ((i + t : Nat) : Int))].length ≤ lim) = true from decide_eq_true (by rw [ints_length, natsI_length]; simp only [List.length_cons, List.length_nil]; unfold lim; omega), br_true]
      have e5 : w64 ((L.length : Int) - ((ints (A.getD (i + t) [])).length : Int)) = (L'.length : Int) := by
        rw [ints_length, w64_in (by omega) (by omega)]; omega
      have e6 : ints (natsI ix) ++ [(Sc.n .i64 ((i + t : Nat) : Int))] = ints (natsI (ix ++ [i + t])) := by simp [ints, natsI]
      rw [e5, e6, hs L' (i + t) _ (by omega) hj hb2, bo_some]
      simp only [lz_len, inRange_nat, decide_eq_true hj, br_true, lsN_lz, Int.toNat_natCast]
      rw [hb, bo_some, e]
      congr 4
      rw [List.map_append, List.map_map, ← List.append_assoc]
      congr 2
      unfold pickA
      apply List.map_congr_left
      intro f _
      simp)
    (by
      have e : i + (A.length - i) = A.length := by omega
      simp only [e, f_i_FactorizationsOf_2_r2, f_i_FactorizationsOf_2_k2, lz_len, lt_dec_self, br_false]) 0 (Nat.zero_le _)
  simp only [List.range'_zero, List.flatMap_nil, List.map_nil, List.append_nil, Nat.add_zero] at key
  exact key
theorem try_n {A : List (List Int)} (hA : AT A) {N : Nat} (hN : AtIn N A) : ∀ (n : Nat) (L : List Int) (i : Nat) (ix : List Nat) (T : List (List (List Int))), L.length < n → L.length ≤ 12 → i ≤ A.length → ix.length + n ≤ 900 → (∀ j ∈ ix, j < A.length) → T.length + (facS A n L i).length ≤ lim →
    f_i_FactorizationsOf_2_n n ((i : Int), (L.length : Int), ints (natsI ix), lz A, encF T, ints (arr N (cntZ L))) = some (lz A, encF (T ++ (facS A n L i).map fun f => pickA A ix ++ f), ints (arr N (cntZ L)))
  | 0, L, i, ix, T, h, _, _, _, _, _ => by omega
  | n + 1, L, i, ix, T, h, hL, hi, hn, hx, hT => by
    show f_i_FactorizationsOf_2_k (f_i_FactorizationsOf_2_n n) (i : Int) (L.length : Int) (ints (natsI ix)) (lz A) (encF T) (ints (arr N (cntZ L))) some = _
    unfold f_i_FactorizationsOf_2_k
    by_cases h0 : L.length = 0
    · have e0 : ((L.length : Int) == 0) = true := by rw [h0]; rfl
      have e1 : facS A (n + 1) L i = [[]] := by rw [facS_succ, if_pos h0]
      rw [e1] at hT ⊢
      have hl : (ints (natsI ix)).length = ix.length := by rw [ints_length, natsI_length]
      rw [e0, br_true, hl, pick_loop hA (f_i_FactorizationsOf_2_n n) hx (by omega) (encF T) _, bl1_one]
      simp only [List.map_cons, List.map_nil, List.append_nil]
      rw [show decide ((encF T).length + [Sc.l (lz (pickA A ix))].length ≤ lim) = true from decide_eq_true (by rw [encF_len]; simpa using hT), br_true, encF_append]
      rfl
    · have e0 : ((L.length : Int) == 0) = false := by simp; exact fun hh => h0 (by rw [hh]; rfl)
      rw [e0, br_false, try_loop hA hN (f_i_FactorizationsOf_2_n n) n hL h0 hi (by omega) T hT (fun L' j T' h1 h2 h3 => try_n hA hN n L' j (ix ++ [j]) T' (by omega) (by omega) (by omega) (by simp; omega) (fun j' hj' => by
        rcases List.mem_append.1 hj' with hj' | hj'
        · exact hx j' hj'
        · simp only [List.mem_singleton] at hj'; omega) h3), bl1_one]
theorem Try_eq {A : List (List Int)} (hA : AT A) {N : Nat} (hN : AtIn N A) {L : List Int} (hL : L.length ≤ 12) : f_i_FactorizationsOf_2 0 (L.length : Int) [] (lz A) [] (ints (arr N (cntZ L))) = some (lz A, encF (facS A 13 L 0), ints (arr N (cntZ L))) := by
  have h1 := facS_len hA 13 L 0
  have h2 : 7 ^ L.length ≤ 7 ^ 12 := Nat.pow_le_pow_right (by decide) hL
  have h3 : (7 : Nat) ^ 12 ≤ lim := by decide
  have := try_n hA hN 13 L 0 [] [] (by omega) hL (Nat.zero_le _) (by simp) (by simp) (by simp only [List.length_nil]; omega)
  have := (Ev.Le.lim (q := 13) f_i_FactorizationsOf_2_n_up (fun n a => Ev.Le.refl _)).of _ this
  have e1 : ([] ++ (facS A 13 L 0).map fun f => pickA A [] ++ f) = facS A 13 L 0 := by simp [pickA]
  rw [e1] at this
  exact this
end Go.Proofs.Ytdocbpiocinllaa
