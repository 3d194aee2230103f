/-
  PlainBT: FactorizationsOf on both sides; the different lengths.
-/
import Derived.Test.YtdocbpiocinllaaPlainBS
set_option linter.unusedVariables false
set_option linter.unusedSimpArgs false
namespace Go.Proofs.Ytdocbpiocinllaa
open Go Ev

def okRow (x : List Int × List (List Int)) : Bool := x.2.all (fun a => decide (1 ≤ a.length) && (decide (a.length ≤ 7) && a.all fun y => decide (0 ≤ y) && decide (y < prodW x.1))) && (decide (x.2.length ≤ 48) && decide ((x.2.map wtA).sum ≤ 7 ^ 7))
theorem okRows : atomsT.all okRow = true := by kernel_rfl
theorem atomsG_row {G : List Int} (h : smallG G = true) : (G, atomsG G) ∈ atomsT := by
  have hin := small_in h
  unfold atomsG
  cases hf : atomsT.find? (fun x => decide (x.1 = G)) with
  | some x =>
    have h1 := List.find?_some hf
    have h2 : x.1 = G := by simpa using h1
    have h3 := List.mem_of_find?_eq_some hf
    subst h2
    exact h3
  | none =>
    rw [List.find?_eq_none] at hf
    obtain ⟨x, hx, rfl⟩ := List.mem_map.1 hin
    exact absurd (hf x hx) (by simp)
theorem atoms_AT {G : List Int} (h : smallG G = true) : AT (atomsG G) ∧ AtIn (prodW G).toNat (atomsG G) := by
  have := List.all_eq_true.1 okRows _ (atomsG_row h)
  simp only [okRow, Bool.and_eq_true, decide_eq_true_eq, List.all_eq_true] at this
  obtain ⟨h1, h2, h3⟩ := this
  refine ⟨⟨fun a ha => (h1 a ha).1, fun a ha => (h1 a ha).2.1, h2, h3⟩, fun a ha x hx => ?_⟩
  obtain ⟨h4, h5⟩ := (h1 a ha).2.2 x hx
  exact ⟨x.toNat, by omega, by omega⟩
theorem zs_seq {G L : List Int} (h : G.length ≤ lim) (hL : L.length ≤ lim) (hz : f_s_IsZeroSum (ints G) (ints L) = some true) : isSeq G L = true := by
  simp only [f_s_IsZeroSum, f_s_IsZeroSum_k, s_IsSequence_eq G L h hL, bo_some] at hz
  cases hs : isSeq G L with
  | true => rfl
  | false => rw [hs] at hz; cases hz
theorem cnt_loop {N : Nat} {L : List Int} (hin : InR N L) (hL : L.length ≤ 12) (v0 v1 : List Sc) : loopL (f_i_FactorizationsOf_r0 (ints L) (ints L) (L.length : Int)) (v0, v1, ints (arr N fun _ => 0), 0) = some (.one (v0, v1, ints (arr N (cntZ L)))) := by
  have key := loop_count (rd := f_i_FactorizationsOf_r0 (ints L) (ints L) (L.length : Int)) (fun k => (v0, v1, ints (arr N (cntZ (L.take k))), (k : Int))) L.length (a := (v0, v1, ints (arr N (cntZ L)))) (fun k hk => by
    obtain ⟨z, hz, hzN⟩ := hin _ (getD_mem (d := 0) hk)
    have e3 : L.take (k + 1) = L.take k ++ [L.getD k 0] := by
      rw [List.take_succ_eq_append_getElem hk]
      simp [List.getD, hk]
    have hb : (L.take k).count (z : Int) ≤ 12 := Nat.le_trans List.count_le_length (by rw [List.length_take]; omega)
    have hw : w64 (cntZ (L.take k) z + 1) = cntZ (L.take k) z + 1 := by unfold cntZ; exact w64_in (by omega) (by omega)
    simp only [f_i_FactorizationsOf_r0, f_i_FactorizationsOf_k0, lt_dec hk, br_true, ok_nat hk, at_nat, hz, inRange_nat, ints_length, arr_len, decide_eq_true hzN, kAt_ints, atN_ints, Int.toNat_natCast, arr_get _ hzN, hw, arr_set _ hzN, w64_nat (by omega : k < 9223372036854775807)]
    rw [e3, hz]
    rw [arr_congr (F := fun y => if y = z then cntZ (L.take k) z + 1 else cntZ (L.take k) y) (G := cntZ (L.take k ++ [(z : Int)])) fun y hy => by
      unfold cntZ
      rw [List.count_append, List.count_singleton]
      by_cases hyz : y = z
      · subst hyz; rw [if_pos rfl, if_pos (by simp)]; omega
      · rw [if_neg hyz, if_neg (by simp; omega)]; omega])
    (by simp only [f_i_FactorizationsOf_r0, f_i_FactorizationsOf_k0, lt_dec_self, br_false, List.take_length]) 0 (Nat.zero_le _)
  have e0 : arr N (cntZ (L.take 0)) = arr N fun _ => 0 := arr_congr fun y _ => by simp [cntZ]
  rw [e0] at key
  exact key
theorem rep_arr (N : Nat) : List.replicate N (Sc.n .i64 0) = ints (arr N fun _ => 0) := by
  unfold ints arr
  rw [List.map_map]
  apply List.ext_getElem?
  intro j
  by_cases hj : j < N
  · rw [List.getElem?_replicate, if_pos hj, List.getElem?_map, List.getElem?_range hj]; rfl
  · rw [List.getElem?_replicate, if_neg hj, List.getElem?_eq_none (by simp; omega)]
theorem facS_le {A : List (List Int)} (hA : AT A) : ∀ {n : Nat} {L : List Int} {i : Nat} {f : List (List Int)}, f ∈ facS A n L i → ∀ a ∈ f, a.length ≤ 7
  | 0, _, _, _, h => by simp [facS] at h
  | n + 1, L, i, f, h => by
    rw [facS_succ] at h
    split at h
    · simp only [List.mem_singleton] at h; subst h; intro a ha; cases ha
    · obtain ⟨j, hj, hf⟩ := List.mem_flatMap.1 h
      unfold facG at hf
      split at hf
      · obtain ⟨f', hf', rfl⟩ := List.mem_map.1 hf
        intro a ha
        rcases List.mem_cons.1 ha with rfl | ha
        · by_cases hjl : j < A.length
          · exact hA.le _ (getD_mem hjl)
          · have : A.getD j [] = [] := by simp [List.getD, hjl]
            rw [this]; exact Nat.zero_le _
        · exact facS_le hA hf' a ha
      · cases hf
theorem Factorizations_both2 (G L : List Int) (h : G.length ≤ lim) (hL : L.length ≤ lim) : ∃ (fs : List (List (List Int))) (ok : Bool), f_s_FactorizationsOf (ints G) (ints L) = some (encF fs, ok) ∧ f_i_FactorizationsOf (ints G) (ints L) = some (encF fs, ok) ∧ (ok = false → fs = []) ∧ fs.length ≤ 7 ^ 12 ∧ (∀ f ∈ fs, f.length ≤ 13) ∧ ∀ f ∈ fs, ∀ a ∈ f, a.length ≤ 7 := by
  have no : ∃ (fs : List (List (List Int))) (ok : Bool), some (([] : List Sc), false) = some (encF fs, ok) ∧ some (([] : List Sc), false) = some (encF fs, ok) ∧ (ok = false → fs = []) ∧ fs.length ≤ 7 ^ 12 ∧ (∀ f ∈ fs, f.length ≤ 13) ∧ ∀ f ∈ fs, ∀ a ∈ f, a.length ≤ 7 := ⟨[], false, rfl, rfl, fun _ => rfl, by simp, by simp, by simp⟩
  obtain ⟨z, z1, z2⟩ := IsZeroSum_both G L h hL
  unfold f_s_FactorizationsOf f_s_FactorizationsOf_k f_i_FactorizationsOf f_i_FactorizationsOf_k
  rw [s_AtomsOf_eq G h, i_AtomsOf_eq G h, bo_some, bo_some]
  cases hs : smallG G with
  | false => exact no
  | true =>
    rw [z1, z2, bo_some, bo_some]
    cases z with
    | false => exact no
    | true =>
      simp only [Bool.not_true, br_true, BEq.rfl, ints_length]
      by_cases h10 : L.length > 10
      · rw [show decide ((L.length : Int) > 10) = true from by simp; omega]
        exact no
      · rw [show decide ((L.length : Int) > 10) = false from by simp; omega]
        obtain ⟨hA, hN⟩ := atoms_AT hs
        have hAe : atomsA G = atomsG G := by unfold atomsA; rw [if_pos hs]
        have hg : isG G = true := by unfold smallG at hs; exact (Bool.and_eq_true _ _ ▸ hs).1
        have ho : ordG G = prodW G := by unfold ordG; rw [if_pos hg]
        have hr := ordG_range G
        rw [ho] at hr
        have hin : InR (prodW G).toNat L := by
          obtain ⟨g, l, rfl, rfl, v⟩ := nat_of_isSeq (zs_seq h hL z1)
          intro x hx
          unfold natsI at hx
          obtain ⟨y, hy, rfl⟩ := List.mem_map.1 hx
          refine ⟨y, rfl, ?_⟩
          have h1 := v.each y hy
          have h2 := v.grp.ordG
          rw [ho] at h2
          rw [h2]
          simpa using h1
        simp only [br_false, i_OrderOf_eq G h, bo_some, ho, hAe, Factor_eq hA (show L.length ≤ 12 by omega)]
        rw [show (decide (0 ≤ prodW G) && (decide (prodW G ≤ prodW G) && decide (prodW G ≤ (lim : Int)))) = true from by simp only [Bool.and_eq_true, decide_eq_true_eq]; unfold lim; omega, br_true, rep_arr, cnt_loop hin (by omega), bl1_one]
        simp only [Try_eq hA hN (show L.length ≤ 12 by omega), bo_some]
        refine ⟨facS (atomsG G) 13 L 0, true, rfl, rfl, fun hh => (by cases hh), ?_, fun f hf => facS_deep hf, fun f hf => facS_le hA hf⟩
        exact Nat.le_trans (facS_len hA 13 L 0) (Nat.pow_le_pow_right (by decide) (by omega))
theorem Factorizations_both (G L : List Int) (h : G.length ≤ lim) (hL : L.length ≤ lim) : ∃ (fs : List (List (List Int))) (ok : Bool), f_s_FactorizationsOf (ints G) (ints L) = some (encF fs, ok) ∧ f_i_FactorizationsOf (ints G) (ints L) = some (encF fs, ok) ∧ (ok = false → fs = []) ∧ fs.length ≤ 7 ^ 12 ∧ ∀ f ∈ fs, f.length ≤ 13 := by
  obtain ⟨fs, ok, h1, h2, h3, h4, h5, _⟩ := Factorizations_both2 G L h hL
  exact ⟨fs, ok, h1, h2, h3, h4, h5⟩
end Go.Proofs.Ytdocbpiocinllaa
