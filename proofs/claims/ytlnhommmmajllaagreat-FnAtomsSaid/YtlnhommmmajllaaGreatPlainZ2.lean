/-
  The plain side, joined.
-/
import Derived.Test.YtlnhommmmajllaaGreatPlainZ1
set_option linter.unusedVariables false
set_option linter.unusedSimpArgs false
namespace Go.Proofs.YtlnhommmmajllaaGreat
open Go Ev
theorem sameI (L : List Int) (h : L.length ≤ lim) : fBt (ints L) (ints L) = some true := by
  have hl := lim_lt h
  have key := loop_count (rd := fBt_r0 (ints L) (ints L)) (fun k => (k : Int)) L.length (a := ()) (fun k hk => by
    simp only [fBt_r0, fBt_k0, ints_length, lt_dec hk, ok_nat hk, br_true, bne_self_eq_false, br_false, w64_nat (by omega : k < 9223372036854775807)])
    (by simp only [fBt_r0, fBt_k0, ints_length, lt_dec_self, br_false]) 0 (Nat.zero_le _)
  have key : loopL (fBt_r0 (ints L) (ints L)) 0 = some (.one ()) := key
  simp only [fBt, fBt_k, bne_self_eq_false, br_false, key, bl_one]
theorem sameZ (Z : List (List Int)) (hZ : Z.length < 9223372036854775807) (ha : ∀ a ∈ Z, a.length ≤ 7) : fBj (lz Z) (lz Z) = some true := by
  have := eq_loop ints (V := lz Z) (rd := fBj_r0 (lz Z) (lz Z)) (f := fBt) (fun i => rfl) Z rfl hZ (fun a h => sameI a (Nat.le_trans (ha a h) (by decide)))
  simp only [fBj, fBj_k, bne_self_eq_false, br_false, this, bl_one]
theorem has_mem {n : List Nat} {y : Nat} (h : y ∈ n) (hn : n.length ≤ 14) : fCy (ints (natsI n)) (y : Int) = some true := by
  have key := loop_any (rd := fCy_r0 (ints (natsI n)) (y : Int)) (fun k => (k : Int)) n.length (fun k => decide (n.getD k 0 = y)) (a := ()) (b := ()) (fun k hk => by
    simp only [fCy_r0, fCy_k0, ints_length, natsI_length, lt_dec hk, br_true, ok_natsI hk, at_natsI, eq_nat_decM, w64_nat (by omega : k < 9223372036854775807)]
    cases decide (n.getD k 0 = y) <;> rfl)
    (by simp only [fCy_r0, fCy_k0, ints_length, natsI_length, lt_dec_self, br_false])
  have hany : (List.range n.length).any (fun k => decide (n.getD k 0 = y)) = true := by
    obtain ⟨k, hk, e⟩ := List.getElem_of_mem h
    exact List.any_eq_true.2 ⟨k, List.mem_range.2 hk, decide_eq_true (by simp [List.getD, hk, e])⟩
  rw [hany] at key
  have key : loopL (fCy_r0 (ints (natsI n)) (y : Int)) 0 = some (.two ()) := key
  simp only [fCy, fCy_k, key, bl_two]
theorem SortS (G L : List Int) (h : G.length ≤ lim) (hL : L.length ≤ 12) : fAo (ints G) (ints L) = some (if isSeq G (insAllZ L) then (ints (insAllZ L), true) else ([], false)) := by
  have hlen : (insAllZ L).length = L.length := (insAllZ_perm L).length_eq
  have d1 : decide ((L.length : Int) > 12) = false := decide_eq_false (by omega)
  simp only [fAo, fAo_k, ints_length, d1, br_false, s_l16Sort_eq hL, bo_some, s_IsSequence_eq G (insAllZ L) h (by rw [hlen]; exact Nat.le_trans hL (by decide))]
  cases isSeq G (insAllZ L) <;> rfl
theorem sort_back {L M : List Int} (hs : L.Pairwise (· ≤ ·)) (hp : M.Perm L) : insAllZ M = L :=
  List.Perm.eq_of_pairwise (le := fun a b : Int => a ≤ b) (fun a b _ _ h1 h2 => by omega) (insAllZ_sorted M) hs ((insAllZ_perm M).trans hp)
theorem cat_loop (t0 t11 : List Sc) (v a b : List Sc) {fs : List (List (List Int))} {k : Nat} (hk : k < fs.length) (h13 : (fs.getD k []).length ≤ 13) (hsm : ∀ x ∈ fs.getD k [], x.length ≤ 7) :
    loopL (fCb_r4 t0 t11 (k : Int)) (v, a, encF fs, b, [], 0) = some (.one (v, a, encF fs, b, ints (fs.getD k []).flatten)) := by
  generalize hf : fs.getD k [] = f at *
  have lenle : ∀ j, (f.take j).flatten.length ≤ 7 * j := fun j => by
    induction j with
    | zero => simp
    | succ j ih =>
      by_cases hj : j < f.length
      · rw [List.take_succ_eq_append_getElem hj, List.flatten_append, List.length_append]
        have := hsm f[j] (List.getElem_mem hj)
        simp only [List.flatten_cons, List.flatten_nil, List.append_nil]
        omega
      · rw [List.take_of_length_le (by omega)]
        rw [List.take_of_length_le (by omega)] at ih
        omega
  have key := loop_count (rd := fCb_r4 t0 t11 (k : Int)) (fun j => (v, a, encF fs, b, ints (f.take j).flatten, (j : Int))) f.length (a := (v, a, encF fs, b, ints f.flatten)) (fun j hj => by
    have h1 := lenle j
    have e1 : f.getD j [] = f[j] := by simp [List.getD, hj]
    have h2 := hsm f[j] (List.getElem_mem hj)
    have hll : decide ((ints (f.take j).flatten).length + (ints f[j]).length ≤ lim) = true := decide_eq_true (by
      rw [ints_length, ints_length]
      exact Nat.le_trans (show _ ≤ 1000 by omega) (by decide))
    simp only [fCb_r4, fCb_k4, encF_len, inRange_nat, decide_eq_true hk, br_true, Int.toNat_natCast, lsN_encF, hf, lz_len, lt_dec hj, decide_eq_true hj, lsI_lz, e1, hll, w64_nat (by omega : j < 9223372036854775807)]
    rw [List.take_succ_eq_append_getElem hj, List.flatten_append, ints_app]
    simp)
    (by simp only [fCb_r4, fCb_k4, encF_len, inRange_nat, decide_eq_true hk, br_true, Int.toNat_natCast, lsN_encF, hf, lz_len, lt_dec_self, br_false, List.take_length]) 0 (Nat.zero_le _)
  exact key
theorem all_loop {G L : List Int} {fs : List (List (List Int))} {ok : Bool} {n : List Nat} {r t D : Nat} (F : Facts G L fs ok n r t D) (hG : G.length ≤ lim) (hL : L.length ≤ 12) (hs : L.Pairwise (· ≤ ·)) (t0 : List Sc) :
    loopL (fCb_r2 t0 (ints L)) (ints G, encF fs, encF fs, ints (natsI n), 0) = some (.one (ints G, encF fs, encF fs, ints (natsI n), (fs.length : Int))) := by
  have hlen := F.len
  have key := loop_count (rd := fCb_r2 t0 (ints L)) (fun k => (ints G, encF fs, encF fs, ints (natsI n), (k : Int))) fs.length (a := (ints G, encF fs, encF fs, ints (natsI n), (fs.length : Int))) (fun k hk => by
    have hf : fs.getD k [] ∈ fs := getD_mem hk
    have h13 := F.each _ hf
    have hsm := F.small _ hf
    have hp := F.perm _ hf
    have hq := F.seq fun hh => by rw [hh] at hk; exact absurd hk (by simp)
    have c1 := sameZ (fs.getD k []) (by omega) hsm
    have c2 := has_mem (F.mem _ hf) F.nlen
    have c3 := cat_loop t0 (ints L) (ints G) (encF fs) (ints (natsI n)) hk h13 hsm
    have c4 := SortS G (fs.getD k []).flatten hG (by rw [hp.length_eq]; exact hL)
    rw [sort_back hs hp, hq, if_pos rfl] at c4
    have c5 := sameI L (Nat.le_trans hL (by decide))
    simp only [fCb_r2, fCb_k2, encF_len, lt_dec hk, br_true, inRange_nat, decide_eq_true hk, Int.toNat_natCast, lsN_encF, c1, bo_some, Bool.not_true, BEq.rfl, lz_len, c2, br_false, c3, bl1_one, c4, c5, w64_nat (by omega : k < 9223372036854775807)])
    (by simp only [fCb_r2, fCb_k2, encF_len, lt_dec_self, br_false]) 0 (Nat.zero_le _)
  exact key
theorem le4 {n : Nat} (h : n ≤ 4) : n ≤ lim := Nat.le_trans h (by decide)
theorem le12 {n : Nat} (h : n ≤ 12) : n ≤ lim := Nat.le_trans h (by decide)
theorem FnAtoms_w41 {x0 : List Int} (hx : x0.length ≤ 1048576) {G L : List Int} {n : List Nat} (e : fBl (ints G) (ints L) = some (ints (natsI n))) (hn : n.length ≤ 14) : fCb_w41 (ints G) (bytesL x0) (ints L) (ints (natsI n)) = some true := by
  obtain ⟨A, B, d1, hA, hB⟩ := DrawIsAtom_ok hx
  obtain ⟨C, E, d2, hC, hE⟩ := DrawIsZeroSum_ok hx
  obtain ⟨H, m, d3, hH⟩ := DrawCountAtoms_ok hx
  obtain ⟨r1, q1, q2⟩ := IsAtom_both A B (le4 hA) (le12 hB)
  obtain ⟨r2, q3, q4⟩ := IsZeroSum_both C E (le4 hC) (le12 hE)
  obtain ⟨r3, q5, q6⟩ := CountAtoms_both H m (le4 hH)
  have q7 := sameI (natsI n) (by rw [natsI_length]; exact Nat.le_trans hn (by decide))
  simp only [fCb_w41, fCb_w41_k, d1, d2, d3, e, q1, q2, q3, q4, q5, q6, q7, bo_some, BEq.rfl, br_true]
theorem FnAtoms_w37 {x0 : List Int} (hx : x0.length ≤ 1048576) {G L : List Int} {fs : List (List (List Int))} {ok : Bool} {n : List Nat} {r t D : Nat} (F : Facts G L fs ok n r t D) : fCb_w37 (ints G) (bytesL x0) (ints L) (ints (natsI n)) = some true := by
  have w := FnAtoms_w41 hx F.s2 F.nlen
  have hrt := F.rt
  simp only [fCb_w37, fCb_w37_k, F.s3, F.i3, bo_some, bne_self_eq_false, BEq.rfl, br_true, w]
  by_cases ht : 0 < t
  · obtain ⟨h1, hD, eD, h2⟩ := F.el ht
    have c1 : decide ((t : Int) > 0) = true := decide_eq_true (by omega)
    have c2 : decide ((r : Int) < (t : Int)) = false := decide_eq_false (by omega)
    have c3 : (if (D : Int) > 2 then (D : Int) else 2) = ((max 2 D : Nat) : Int) := by
      by_cases hd : D > 2
      · rw [if_pos (by omega), Nat.max_eq_right (by omega)]
      · rw [if_neg (by omega), Nat.max_eq_left (by omega)]; rfl
    have hm : max 2 D * t ≤ 7 * 14 := Nat.mul_le_mul (by omega) (by omega)
    have c4 : w64 (((max 2 D : Nat) : Int) * (t : Int)) = ((max 2 D * t : Nat) : Int) := by
      rw [← Int.natCast_mul]
      exact w64_cast (by omega)
    have c5 : w64 (2 * (r : Int)) = ((2 * r : Nat) : Int) := by
      rw [show 2 * (r : Int) = ((2 * r : Nat) : Int) by omega]
      exact w64_cast (by omega)
    have c6 : decide (((2 * r : Nat) : Int) > ((max 2 D * t : Nat) : Int)) = false := decide_eq_false (by omega)
    simp only [c1, c2, eD, c3, c4, c5, c6, bo_some, BEq.rfl, br_true, br_false]
  · have c1 : decide ((t : Int) > 0) = false := decide_eq_false (by omega)
    simp only [c1, show (false == true) = false from rfl, br_false]
theorem FnAtoms_w23 {x0 : List Int} (hx : x0.length ≤ 1048576) {G L : List Int} {fs : List (List (List Int))} {ok : Bool} {n : List Nat} {r t D : Nat} (F : Facts G L fs ok n r t D) (hG : G.length ≤ lim) (hL : L.length ≤ 12) (hs : L.Pairwise (· ≤ ·)) :
    fCb_w23 (ints G) (bytesL x0) (ints L) (encF fs) (encF fs) = some true := by
  simp only [fCb_w23, fCb_w23_k, F.i2, bo_some, all_loop F hG hL hs, bl_one, FnAtoms_w37 hx F]
theorem FnAtoms_w18 {x0 : List Int} (hx : x0.length ≤ 1048576) : fCb_w18 (bytesL x0) = some true := by
  obtain ⟨G, L, d1, hG, hL, hs⟩ := DrawFactorizationsOf_ok hx
  obtain ⟨fs, ok, n, r, t, D, F⟩ := facts G L (le4 hG) (le12 hL)
  have w := FnAtoms_w23 hx F (le4 hG) hL hs
  simp only [fCb_w18, fCb_w18_k, d1, F.s1, F.i1, bo_some, BEq.rfl, Bool.not_true, br_true, bne_self_eq_false, w]
  cases ok with
  | false => rfl
  | true =>
    have h0 : ¬ ((encF fs).length : Int) = 0 := fun hh => F.ne rfl (List.eq_nil_of_length_eq_zero (by rw [encF_len] at hh; omega))
    rw [show (((encF fs).length : Int) == 0) = false from by simpa using h0]
    rfl
theorem FnAtoms_w16 {x0 : List Int} (hx : x0.length ≤ 1048576) {G : List Int} (hG : G.length ≤ lim) {c : Int} (hc : c = (List.range (lz (atomsA G)).length).foldl (cntF (lz (atomsA G)) 2) 0) : fCb_w16 (ints G) (bytesL x0) (smallG G) c = some true := by
  obtain ⟨r, _, e, hr⟩ := CountAtoms_val G 2 hG
  simp only [fCb_w16, fCb_w16_k, FnAtoms_w18 hx, bo_some]
  cases hs : smallG G with
  | false => rfl
  | true =>
    rw [← hc] at hr
    rw [BEq.rfl, br_true, e, bo_some, hr hs, bne_self_eq_false, br_false]
theorem FnAtoms_w8 {x0 : List Int} (hx : x0.length ≤ 1048576) {G : List Int} (hG : G.length ≤ lim) : fCb_w8 (ints G) (bytesL x0) (smallG G) (lz (atomsA G)) = some true := by
  have h48 := atomsA_len G
  have key := loop_count (rd := fCb_r0 (bytesL x0) (smallG G) (lz (atomsA G))) (fun k => (ints G, (List.range k).foldl (cntF (lz (atomsA G)) 2) 0, (k : Int))) (atomsA G).length (a := (ints G, (List.range (atomsA G).length).foldl (cntF (lz (atomsA G)) 2) 0)) (fun k hk => by
    have hs : smallG G = true := by
      cases hs : smallG G with
      | true => rfl
      | false => unfold atomsA at hk; rw [hs] at hk; exact absurd hk (by simp)
    obtain ⟨g, D, _, _, hD, eD, hA, _⟩ := atoms_facts hs
    have eA : atomsA G = atomsG G := by unfold atomsA; rw [if_pos hs]
    obtain ⟨_, a2, _, _, a5⟩ := hA ((atomsA G).getD k []) (by rw [← eA]; exact getD_mem hk)
    have e3 : ((lstOf ((lz (atomsA G)).getD k (.l []))).length : Int) = (((atomsA G).getD k []).length : Int) := by
      have := lsN_lz (atomsA G) k
      unfold lsN at this
      rw [this, ints_length]
    have c1 : decide ((((atomsA G).getD k []).length : Int) > (D : Int)) = false := decide_eq_false (by omega)
    rw [List.range_succ, List.foldl_append]
    simp only [List.foldl_cons, List.foldl_nil]
    generalize (List.range k).foldl (cntF (lz (atomsA G)) 2) 0 = c
    unfold cntF
    rw [e3]
    simp only [fCb_r0, fCb_k0, lz_len, lt_dec hk, br_true, inRange_nat, decide_eq_true hk, lsI_lz, a5, eD, bo_some, Bool.not_true, BEq.rfl, ints_length, c1, br_false, w64_nat (by omega : k < 9223372036854775807)]
    by_cases h2 : (((atomsA G).getD k []).length : Int) = 2
    · rw [if_pos h2, h2, BEq.rfl, br_true]
    · rw [if_neg h2, show ((((atomsA G).getD k []).length : Int) == 2) = false from by simpa using h2, br_false])
    (by simp only [fCb_r0, fCb_k0, lz_len, lt_dec_self, br_false]) 0 (Nat.zero_le _)
  have key : loopL (fCb_r0 (bytesL x0) (smallG G) (lz (atomsA G))) (ints G, 0, 0) = some (.one (ints G, (List.range (atomsA G).length).foldl (cntF (lz (atomsA G)) 2) 0)) := key
  have w := FnAtoms_w16 hx hG (c := (List.range (atomsA G).length).foldl (cntF (lz (atomsA G)) 2) 0) (by rw [lz_len])
  simp only [fCb_w8, fCb_w8_k, key, bl_one, w, bo_some]
theorem FnAtoms_w3 {x0 : List Int} (hx : x0.length ≤ 1048576) : fCb_w3 (bytesL x0) = some true := by
  obtain ⟨G, d1, hG⟩ := DrawAtomsOf_ok hx
  have h48 := atomsA_len G
  have q1 := sameZ (atomsA G) (by omega) (atomsA_sz G).2
  simp only [fCb_w3, fCb_w3_k, d1, i_AtomsOf_eq G (le4 hG), s_AtomsOf_eq G (le4 hG), q1, bo_some, BEq.rfl, Bool.not_true, br_true, br_false, FnAtoms_w8 hx (le4 hG)]
theorem FnAtoms_plain (x0 : List Int) (w0 : x0.length ≤ maxLen) : fCb (bytesL x0) = some true := by
  simp only [fCb, fCb_k, fCx, fCx_k, bytesL_len, bo_some]
  by_cases hb : (x0.length : Int) > 1048576
  · rw [decide_eq_true hb]
    rfl
  · rw [decide_eq_false hb]
    have hx : x0.length ≤ 1048576 := by omega
    simp only [br_false, FnAtoms_w3 hx, bo_some]
end Go.Proofs.YtlnhommmmajllaaGreat
