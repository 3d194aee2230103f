/-
  PlainAT: ConvolveTables; FnEnergies.
-/
import Derived.Test.YtphbclogflflmaaPlainAS
import Derived.Test.YtphbclogflflmaaPlainW
import Derived.Test.YtphbclogflflmaaPlainAK
set_option linter.unusedVariables false
set_option linter.unusedSimpArgs false
namespace Go.Proofs.Ytphbclogflflmaa
open Go Ev

/-! ### Rows of integers -/
def rowI (N : Nat) (f : Nat → Int) : List Int := (List.range N).map f
theorem rowI_length (N : Nat) (f : Nat → Int) : (rowI N f).length = N := by simp [rowI]
theorem rowI_get {N : Nat} {f : Nat → Int} {k : Nat} (h : k < N) : (rowI N f).getD k 0 = f k := by simp [rowI, List.getD, h]
theorem rowI_set {N : Nat} {f : Nat → Int} {k : Nat} {y : Int} (h : k < N) : (rowI N f).set k y = rowI N (fun j => if j = k then y else f j) := by
  apply List.ext_getElem?
  intro i
  unfold rowI
  by_cases hi : i < N
  · by_cases e : k = i
    · subst e
      rw [List.getElem?_set_self (by simpa using hi)]
      simp [hi]
    · rw [List.getElem?_set_ne e]
      have e' : ¬ i = k := fun h => e h.symm
      simp [hi, e']
  · by_cases e : k = i
    · omega
    · rw [List.getElem?_set_ne e]
      simp [hi]
def cvF (g : List Nat) (x : Nat) (c : Nat → Int) (f : Nat → Int) (k : Nat) : Nat → Int := fun z => if z = addN g x k then w64 (f z + w64 (c k)) else f z
theorem cv_row {N : Nat} {g : List Nat} {x k : Nat} {c f : Nat → Int} (h : addN g x k < N) : (rowI N f).set (addN g x k) (w64 (f (addN g x k) + w64 (c k))) = rowI N (cvF g x c f k) := by
  rw [rowI_set h]
  unfold rowI
  apply List.map_congr_left
  intro j _
  unfold cvF
  by_cases e : j = addN g x k
  · rw [if_pos e, if_pos e, e]
  · rw [if_neg e, if_neg e]
def cvI (g : List Nat) (P Q : List Int) (f : Nat → Int) (i : Nat) : Nat → Int := (List.range (ordN g)).foldl (cvF g i fun k => P.getD i 0 * Q.getD k 0) f
def convN (g : List Nat) (P Q : List Int) : Nat → Int := (List.range (ordN g)).foldl (cvI g P Q) fun _ => 0
theorem foldl_range_succ {β : Type} (f : β → Nat → β) (t : β) (k : Nat) : (List.range (k + 1)).foldl f t = f ((List.range k).foldl f t) k := by
  rw [List.range_succ, List.foldl_append]
  rfl
theorem s_cv_inner {g : List Nat} (v : VG g) {P Q : List Int} (hP : P.length = ordN g) (hQ : Q.length = ordN g) {i : Nat} (hi : i < ordN g) (f : Nat → Int) :
    loopL (f_s_ConvolveTables_r2 (ints P) (ints Q) (ints (natsI g)) (i : Int)) (ints (rowI (ordN g) f), 0) = some (.one (ints (rowI (ordN g) (cvI g P Q f i)))) := by
  have h24 := v.ord
  have key := loop_count (rd := f_s_ConvolveTables_r2 (ints P) (ints Q) (ints (natsI g)) (i : Int)) (fun k => (ints (rowI (ordN g) ((List.range k).foldl (cvF g i fun k => P.getD i 0 * Q.getD k 0) f)), (k : Int))) (ordN g) (a := ints (rowI (ordN g) (cvI g P Q f i))) (fun k hk => by
    have hz := addN_lt v.each i k
    simp only [f_s_ConvolveTables_r2, f_s_ConvolveTables_k2, ints_length, hQ, lt_dec hk, br_true, s_l2Add_eq v (show i < 4611686018427387904 by omega) (show k < 4611686018427387904 by omega), bo_some, rowI_length, in_nat hz, Int.toNat_natCast, kAt_ints, ok_nat (show i < P.length by omega), ok_nat (show k < Q.length by omega), at_nat, atN_ints, rowI_get hz, ints_set, w64_nat (show k < 9223372036854775807 by omega), foldl_range_succ]
    rw [cv_row (c := fun k => P.getD i 0 * Q.getD k 0) hz]) (by
    simp only [f_s_ConvolveTables_r2, f_s_ConvolveTables_k2, ints_length, hQ, lt_dec_self, br_false]
    rfl) 0 (Nat.zero_le _)
  exact key
theorem s_cv_loop {g : List Nat} (v : VG g) {P Q : List Int} (hP : P.length = ordN g) (hQ : Q.length = ordN g) :
    loopL (f_s_ConvolveTables_r0 (ints P) (ints Q) (ints (natsI g))) (ints (rowI (ordN g) fun _ => 0), 0) = some (.one (ints (rowI (ordN g) (convN g P Q)), ((ordN g : Nat) : Int))) := by
  have h24 := v.ord
  have key := loop_count (rd := f_s_ConvolveTables_r0 (ints P) (ints Q) (ints (natsI g))) (fun k => (ints (rowI (ordN g) ((List.range k).foldl (cvI g P Q) fun _ => 0)), (k : Int))) (ordN g) (a := (ints (rowI (ordN g) (convN g P Q)), ((ordN g : Nat) : Int))) (fun k hk => by
    simp only [f_s_ConvolveTables_r0, f_s_ConvolveTables_k0, ints_length, hP, lt_dec hk, br_true, s_cv_inner v hP hQ hk, bl1_one, w64_nat (show k < 9223372036854775807 by omega), foldl_range_succ]) (by
    simp only [f_s_ConvolveTables_r0, f_s_ConvolveTables_k0, ints_length, hP, lt_dec_self, br_false]
    rfl) 0 (Nat.zero_le _)
  exact key
theorem i_cv_inner {g : List Nat} (v : VG g) {P Q : List Int} (hP : P.length = ordN g) (hQ : Q.length = ordN g) {i : Nat} (hi : i < ordN g) (f : Nat → Int) (t50 : List Sc) (t51 t52 : Int) :
    loopL (f_i_ConvolveTables_r4 (ints Q) (ints (natsI g)) (i : Int) (P.getD i 0) t50 t51 t52 (ints Q) ((ordN g : Nat) : Int)) (ints (rowI (ordN g) f), 0) = some (.one (ints (rowI (ordN g) (cvI g P Q f i)))) := by
  have h24 := v.ord
  have key := loop_count (rd := f_i_ConvolveTables_r4 (ints Q) (ints (natsI g)) (i : Int) (P.getD i 0) t50 t51 t52 (ints Q) ((ordN g : Nat) : Int)) (fun k => (ints (rowI (ordN g) ((List.range k).foldl (cvF g i fun k => P.getD i 0 * Q.getD k 0) f)), (k : Int))) (ordN g) (a := ints (rowI (ordN g) (cvI g P Q f i))) (fun k hk => by
    have hz := addN_lt v.each i k
    simp only [f_i_ConvolveTables_r4, f_i_ConvolveTables_k4, lt_dec hk, br_true, i_add_eq v (show i < 4611686018427387904 by omega) (show k < 4611686018427387904 by omega), bo_some, ints_length, rowI_length, in_nat hz, Int.toNat_natCast, kAt_ints, ok_nat (show k < Q.length by omega), at_nat, atN_ints, rowI_get hz, ints_set, w64_nat (show k < 9223372036854775807 by omega), foldl_range_succ]
    rw [cv_row (c := fun k => P.getD i 0 * Q.getD k 0) hz]) (by
    simp only [f_i_ConvolveTables_r4, f_i_ConvolveTables_k4, lt_dec_self, br_false]
    rfl) 0 (Nat.zero_le _)
  exact key
theorem i_cv_loop {g : List Nat} (v : VG g) {P Q : List Int} (hP : P.length = ordN g) (hQ : Q.length = ordN g) :
    loopL (f_i_ConvolveTables_r2 (ints Q) (ints (natsI g)) (ints P) ((ordN g : Nat) : Int)) (ints (rowI (ordN g) fun _ => 0), 0) = some (.one (ints (rowI (ordN g) (convN g P Q)), ((ordN g : Nat) : Int))) := by
  have h24 := v.ord
  have key := loop_count (rd := f_i_ConvolveTables_r2 (ints Q) (ints (natsI g)) (ints P) ((ordN g : Nat) : Int)) (fun k => (ints (rowI (ordN g) ((List.range k).foldl (cvI g P Q) fun _ => 0)), (k : Int))) (ordN g) (a := (ints (rowI (ordN g) (convN g P Q)), ((ordN g : Nat) : Int))) (fun k hk => by
    simp only [f_i_ConvolveTables_r2, f_i_ConvolveTables_k2, lt_dec hk, br_true, ok_nat (show k < P.length by omega), at_nat, ints_length, hQ, i_cv_inner v hP hQ hk, bl1_one, w64_nat (show k < 9223372036854775807 by omega), foldl_range_succ]) (by
    simp only [f_i_ConvolveTables_r2, f_i_ConvolveTables_k2, lt_dec_self, br_false]
    rfl) 0 (Nat.zero_le _)
  exact key
theorem rep_rowI (N : Nat) : ints (rowI N fun _ => 0) = List.replicate N (Sc.n .i64 0) := by
  unfold ints rowI
  rw [List.map_map, List.eq_replicate_iff]
  refine ⟨by simp, fun b hb => ?_⟩
  obtain ⟨k, _, rfl⟩ := List.mem_map.1 hb
  rfl
def inT (P : List Int) : Bool := P.all fun x => inB x (-10000) 10000
theorem inT_any (P : List Int) : (List.range P.length).any (fun k => !inB (P.getD k 0) (-10000) 10000) = !inT P := by
  unfold inT
  rw [range_any P (fun x => !inB x (-10000) 10000), List.not_all_eq_any_not]
theorem s_l8Table_eq (G P : List Int) (h : G.length ≤ lim) (hP : P.length ≤ lim) : f_s_l8Table (ints G) (ints P) = some (inT P && (isG G && ((P.length : Int) == prodW G))) := by
  have hl := lim_lt hP
  have key := loop_any (rd := f_s_l8Table_r0 (ints P) (ints G)) (fun k => (k : Int)) P.length (fun k => !inB (P.getD k 0) (-10000) 10000) (a := ()) (b := ()) (fun k hk => by
    simp only [f_s_l8Table_r0, f_s_l8Table_k0, ints_length, lt_dec hk, ok_nat hk, at_nat, br_true, s_l1In_eq, bo_some, w64_nat (show k < 9223372036854775807 by omega)]
    cases inB (P.getD k 0) (-10000) 10000 <;> rfl) (by
    simp only [f_s_l8Table_r0, f_s_l8Table_k0, ints_length, lt_dec_self, br_false])
  rw [inT_any] at key
  have key' : loopL (f_s_l8Table_r0 (ints P) (ints G)) 0 = if (!inT P) = true then some (.two ()) else some (.one ()) := key
  simp only [f_s_l8Table, f_s_l8Table_k, key', s_IsGroup_eq G h, s_l2Order_eq G h, bo_some, ints_length]
  cases inT P with
  | false => rfl
  | true =>
    cases isG G <;> rfl
/-- What ConvolveTables hands back. -/
def convR (G P Q : List Int) (R : List Int) : Prop := (R = [] ∧ (inT P && inT Q && (isG G && (((P.length : Int) == prodW G) && ((Q.length : Int) == prodW G)))) = false) ∨
  ∃ g, G = natsI g ∧ VG g ∧ P.length = ordN g ∧ Q.length = ordN g ∧ R = rowI (ordN g) (convN g P Q)
theorem Convolve_more (G P Q : List Int) (h : G.length ≤ lim) (hP : P.length ≤ 1000) (hQ : Q.length ≤ 1000) : ∃ R, f_s_ConvolveTables (ints G) (ints P) (ints Q) = some (ints R) ∧ f_i_ConvolveTables (ints G) (ints P) (ints Q) = some (ints R) ∧ convR G P Q R := by
  have hPl : P.length ≤ lim := Nat.le_trans hP (by decide)
  have hQl : Q.length ≤ lim := Nat.le_trans hQ (by decide)
  have c1 : decide (([] : List Sc).length + P.length ≤ lim) = true := decide_eq_true (by simpa using hPl)
  have c2 : decide (P.length + Q.length ≤ lim) = true := decide_eq_true (Nat.le_trans (show P.length + Q.length ≤ 2000 by omega) (by decide))
  have hlen : (P ++ Q).length = P.length + Q.length := List.length_append
  have iloop : loopL (f_i_ConvolveTables_r0 (ints P) (ints Q) (ints G) (ordG G) ((P ++ Q).length : Int)) (ints (P ++ Q), 0) = if (!inT (P ++ Q)) = true then some (.two []) else some (.one ()) := by
    have key := loop_any (rd := f_i_ConvolveTables_r0 (ints P) (ints Q) (ints G) (ordG G) ((P ++ Q).length : Int)) (fun k => (ints (P ++ Q), (k : Int))) (P ++ Q).length (fun k => !inB ((P ++ Q).getD k 0) (-10000) 10000) (a := ()) (b := ([] : List Sc)) (fun k hk => by
      simp only [f_i_ConvolveTables_r0, f_i_ConvolveTables_k0, lt_dec hk, br_true, ints_length, in_nat hk, Int.toNat_natCast, kAt_ints, atN_ints, i_within_eq, bo_some, w64_nat (show k < 9223372036854775807 by omega)]
      cases inB ((P ++ Q).getD k 0) (-10000) 10000 <;> rfl) (by
      simp only [f_i_ConvolveTables_r0, f_i_ConvolveTables_k0, lt_dec_self, br_false])
    rw [inT_any] at key
    exact key
  have hin : inT (P ++ Q) = (inT P && inT Q) := by unfold inT; rw [List.all_append]
  have lenE : ((ints P ++ ints Q).length : Int) = ((P ++ Q).length : Int) := by rw [ints_append, ints_length]
  by_cases hok : (inT P && inT Q && (isG G && (((P.length : Int) == prodW G) && ((Q.length : Int) == prodW G)))) = true
  · simp only [Bool.and_eq_true] at hok
    obtain ⟨⟨i1, i2⟩, hg, l1, l2⟩ := hok
    obtain ⟨g, rfl, v⟩ := nat_of_isG hg
    have ho := v.ordS
    rw [ho] at l1 l2
    have l1' : P.length = ordN g := by have := eq_of_beq l1; omega
    have l2' : Q.length = ordN g := by have := eq_of_beq l2; omega
    have h24 := v.ord
    have e5 : (decide (0 ≤ ((ordN g : Nat) : Int)) && (decide (((ordN g : Nat) : Int) ≤ ((ordN g : Nat) : Int)) && decide (((ordN g : Nat) : Int) ≤ (lim : Int)))) = true := by
      have : ordN g ≤ lim := Nat.le_trans h24 (by decide)
      simp
      omega
    refine ⟨rowI (ordN g) (convN g P Q), ?_, ?_, .inr ⟨g, rfl, v, l1', l2', rfl⟩⟩
    · have ls := s_cv_loop v l1' l2'
      rw [rep_rowI] at ls
      simp only [f_s_ConvolveTables, f_s_ConvolveTables_k, s_l8Table_eq _ _ h hPl, s_l8Table_eq _ _ h hQl, i1, i2, hg, ho, l1, l2, Bool.and_true, bo_some, Bool.not_true, BEq.rfl, br_true, br_false, ints_length, l1', e5, Int.toNat_natCast, ls, bl1_one]
    · have li := i_cv_loop v l1' l2'
      rw [rep_rowI] at li
      rw [hin, i1, i2, v.ordG] at iloop
      have iloop' : loopL (f_i_ConvolveTables_r0 (ints P) (ints Q) (ints (natsI g)) ((ordN g : Nat) : Int) ((P ++ Q).length : Int)) (ints (P ++ Q), 0) = some (.one ()) := by
        have := iloop
        simpa using this
      have hne1 : (((P.length : Nat) : Int) != ((ordN g : Nat) : Int)) = false := by rw [l1']; exact bne_self_eq_false _
      have hne2 : (((Q.length : Nat) : Int) != ((ordN g : Nat) : Int)) = false := by rw [l2']; exact bne_self_eq_false _
      simp only [f_i_ConvolveTables, f_i_ConvolveTables_k, f_i_copyInts, f_i_copyInts_k, i_OrderOf_eq _ h, v.ordG, ints_length, c1, br_true, List.nil_append, bo_some, c2, ints_append, iloop', bl_one, i_IsGroup_eq _ h, hg, Bool.not_true, BEq.rfl, hne1, hne2, br_false, e5, Int.toNat_natCast]
      rw [l1', li]
      rfl
  · have hok' : (inT P && inT Q && (isG G && (((P.length : Int) == prodW G) && ((Q.length : Int) == prodW G)))) = false := by simpa using hok
    refine ⟨[], ?_, ?_, .inl ⟨rfl, hok'⟩⟩
    · simp only [f_s_ConvolveTables, f_s_ConvolveTables_k, s_l8Table_eq _ _ h hPl, s_l8Table_eq _ _ h hQl, bo_some]
      revert hok'
      cases inT P <;> cases inT Q <;> cases isG G <;> cases ((P.length : Int) == prodW G) <;> cases ((Q.length : Int) == prodW G) <;> intro hok' <;> first | rfl | cases hok'
    · simp only [f_i_ConvolveTables, f_i_ConvolveTables_k, f_i_copyInts, f_i_copyInts_k, i_OrderOf_eq _ h, ints_length, c1, br_true, List.nil_append, bo_some, c2, ints_append, iloop, hin, i_IsGroup_eq _ h]
      cases hi : (inT P && inT Q) with
      | false => rfl
      | true =>
        rw [hi] at hok'
        cases hg : isG G with
        | false => rfl
        | true =>
          rw [hg] at hok'
          have ho : ordG G = prodW G := by unfold ordG; rw [if_pos hg]
          rw [ho]
          have hok2 : (((P.length : Int) == prodW G) && ((Q.length : Int) == prodW G)) = false := hok'
          cases h1 : ((P.length : Int) == prodW G) with
          | false =>
            have e : ((P.length : Int) != prodW G) = true := by show (!((P.length : Int) == prodW G)) = true; rw [h1]; rfl
            simp only [e]
            rfl
          | true =>
            rw [h1] at hok2
            have h2 : ((Q.length : Int) == prodW G) = false := hok2
            have e : ((P.length : Int) != prodW G) = false := by show (!((P.length : Int) == prodW G)) = false; rw [h1]; rfl
            have e2 : ((Q.length : Int) != prodW G) = true := by show (!((Q.length : Int) == prodW G)) = true; rw [h2]; rfl
            simp only [e, e2]
            rfl
/-! ### The table's sum -/
theorem w64_per (x n : Int) : w64 (x + 18446744073709551616 * n) = w64 x := by
  simp only [w64, IntKind.wrap_i64]
  omega
theorem w64_ex (a : Int) : ∃ m, w64 a = a + 18446744073709551616 * m := by
  refine ⟨-((a + 9223372036854775808) / 18446744073709551616), ?_⟩
  simp only [w64, IntKind.wrap_i64]
  omega
theorem w64_mul (a b : Int) : w64 (w64 a * w64 b) = w64 (a * b) := by
  obtain ⟨m, hm⟩ := w64_ex a
  obtain ⟨n, hn⟩ := w64_ex b
  rw [hm, hn]
  have e : (a + 18446744073709551616 * m) * (b + 18446744073709551616 * n) = a * b + 18446744073709551616 * (a * n + m * b + 18446744073709551616 * (m * n)) := by grind
  rw [e, w64_per]
theorem sumL_fold : ∀ (A : List Int) (s : Int), w64 s = s → A.foldl (fun s x => w64 (s + x)) s = w64 (s + A.sum)
  | [], s, h => by simp [h]
  | x :: A, s, h => by rw [List.foldl_cons, sumL_fold A _ (w64_idem _), w64_w64, List.sum_cons, Int.add_assoc]
theorem sumL_w (A : List Int) : sumL A = w64 A.sum := by
  have := sumL_fold A 0 (by decide)
  rw [Int.zero_add] at this
  exact this
theorem sumI_set (f : Nat → Int) (z0 : Nat) (y : Int) : ∀ n, ((List.range n).map fun z => if z = z0 then y else f z).sum = ((List.range n).map f).sum + (if z0 < n then y - f z0 else 0)
  | 0 => rfl
  | n + 1 => by
    rw [List.range_succ, List.map_append, List.map_append, List.sum_append, List.sum_append, sumI_set f z0 y n]
    simp only [List.map_cons, List.map_nil, List.sum_cons, List.sum_nil, Int.add_zero]
    by_cases h : n = z0
    · subst h
      rw [if_pos rfl, if_neg (Nat.lt_irrefl n), if_pos (Nat.lt_succ_self n)]
      omega
    · rw [if_neg h]
      by_cases h2 : z0 < n
      · rw [if_pos h2, if_pos (by omega)]; omega
      · rw [if_neg h2, if_neg (by omega)]; omega
def totI (N : Nat) (f : Nat → Int) : Int := ((List.range N).map f).sum
theorem tot_cv {g : List Nat} (v : VG g) (x : Nat) (c f : Nat → Int) (k : Nat) : w64 (totI (ordN g) (cvF g x c f k)) = w64 (totI (ordN g) f + c k) := by
  have hz := addN_lt v.each x k
  have e : totI (ordN g) (cvF g x c f k) = totI (ordN g) f + (w64 (f (addN g x k) + w64 (c k)) - f (addN g x k)) := by
    unfold totI
    have h := sumI_set f (addN g x k) (w64 (f (addN g x k) + w64 (c k))) (ordN g)
    rw [if_pos hz] at h
    rw [← h]
    congr 1
    apply List.map_congr_left
    intro z _
    unfold cvF
    by_cases hz : z = addN g x k
    · rw [if_pos hz, if_pos hz, hz]
    · rw [if_neg hz, if_neg hz]
  rw [e]
  simp only [w64, IntKind.wrap_i64]
  omega
theorem tot_fold {g : List Nat} (v : VG g) (x : Nat) (c : Nat → Int) (f : Nat → Int) : ∀ n, w64 (totI (ordN g) ((List.range n).foldl (cvF g x c) f)) = w64 (totI (ordN g) f + totI n c)
  | 0 => by simp [totI]
  | n + 1 => by
    have e : totI (n + 1) c = totI n c + c n := by unfold totI; rw [List.range_succ, List.map_append, List.sum_append]; simp
    rw [foldl_range_succ, tot_cv v, e, ← w64_w64, tot_fold v x c f n, w64_w64, Int.add_assoc]
theorem tot_fold2 {g : List Nat} (v : VG g) (P Q : List Int) (f : Nat → Int) : ∀ n, w64 (totI (ordN g) ((List.range n).foldl (cvI g P Q) f)) = w64 (totI (ordN g) f + totI n fun i => totI (ordN g) fun k => P.getD i 0 * Q.getD k 0)
  | 0 => by simp [totI]
  | n + 1 => by
    have e : ∀ c : Nat → Int, totI (n + 1) c = totI n c + c n := fun c => by unfold totI; rw [List.range_succ, List.map_append, List.sum_append]; simp
    rw [foldl_range_succ]
    unfold cvI
    rw [tot_fold v n (fun k => P.getD n 0 * Q.getD k 0) _ (ordN g), e, ← w64_w64]
    have ih := tot_fold2 v P Q f n
    unfold cvI at ih
    rw [ih, w64_w64, Int.add_assoc]
theorem totI_list (L : List Int) : totI L.length (fun k => L.getD k 0) = L.sum := by
  unfold totI
  congr 1
  apply List.ext_getElem?
  intro i
  by_cases hi : i < L.length
  · simp [hi, List.getD]
  · simp [hi]
theorem totI_mul (c : Int) (f : Nat → Int) : ∀ n, totI n (fun k => c * f k) = c * totI n f
  | 0 => by simp [totI]
  | n + 1 => by
    have e : ∀ c : Nat → Int, totI (n + 1) c = totI n c + c n := fun c => by unfold totI; rw [List.range_succ, List.map_append, List.sum_append]; simp
    rw [e, e, totI_mul c f n, Int.mul_add]
theorem totI_mul' (c : Int) (f : Nat → Int) (n : Nat) : totI n (fun k => f k * c) = totI n f * c := by
  have e : (fun k => f k * c) = fun k => c * f k := funext fun k => Int.mul_comm _ _
  rw [e, totI_mul, Int.mul_comm]
theorem conv_total {g : List Nat} (v : VG g) {P Q : List Int} (hP : P.length = ordN g) (hQ : Q.length = ordN g) : sumL (rowI (ordN g) (convN g P Q)) = w64 (sumL P * sumL Q) := by
  rw [sumL_w, sumL_w, sumL_w, w64_mul]
  have h := tot_fold2 v P Q (fun _ => 0) (ordN g)
  have e0 : totI (ordN g) (fun _ => 0) = 0 := by
    have := totI_mul 0 (fun _ => 0) (ordN g)
    simpa using this
  rw [e0, Int.zero_add] at h
  have e1 : (totI (ordN g) fun i => totI (ordN g) fun k => P.getD i 0 * Q.getD k 0) = P.sum * Q.sum := by
    have e2 : ∀ i, (totI (ordN g) fun k => P.getD i 0 * Q.getD k 0) = P.getD i 0 * Q.sum := fun i => by
      rw [totI_mul (P.getD i 0) (fun k => Q.getD k 0), ← hQ, totI_list]
    simp only [e2]
    rw [totI_mul' Q.sum (fun i => P.getD i 0), ← hP, totI_list]
  rw [e1] at h
  exact h
end Go.Proofs.Ytphbclogflflmaa
