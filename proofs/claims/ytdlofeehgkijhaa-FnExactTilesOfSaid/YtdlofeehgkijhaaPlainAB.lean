/-
  PlainAB: the search for tiles: FindTile.
-/
import Derived.Test.YtdlofeehgkijhaaPlainW
set_option linter.unusedVariables false
set_option linter.unusedSimpArgs false
namespace Go.Proofs.Ytdlofeehgkijhaa
open Go Ev

/-- The least number that is not in a set. -/
def fzN (u : Nat) : Nat := ((List.range 63).find? fun x => !u.testBit x).getD 0
theorem fz_spec {u n : Nat} (hn : n ≤ 24) (hu : u < 2 ^ n) (hne : u ≠ 2 ^ n - 1) : fzN u < n ∧ u.testBit (fzN u) = false ∧ ∀ y, y < fzN u → u.testBit y = true := by
  have hex : ∃ x, x < n ∧ u.testBit x = false := by
    false_or_by_contra
    rename_i hno
    apply hne
    apply Nat.eq_of_testBit_eq
    intro i
    rw [Nat.testBit_two_pow_sub_one]
    by_cases hi : i < n
    · rw [decide_eq_true hi]
      cases hb : u.testBit i with
      | true => rfl
      | false => exact absurd ⟨i, hi, hb⟩ hno
    · rw [decide_eq_false hi]
      exact Nat.testBit_lt_two_pow (Nat.lt_of_lt_of_le hu (Nat.pow_le_pow_right (by decide) (by omega)))
  obtain ⟨x, hx, hb⟩ := hex
  have hs : ((List.range 63).find? fun x => !u.testBit x).isSome = true := by
    rw [List.find?_isSome]
    exact ⟨x, List.mem_range.2 (by omega), by simp [hb]⟩
  obtain ⟨z, hz⟩ := Option.isSome_iff_exists.1 hs
  have e : fzN u = z := by unfold fzN; rw [hz]; rfl
  rw [e]
  rw [List.find?_range_eq_some] at hz
  obtain ⟨h1, h2, h3⟩ := hz
  refine ⟨?_, by simpa using h1, fun y hy => by simpa using h3 y hy⟩
  rcases Nat.lt_or_ge x z with h | h
  · have := h3 x h
    rw [hb] at this
    cases this
  · omega
def tilS (g : List Nat) (a : Nat) (F : Nat → Nat → List Nat) (u b l : Nat) : List Nat :=
  if shiftN g a (addN g (fzN u) (negN g l)) &&& u = 0 then F (u ||| shiftN g a (addN g (fzN u) (negN g l))) (b ||| 2 ^ addN g (fzN u) (negN g l)) else []
/-- All tiles that the search reaches, in its order. -/
def tilN (g : List Nat) (a : Nat) : Nat → Nat → Nat → List Nat
  | 0, _, _ => []
  | n + 1, u, b => if u = 2 ^ ordN g - 1 then [b] else (elems a).flatMap fun l => tilS g a (tilN g a n) u b l
theorem grow_or {u s : Nat} (h0 : s &&& u = 0) (hs : s ≠ 0) : u < u ||| s := by
  have hle : u ≤ u ||| s := Nat.left_le_or
  rcases Nat.lt_or_ge u (u ||| s) with h | h
  · exact h
  · exfalso
    have he : u ||| s = u := by omega
    apply hs
    apply Nat.eq_of_testBit_eq
    intro i
    have h1 : (u ||| s).testBit i = u.testBit i := by rw [he]
    have h2 : (s &&& u).testBit i = (0 : Nat).testBit i := by rw [h0]
    rw [Nat.testBit_or] at h1
    rw [Nat.testBit_and] at h2
    rw [Nat.zero_testBit] at h2 ⊢
    cases hb : s.testBit i with
    | false => rfl
    | true => rw [hb] at h1 h2; rw [Bool.or_true] at h1; rw [← h1] at h2; cases h2
theorem shift_ne {g : List Nat} {a : Nat} (ha : a ≠ 0) (ha' : a < 9223372036854775808) (y : Nat) : shiftN g a y ≠ 0 := by
  intro h
  apply ha
  apply Nat.eq_of_testBit_eq
  intro i
  rw [Nat.zero_testBit]
  cases hb : a.testBit i with
  | false => rfl
  | true =>
    have := shiftN_test g a y (addN g y i)
    rw [h, Nat.zero_testBit] at this
    have h2 : ((elems a).any fun z => decide (addN g y z = addN g y i)) = true := List.any_eq_true.2 ⟨i, (mem_elems ha').2 hb, decide_eq_true rfl⟩
    rw [h2] at this
    cases this
theorem take_more (A B out : List Nat) (m : Nat) : (out ++ A.take (m - out.length)) ++ B.take (m - (out ++ A.take (m - out.length)).length) = out ++ (A ++ B).take (m - out.length) := by
  rw [List.take_append, List.append_assoc, List.length_append, List.length_take]
  congr 3
  omega
theorem zdec (n : Nat) : ((n : Int) == 0) = decide (n = 0) := eq_nat_decM n 0
theorem flat_cons {E : List Nat} {k : Nat} (F : Nat → List Nat) (hk : k < E.length) : (E.drop k).flatMap F = F (E.getD k 0) ++ (E.drop (k + 1)).flatMap F := by
  rw [List.drop_eq_getElem_cons hk, List.flatMap_cons]
  simp [List.getD, List.getElem?_eq_getElem hk]
theorem l20_le : ∀ n a, Le (f_s_l20Search_n n a) (f_s_l20Search_n (n + 1) a)
  | 0, _ => Le.no
  | n + 1, a => by
    have ih := l20_le n
    simp only [f_s_l20Search_n, f_s_l20Search_k]
    refine Le.br Le.same (Le.bl1 (Le.loop fun s => ?_) fun e => Le.bo Le.same fun r => Le.bl1 (Le.loop fun s => ?_) fun e => Le.same)
    · simp only [f_s_l20Search_r0, f_s_l20Search_k0]
      exact Le.same
    · simp only [f_s_l20Search_r2, f_s_l20Search_k2]
      exact Le.br (Le.br (Le.br (Le.br (Le.bo Le.same fun r => Le.bo Le.same fun r => Le.bo Le.same fun r => Le.br (Le.br Le.same (Le.bo (ih _) fun r => Le.same)) Le.same) Le.same) Le.same) Le.same) Le.same
theorem tiles_le : ∀ n a, Le (f_i_tiles_1_n n a) (f_i_tiles_1_n (n + 1) a)
  | 0, _ => Le.no
  | n + 1, a => by
    have ih := tiles_le n
    simp only [f_i_tiles_1_n, f_i_tiles_1_k]
    refine Le.bo Le.same fun r => Le.br Le.same (Le.bl1 (Le.loop fun s => ?_) fun e => Le.bo Le.same fun r => Le.bl1 (Le.loop fun s => ?_) fun e => Le.same)
    · simp only [f_i_tiles_1_r0, f_i_tiles_1_k0]
      exact Le.same
    · simp only [f_i_tiles_1_r2, f_i_tiles_1_k2]
      exact Le.br (Le.br (Le.br (Le.bo Le.same fun r => Le.bo Le.same fun r => Le.br (Le.br (Le.br Le.same (Le.bo (ih _) fun r => Le.same)) Le.same) Le.same) Le.same) Le.same) Le.same
section
variable {g : List Nat} (v : VG g)
include v
theorem y_lt (u l : Nat) : addN g (fzN u) (negN g l) < ordN g := addN_lt v.each _ _
theorem and_test {s u : Nat} (hs : s < 2 ^ ordN g) (hu : u < 2 ^ ordN g) : (and64 (s : Int) (u : Int) == 0) = decide (s &&& u = 0) := by
  rw [and64_nat (set_i64 v hs) (set_i64 v hu), zdec]
theorem s_til_loop {a u b m n : Nat} (ha : a < 2 ^ ordN g) (ha0 : a ≠ 0) (hu : u < 2 ^ ordN g) (hb : b < 2 ^ ordN g) (hne : u ≠ 2 ^ ordN g - 1) (hm : m ≤ 1000)
    (ih : ∀ (u' b' m' : Nat), u < u' → u' < 2 ^ ordN g → b' < 2 ^ ordN g → 1 ≤ m' → m' ≤ 1000 → f_s_l20Search_n n (ints (natsI g), (a : Int), ((2 ^ ordN g - 1 : Nat) : Int), (u' : Int), (b' : Int), (m' : Int)) = some (ints (natsI ((tilN g a n u' b').take m')))) :
    ∀ (d k : Nat) (out : List Nat), k + d = (elems a).length → out.length ≤ m →
      loopL (f_s_l20Search_r2 (f_s_l20Search_n n) (a : Int) ((2 ^ ordN g - 1 : Nat) : Int) (u : Int) (b : Int) (m : Int) (ints (natsI g)) ((fzN u : Nat) : Int)) (ints (natsI out), ints (natsI (elems a)), (k : Int)) =
        some (.one (ints (natsI (out ++ (((elems a).drop k).flatMap fun l => tilS g a (tilN g a n) u b l).take (m - out.length)))))
  | 0, k, out, hk, ho => by
    have e : (elems a).drop k = [] := List.drop_eq_nil_of_le (by omega)
    rw [show k = (elems a).length by omega] at e ⊢
    rw [e]
    refine loopL_one ?_
    simp only [f_s_l20Search_r2, f_s_l20Search_k2, ints_length, natsI_length, lt_dec_self, br_eq]
    simp
  | d + 1, k, out, hk, ho => by
    have h24 := v.ord
    have hkl : k < (elems a).length := by omega
    have hel := elems_at ha hkl
    have h63 := elems_len a
    obtain ⟨f1, f2, f3⟩ := fz_spec h24 hu hne
    rw [flat_cons _ hkl]
    by_cases hlt : out.length < m
    · have hy := y_lt v u ((elems a).getD k 0)
      have hs := shiftN_lt v a (addN g (fzN u) (negN g ((elems a).getD k 0)))
      by_cases hz : shiftN g a (addN g (fzN u) (negN g ((elems a).getD k 0))) &&& u = 0
      · have hgr := grow_or hz (shift_ne ha0 (set_i64 v ha) _)
        have hih := ih (u ||| shiftN g a (addN g (fzN u) (negN g ((elems a).getD k 0)))) (b ||| 2 ^ addN g (fzN u) (negN g ((elems a).getD k 0))) (m - out.length) hgr (or_lt hu hs) (or_lt hb (two_pow_lt hy)) (by omega) (by omega)
        have hw : w64 ((m : Int) - (out.length : Int)) = ((m - out.length : Nat) : Int) := by rw [show (m : Int) - (out.length : Int) = ((m - out.length : Nat) : Int) by omega]; exact w64_cast (by omega)
        have et : tilS g a (tilN g a n) u b ((elems a).getD k 0) = tilN g a n (u ||| shiftN g a (addN g (fzN u) (negN g ((elems a).getD k 0)))) (b ||| 2 ^ addN g (fzN u) (negN g ((elems a).getD k 0))) := if_pos hz
        have cl : decide (out.length + ((tilN g a n (u ||| shiftN g a (addN g (fzN u) (negN g ((elems a).getD k 0)))) (b ||| 2 ^ addN g (fzN u) (negN g ((elems a).getD k 0)))).take (m - out.length)).length ≤ lim) = true := by
          rw [List.length_take]
          exact decide_eq_true (Nat.le_trans (show _ ≤ 2000 by omega) (by decide))
        have ap : ∀ A B : List Nat, ints (natsI A) ++ ints (natsI B) = ints (natsI (A ++ B)) := fun A B => by simp only [ints, natsI, List.map_append]
        rw [loopL_again (s' := (ints (natsI (out ++ (tilS g a (tilN g a n) u b ((elems a).getD k 0)).take (m - out.length))), ints (natsI (elems a)), ((k + 1 : Nat) : Int))) (by
          simp only [f_s_l20Search_r2, f_s_l20Search_k2, ints_length, natsI_length, lt_dec hkl, lt_dec hlt, in_nat hkl, Int.toNat_natCast, kAt_ints, atN_natsI, br_true, BEq.rfl, s_l2Negate_eq v (by omega : (elems a).getD k 0 < 4611686018427387904), bo_some,
            s_l2Add_eq v (by omega : fzN u < 4611686018427387904) (Nat.lt_trans (negN_lt v.each _) (by omega) : negN g ((elems a).getD k 0) < 4611686018427387904), s_l3Shift_eq v ha hy, and_test v hs hu, decide_eq_true hz, neg_dec, br_false, or_or v hu hs, or_pow v hb hy, hw, hih, cl, ap, et, w64_nat (by omega : k < 9223372036854775807)])]
        rw [s_til_loop ha ha0 hu hb hne hm ih d (k + 1) _ (by omega) (by rw [List.length_append, List.length_take]; omega), take_more]
      · have et : tilS g a (tilN g a n) u b ((elems a).getD k 0) = [] := if_neg hz
        rw [loopL_again (s' := (ints (natsI out), ints (natsI (elems a)), ((k + 1 : Nat) : Int))) (by
          simp only [f_s_l20Search_r2, f_s_l20Search_k2, ints_length, natsI_length, lt_dec hkl, lt_dec hlt, in_nat hkl, Int.toNat_natCast, kAt_ints, atN_natsI, br_true, BEq.rfl, s_l2Negate_eq v (by omega : (elems a).getD k 0 < 4611686018427387904), bo_some,
            s_l2Add_eq v (by omega : fzN u < 4611686018427387904) (Nat.lt_trans (negN_lt v.each _) (by omega) : negN g ((elems a).getD k 0) < 4611686018427387904), s_l3Shift_eq v ha hy, and_test v hs hu, decide_eq_false hz, br_false, w64_nat (by omega : k < 9223372036854775807)])]
        rw [s_til_loop ha ha0 hu hb hne hm ih d (k + 1) _ (by omega) ho, et, List.nil_append]
    · have e : m - out.length = 0 := by omega
      have hf : decide ((out.length : Int) < (m : Int)) = false := decide_eq_false (by omega)
      rw [e, List.take_zero, List.append_nil]
      refine loopL_one ?_
      simp only [f_s_l20Search_r2, f_s_l20Search_k2, ints_length, natsI_length, lt_dec hkl, hf, br_true, br_false, BEq.rfl]
theorem s_l20_fuel {a : Nat} (ha : a < 2 ^ ordN g) (ha0 : a ≠ 0) : ∀ (n u b m : Nat), u < 2 ^ ordN g → b < 2 ^ ordN g → 2 ^ ordN g ≤ n + u → 1 ≤ m → m ≤ 1000 →
    f_s_l20Search_n n (ints (natsI g), (a : Int), ((2 ^ ordN g - 1 : Nat) : Int), (u : Int), (b : Int), (m : Int)) = some (ints (natsI ((tilN g a n u b).take m)))
  | 0, u, b, m, hu, hb, hn, h1, h2 => by omega
  | n + 1, u, b, m, hu, hb, hn, h1, h2 => by
    have h24 := v.ord
    simp only [f_s_l20Search_n, f_s_l20Search_k]
    by_cases hf : u = 2 ^ ordN g - 1
    · have e : (((u : Nat) : Int) == ((2 ^ ordN g - 1 : Nat) : Int)) = true := by rw [eq_nat_decM, decide_eq_true hf]
      have et : tilN g a (n + 1) u b = [b] := if_pos hf
      rw [e, br_true, et, List.take_of_length_le (by simpa using h1)]
      rfl
    · have e : (((u : Nat) : Int) == ((2 ^ ordN g - 1 : Nat) : Int)) = false := by rw [eq_nat_decM, decide_eq_false hf]
      obtain ⟨f1, f2, f3⟩ := fz_spec h24 hu hf
      have k0 := loop_count (rd := f_s_l20Search_r0 (f_s_l20Search_n n) (a : Int) ((2 ^ ordN g - 1 : Nat) : Int) (u : Int) (b : Int) (m : Int) (ints (natsI g))) (fun k => (k : Int)) (fzN u) (a := ((fzN u : Nat) : Int)) (fun k hk => by
        simp only [f_s_l20Search_r0, f_s_l20Search_k0, neg_dec, br_false, bit_test (set_i64 v hu), f3 k hk, br_true, w64_nat (by omega : k < 9223372036854775807)]) (by
        simp only [f_s_l20Search_r0, f_s_l20Search_k0, neg_dec, br_false, bit_test (set_i64 v hu), f2]) 0 (Nat.zero_le _)
      have k0 : loopL (f_s_l20Search_r0 (f_s_l20Search_n n) (a : Int) ((2 ^ ordN g - 1 : Nat) : Int) (u : Int) (b : Int) (m : Int) (ints (natsI g))) 0 = some (.one ((fzN u : Nat) : Int)) := k0
      have k2 := s_til_loop v ha ha0 hu hb hf h2 (fun u' b' m' h1 h2 h3 h4 h5 => s_l20_fuel ha ha0 n u' b' m' h2 h3 (by omega) h4 h5) (elems a).length 0 [] (by omega) (by simp)
      have k2 : loopL (f_s_l20Search_r2 (f_s_l20Search_n n) (a : Int) ((2 ^ ordN g - 1 : Nat) : Int) (u : Int) (b : Int) (m : Int) (ints (natsI g)) ((fzN u : Nat) : Int)) ([], ints (natsI (elems a)), 0) = _ := k2
      have et : tilN g a (n + 1) u b = (elems a).flatMap fun l => tilS g a (tilN g a n) u b l := if_neg hf
      simp only [e, br_false, k0, bl1_one, s_l3List_eq (set_i64 v ha), bo_some, k2]
      rw [et, List.drop_zero, List.length_nil, Nat.sub_zero, List.nil_append]
theorem i_minus_eq {x y : Nat} (hx : x < ordN g) (hy : y < ordN g) : f_i_Group_minus (ints (natsI g)) (x : Int) (y : Int) = some ((addN g x (negN g y) : Nat) : Int) := by
  have h24 := v.ord
  simp only [f_i_Group_minus, f_i_Group_minus_k, i_negate_eq v (by omega : y < 4611686018427387904), bo_some, i_add_eq v (by omega : x < 4611686018427387904) (Nat.lt_trans (negN_lt v.each _) (by omega) : negN g y < 4611686018427387904)]
theorem i_full_eq : f_i_FullSet (ints (natsI g)) = some ((2 ^ ordN g - 1 : Nat) : Int) := by
  simp only [f_i_FullSet, f_i_FullSet_k, i_IsGroup_eq _ v.lim, i_OrderOf_eq _ v.lim, v.isG, v.ordG, bo_some, Bool.not_true, br_false, neg_dec, full_ord v]
theorem i_til_loop {a u b m n : Nat} (ha : a < 2 ^ ordN g) (ha0 : a ≠ 0) (hu : u < 2 ^ ordN g) (hb : b < 2 ^ ordN g) (hne : u ≠ 2 ^ ordN g - 1) (hm : m ≤ 1000)
    (ih : ∀ (u' b' : Nat) (out : List Nat), u < u' → u' < 2 ^ ordN g → b' < 2 ^ ordN g → out.length < m → f_i_tiles_1_n n ((b' : Int), (u' : Int), ints (natsI g), (a : Int), (m : Int), ints (natsI out), ints (natsI g), (a : Int), (m : Int)) = some (ints (natsI (out ++ (tilN g a n u' b').take (m - out.length))), ints (natsI g), (a : Int), (m : Int))) :
    ∀ (d k : Nat) (out : List Nat), k + d = (elems a).length → out.length ≤ m →
      loopL (f_i_tiles_1_r2 (f_i_tiles_1_n n) (b : Int) (u : Int) (ints (natsI g)) (a : Int) (m : Int) ((fzN u : Nat) : Int) ((elems a).length : Int)) (ints (natsI out), ints (natsI g), (a : Int), (m : Int), ints (natsI (elems a)), (k : Int)) =
        some (.one (ints (natsI (out ++ (((elems a).drop k).flatMap fun l => tilS g a (tilN g a n) u b l).take (m - out.length))), ints (natsI g), (a : Int), (m : Int)))
  | 0, k, out, hk, ho => by
    have e : (elems a).drop k = [] := List.drop_eq_nil_of_le (by omega)
    rw [show k = (elems a).length by omega] at e ⊢
    rw [e]
    refine loopL_one ?_
    simp only [f_i_tiles_1_r2, f_i_tiles_1_k2, lt_dec_self, br_false]
    simp
  | d + 1, k, out, hk, ho => by
    have h24 := v.ord
    have hkl : k < (elems a).length := by omega
    have hel := elems_at ha hkl
    have h63 := elems_len a
    obtain ⟨f1, f2, f3⟩ := fz_spec h24 hu hne
    have hy := y_lt v u ((elems a).getD k 0)
    have hs := shiftN_lt v a (addN g (fzN u) (negN g ((elems a).getD k 0)))
    rw [flat_cons _ hkl]
    by_cases hz : shiftN g a (addN g (fzN u) (negN g ((elems a).getD k 0))) &&& u = 0
    · by_cases hlt : out.length < m
      · have hgr := grow_or hz (shift_ne ha0 (set_i64 v ha) _)
        have hih := ih (u ||| shiftN g a (addN g (fzN u) (negN g ((elems a).getD k 0)))) (b ||| 2 ^ addN g (fzN u) (negN g ((elems a).getD k 0))) out hgr (or_lt hu hs) (or_lt hb (two_pow_lt hy)) hlt
        have et : tilS g a (tilN g a n) u b ((elems a).getD k 0) = tilN g a n (u ||| shiftN g a (addN g (fzN u) (negN g ((elems a).getD k 0)))) (b ||| 2 ^ addN g (fzN u) (negN g ((elems a).getD k 0))) := if_pos hz
        rw [loopL_again (s' := (ints (natsI (out ++ (tilS g a (tilN g a n) u b ((elems a).getD k 0)).take (m - out.length))), ints (natsI g), (a : Int), (m : Int), ints (natsI (elems a)), ((k + 1 : Nat) : Int))) (by
          simp only [f_i_tiles_1_r2, f_i_tiles_1_k2, ints_length, natsI_length, lt_dec hkl, lt_dec hlt, in_nat hkl, Int.toNat_natCast, kAt_ints, atN_natsI, br_true, BEq.rfl, i_minus_eq v f1 hel, bo_some, i_shift_eq v ha hy, and_test v hs hu, decide_eq_true hz, neg_dec, br_false, or_or v hu hs, or_pow v hb hy, hih, et, w64_nat (by omega : k < 9223372036854775807)])]
        rw [i_til_loop ha ha0 hu hb hne hm ih d (k + 1) _ (by omega) (by rw [List.length_append, List.length_take]; omega), take_more]
      · have e : m - out.length = 0 := by omega
        have hf : decide ((out.length : Int) < (m : Int)) = false := decide_eq_false (by omega)
        rw [loopL_again (s' := (ints (natsI out), ints (natsI g), (a : Int), (m : Int), ints (natsI (elems a)), ((k + 1 : Nat) : Int))) (by
          simp only [f_i_tiles_1_r2, f_i_tiles_1_k2, ints_length, natsI_length, lt_dec hkl, hf, in_nat hkl, Int.toNat_natCast, kAt_ints, atN_natsI, br_true, BEq.rfl, i_minus_eq v f1 hel, bo_some, i_shift_eq v ha hy, and_test v hs hu, decide_eq_true hz, br_false, w64_nat (by omega : k < 9223372036854775807)])]
        rw [i_til_loop ha ha0 hu hb hne hm ih d (k + 1) _ (by omega) ho, e, List.take_zero, List.take_zero]
    · have et : tilS g a (tilN g a n) u b ((elems a).getD k 0) = [] := if_neg hz
      rw [loopL_again (s' := (ints (natsI out), ints (natsI g), (a : Int), (m : Int), ints (natsI (elems a)), ((k + 1 : Nat) : Int))) (by
        have bf : (false == true) = false := rfl
        simp only [f_i_tiles_1_r2, f_i_tiles_1_k2, ints_length, natsI_length, lt_dec hkl, in_nat hkl, Int.toNat_natCast, kAt_ints, atN_natsI, br_true, i_minus_eq v f1 hel, bo_some, i_shift_eq v ha hy, and_test v hs hu, decide_eq_false hz, bf, br_false, w64_nat (by omega : k < 9223372036854775807)])]
      rw [i_til_loop ha ha0 hu hb hne hm ih d (k + 1) _ (by omega) ho, et, List.nil_append]
theorem i_tiles_fuel {a : Nat} (ha : a < 2 ^ ordN g) (ha0 : a ≠ 0) {m : Nat} (hm : m ≤ 1000) : ∀ (n u b : Nat) (out : List Nat), u < 2 ^ ordN g → b < 2 ^ ordN g → 2 ^ ordN g ≤ n + u → out.length < m →
    f_i_tiles_1_n n ((b : Int), (u : Int), ints (natsI g), (a : Int), (m : Int), ints (natsI out), ints (natsI g), (a : Int), (m : Int)) = some (ints (natsI (out ++ (tilN g a n u b).take (m - out.length))), ints (natsI g), (a : Int), (m : Int))
  | 0, u, b, out, hu, hb, hn, h1 => by omega
  | n + 1, u, b, out, hu, hb, hn, h1 => by
    have h24 := v.ord
    simp only [f_i_tiles_1_n, f_i_tiles_1_k, i_full_eq v, bo_some]
    by_cases hf : u = 2 ^ ordN g - 1
    · have e : (((u : Nat) : Int) == ((2 ^ ordN g - 1 : Nat) : Int)) = true := by rw [eq_nat_decM, decide_eq_true hf]
      have et : tilN g a (n + 1) u b = [b] := if_pos hf
      have cl : decide ((ints (natsI out)).length + [Sc.n .i64 (b : Int)].length ≤ lim) = true := by
        rw [ints_length, natsI_length]
        exact decide_eq_true (Nat.le_trans (show out.length + 1 ≤ 1000 by omega) (by decide))
      rw [e, br_true, et, List.take_of_length_le (by simp; omega), cl, br_true, ints_cast_snoc]
    · have e : (((u : Nat) : Int) == ((2 ^ ordN g - 1 : Nat) : Int)) = false := by rw [eq_nat_decM, decide_eq_false hf]
      obtain ⟨f1, f2, f3⟩ := fz_spec h24 hu hf
      have k0 := loop_count (rd := f_i_tiles_1_r0 (f_i_tiles_1_n n) (b : Int) (u : Int) (ints (natsI g)) (a : Int) (m : Int)) (fun k => (ints (natsI out), ints (natsI g), (a : Int), (m : Int), (k : Int))) (fzN u) (a := (ints (natsI out), ints (natsI g), (a : Int), (m : Int), ((fzN u : Nat) : Int))) (fun k hk => by
        simp only [f_i_tiles_1_r0, f_i_tiles_1_k0, i_in_eq (set_i64 v hu), bo_some, f3 k hk, br_true, w64_nat (by omega : k < 9223372036854775807)]) (by
        simp only [f_i_tiles_1_r0, f_i_tiles_1_k0, i_in_eq (set_i64 v hu), bo_some, f2, br_false]) 0 (Nat.zero_le _)
      have k0 : loopL (f_i_tiles_1_r0 (f_i_tiles_1_n n) (b : Int) (u : Int) (ints (natsI g)) (a : Int) (m : Int)) (ints (natsI out), ints (natsI g), (a : Int), (m : Int), 0) = _ := k0
      have k2 := i_til_loop v ha ha0 hu hb hf hm (fun u' b' out h1 h2 h3 h4 => i_tiles_fuel ha ha0 hm n u' b' out h2 h3 (by omega) h4) (elems a).length 0 out (by omega) (by omega)
      have k2 : loopL (f_i_tiles_1_r2 (f_i_tiles_1_n n) (b : Int) (u : Int) (ints (natsI g)) (a : Int) (m : Int) ((fzN u : Nat) : Int) ((elems a).length : Int)) (ints (natsI out), ints (natsI g), (a : Int), (m : Int), ints (natsI (elems a)), 0) = _ := k2
      have et : tilN g a (n + 1) u b = (elems a).flatMap fun l => tilS g a (tilN g a n) u b l := if_neg hf
      simp only [e, br_false, k0, bl1_one, i_members_eq (set_i64 v ha), bo_some, ints_length, natsI_length, k2]
      rw [et, List.drop_zero]
end
/-- The tiles with a set. -/
def tilesN (g : List Nat) (a : Nat) : List Nat := tilN g a (2 ^ ordN g) a 1
theorem s_tiles_all {g : List Nat} (v : VG g) {a m : Nat} (ha : a < 2 ^ ordN g) (ha0 : a ≠ 0) (h1 : 1 ≤ m) (h2 : m ≤ 1000) : f_s_l20Search (ints (natsI g)) (a : Int) ((2 ^ ordN g - 1 : Nat) : Int) (a : Int) 1 (m : Int) = some (ints (natsI ((tilesN g a).take m))) := by
  have h0 := ordN_pos v.each
  exact limF_le l20_le (s_l20_fuel v ha ha0 (2 ^ ordN g) a 1 m ha (Nat.one_lt_two_pow (by omega)) (by omega) h1 h2)
theorem i_tiles_all {g : List Nat} (v : VG g) {a m : Nat} (ha : a < 2 ^ ordN g) (ha0 : a ≠ 0) (h1 : 1 ≤ m) (h2 : m ≤ 1000) : f_i_tiles (ints (natsI g)) (a : Int) (m : Int) = some (ints (natsI ((tilesN g a).take m))) := by
  have h0 := ordN_pos v.each
  have := limF_le tiles_le (i_tiles_fuel v ha ha0 h2 (2 ^ ordN g) a 1 [] ha (Nat.one_lt_two_pow (by omega)) (by omega) (by rw [List.length_nil]; omega))
  have : f_i_tiles_1 1 (a : Int) (ints (natsI g)) (a : Int) (m : Int) [] (ints (natsI g)) (a : Int) (m : Int) = _ := this
  simp only [f_i_tiles, f_i_tiles_k, this, bo_some]
  rw [List.nil_append, List.length_nil, Nat.sub_zero]
  rfl
end Go.Proofs.Ytdlofeehgkijhaa
