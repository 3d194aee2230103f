/-
  PlainL: greatest common divisors; DavenportBound.
-/
import Derived.Test.YtphbclogflflmaaPlainK
set_option linter.unusedVariables false
set_option linter.unusedSimpArgs false
namespace Go.Proofs.Ytphbclogflflmaa
open Go Ev

theorem gcd_next (x y : Nat) : Nat.gcd x y = Nat.gcd y (x % y) := by rw [Nat.gcd_comm x y, Nat.gcd_rec y x, Nat.gcd_comm]
theorem i_gcd_loop : ∀ (y x : Nat), loopL f_i_gcd_r0 ((x : Int), (y : Int)) = some (.one ((Nat.gcd x y : Nat) : Int)) := by
  intro y
  induction y using Nat.strongRecOn with
  | _ y ih =>
    intro x
    by_cases h : y = 0
    · subst h
      exact loopL_one (by simp only [f_i_gcd_r0, f_i_gcd_k0, ne_zero_dec, Nat.gcd_zero_right]; rfl)
    · have e0 : ((y : Int) == 0) = false := by
        have : ¬ ((y : Int) = 0) := by omega
        simpa using this
      have e1 : decide (y ≠ 0) = true := by simpa using h
      rw [loopL_again (s' := ((y : Int), ((x % y : Nat) : Int))) (by simp only [f_i_gcd_r0, f_i_gcd_k0, ne_zero_dec, e0, e1, br_true, br_false, tmod_nat]), ih (x % y) (Nat.mod_lt _ (by omega)) y, ← gcd_next]
theorem i_gcd_eq (x y : Nat) : f_i_gcd (x : Int) (y : Int) = some ((Nat.gcd x y : Nat) : Int) := by
  simp only [f_i_gcd, f_i_gcd_k, i_gcd_loop, bl1_one]
theorem s_gcd_loop : ∀ (y x : Nat), loopL f_s_l11Divisor_r0 ((x : Int), (y : Int)) = some (.one ((Nat.gcd x y : Nat) : Int)) := by
  intro y
  induction y using Nat.strongRecOn with
  | _ y ih =>
    intro x
    by_cases h : y = 0
    · subst h
      exact loopL_one (by simp only [f_s_l11Divisor_r0, f_s_l11Divisor_k0, Nat.gcd_zero_right]; rfl)
    · have e0 : ((y : Int) == 0) = false := by
        have : ¬ ((y : Int) = 0) := by omega
        simpa using this
      have e1 : decide ((y : Int) > 0) = true := by simp; omega
      rw [loopL_again (s' := ((y : Int), ((x % y : Nat) : Int))) (by simp only [f_s_l11Divisor_r0, f_s_l11Divisor_k0, e0, e1, br_true, br_false, tmod_nat]), ih (x % y) (Nat.mod_lt _ (by omega)) y, ← gcd_next]
theorem s_l11Divisor_eq (x y : Nat) : f_s_l11Divisor (x : Int) (y : Int) = some ((Nat.gcd x y : Nat) : Int) := by
  simp only [f_s_l11Divisor, f_s_l11Divisor_k, s_gcd_loop, bl1_one]

/-! ### All right groups -/
def upTo24 : List Nat := List.range' 2 23
def allG : List (List Nat) := [] :: (upTo24.map (fun a => [a]) ++ (upTo24.flatMap fun a => (upTo24.filter fun b => Nat.ble (a * b) 24).map fun b => [a, b]) ++
  (upTo24.flatMap fun a => (upTo24.filter fun b => Nat.ble (a * b) 24).flatMap fun b => (upTo24.filter fun c => Nat.ble (a * (b * c)) 24).map fun c => [a, b, c]))
theorem mem_upTo {n : Nat} (h : 2 ≤ n ∧ n ≤ 24) : n ∈ upTo24 := List.mem_range'_1.2 (by omega)
theorem VG.mem {g : List Nat} (v : VG g) : g ∈ allG := by
  obtain ⟨h1, h2, h3⟩ := v
  match g, h1, h2, h3 with
  | [], _, _, _ => exact List.mem_cons_self
  | [a], _, h2, _ =>
    refine List.mem_cons_of_mem _ (List.mem_append_left _ (List.mem_append_left _ ?_))
    exact List.mem_map.2 ⟨a, mem_upTo (h2 a (by simp)), rfl⟩
  | [a, b], _, h2, h3 =>
    simp only [ordN, Nat.mul_one] at h3
    refine List.mem_cons_of_mem _ (List.mem_append_left _ (List.mem_append_right _ ?_))
    exact List.mem_flatMap.2 ⟨a, mem_upTo (h2 a (by simp)), List.mem_map.2 ⟨b, List.mem_filter.2 ⟨mem_upTo (h2 b (by simp)), Nat.ble_eq_true_of_le h3⟩, rfl⟩⟩
  | [a, b, c], _, h2, h3 =>
    simp only [ordN, Nat.mul_one] at h3
    have hc := h2 c (by simp)
    have hab : a * b ≤ 24 := by
      have : a * b * 1 ≤ a * b * c := Nat.mul_le_mul_left _ (by omega)
      rw [Nat.mul_assoc a b c] at this
      omega
    refine List.mem_cons_of_mem _ (List.mem_append_right _ ?_)
    exact List.mem_flatMap.2 ⟨a, mem_upTo (h2 a (by simp)), List.mem_flatMap.2 ⟨b, List.mem_filter.2 ⟨mem_upTo (h2 b (by simp)), Nat.ble_eq_true_of_le hab⟩, List.mem_map.2 ⟨c, List.mem_filter.2 ⟨mem_upTo hc, Nat.ble_eq_true_of_le h3⟩, rfl⟩⟩⟩
  | _ :: _ :: _ :: _ :: _, h1, _, _ => simp at h1

/-! ### The chains of orders -/
def stepS (i : Nat) (L : List Nat) (k : Nat) : List Nat := (L.set i (Nat.gcd (L.getD i 0) (L.getD k 0))).set k (L.getD i 0 / Nat.gcd (L.getD i 0) (L.getD k 0) * L.getD k 0)
def stepI (i : Nat) (L : List Nat) (k : Nat) : List Nat := (L.set i (L.getD i 0 / Nat.gcd (L.getD i 0) (L.getD k 0) * L.getD k 0)).set k (Nat.gcd (L.getD i 0) (L.getD k 0))
def innD (st : Nat → List Nat → Nat → List Nat) (i j : Nat) (L : List Nat) : List Nat := (List.range' (i + 1) j).foldl (st i) L
def outD (st : Nat → List Nat → Nat → List Nat) (n i : Nat) (L : List Nat) : List Nat := (List.range i).foldl (fun L i => innD st i (n - (i + 1)) L) L
def goodD (n : Nat) (L : List Nat) : Bool := Nat.beq L.length n && L.all fun x => Nat.ble 1 x && Nat.ble x 24
def chkD (st : Nat → List Nat → Nat → List Nat) (g : List Nat) : Bool := (List.range (g.length + 1)).all fun i => (List.range (g.length + 1)).all fun j => goodD g.length (innD st i (min j (g.length - (i + 1))) (outD st g.length i g))
def sumD (L : List Nat) : Nat := L.foldl (fun n o => n + o - 1) 1
theorem allD : (allG.all fun g => chkD stepS g && (chkD stepI g && Nat.beq (sumD (outD stepS g.length g.length g)) (sumD (outD stepI g.length g.length g)))) = true := by decide +kernel
theorem goodD_spec {n : Nat} {L : List Nat} (h : goodD n L = true) : L.length = n ∧ ∀ k, k < n → 1 ≤ L.getD k 0 ∧ L.getD k 0 ≤ 24 := by
  unfold goodD at h
  rw [Bool.and_eq_true] at h
  have hl : L.length = n := Nat.eq_of_beq_eq_true h.1
  refine ⟨hl, fun k hk => ?_⟩
  have hk' : k < L.length := by omega
  have := List.all_eq_true.1 h.2 (L[k]) (List.getElem_mem hk')
  rw [Bool.and_eq_true] at this
  have e : L.getD k 0 = L[k] := by simp [List.getD, List.getElem?_eq_getElem hk']
  rw [e]
  exact ⟨Nat.le_of_ble_eq_true this.1, Nat.le_of_ble_eq_true this.2⟩
theorem chkD_spec {st : Nat → List Nat → Nat → List Nat} {g : List Nat} (h : chkD st g = true) {i j : Nat} (hi : i ≤ g.length) (hj : j ≤ g.length - (i + 1)) : goodD g.length (innD st i j (outD st g.length i g)) = true := by
  unfold chkD at h
  have h1 := List.all_eq_true.1 h i (List.mem_range.2 (by omega))
  have h2 := List.all_eq_true.1 h1 j (List.mem_range.2 (by omega))
  rwa [Nat.min_eq_left hj] at h2
theorem innD_succ (st : Nat → List Nat → Nat → List Nat) (i j : Nat) (L : List Nat) : innD st i (j + 1) L = st i (innD st i j L) (i + 1 + j) := by
  unfold innD
  rw [List.range'_concat, List.foldl_append]
  simp
theorem outD_succ (st : Nat → List Nat → Nat → List Nat) (n i : Nat) (L : List Nat) : outD st n (i + 1) L = innD st i (n - (i + 1)) (outD st n i L) := by
  unfold outD
  rw [List.range_succ, List.foldl_append]
  rfl
theorem quot24 {a b : Nat} (ha : 1 ≤ a ∧ a ≤ 24) (hb : 1 ≤ b ∧ b ≤ 24) : ((((Nat.gcd a b : Nat) : Int) == 0) = false) ∧ w64 (w64 ((a : Int).tdiv ((Nat.gcd a b : Nat) : Int)) * (b : Int)) = ((a / Nat.gcd a b * b : Nat) : Int) := by
  have hg : 0 < Nat.gcd a b := Nat.gcd_pos_of_pos_left b (by omega)
  have h1 : a / Nat.gcd a b ≤ 24 := Nat.le_trans (Nat.div_le_self _ _) ha.2
  have h2 : a / Nat.gcd a b * b ≤ 24 * 24 := Nat.mul_le_mul h1 hb.2
  constructor
  · have : ¬ (((Nat.gcd a b : Nat) : Int) = 0) := by omega
    simpa using this
  · rw [tdiv_nat, w64_cast (by omega), ← Int.natCast_mul, w64_cast (by omega)]
theorem ints_len_nat {L : List Nat} {n : Nat} (h : L.length = n) : (ints (natsI L)).length = n := by rw [ints_length, natsI_length, h]
theorem sumD_range (L : List Nat) (h : ∀ k, k < L.length → 1 ≤ L.getD k 0 ∧ L.getD k 0 ≤ 24) : 1 ≤ sumD L ∧ sumD L ≤ 1 + 24 * L.length := by
  have key : ∀ (L : List Nat) (n : Nat), 1 ≤ n → (∀ x ∈ L, 1 ≤ x ∧ x ≤ 24) → 1 ≤ L.foldl (fun n o => n + o - 1) n ∧ L.foldl (fun n o => n + o - 1) n ≤ n + 24 * L.length := by
    intro L
    induction L with
    | nil => intro n hn _; exact ⟨hn, Nat.le_refl _⟩
    | cons x L ih =>
      intro n hn h
      have hx := h x (by simp)
      have := ih (n + x - 1) (by omega) fun y hy => h y (by simp [hy])
      simp only [List.foldl_cons, List.length_cons]
      omega
  refine key L 1 (Nat.le_refl _) fun x hx => ?_
  obtain ⟨k, hk, rfl⟩ := List.getElem_of_mem hx
  have := h k hk
  simpa [List.getD, List.getElem?_eq_getElem hk] using this
theorem take_getD {L : List Nat} {j k : Nat} (h : j < k) : (L.take k).getD j 0 = L.getD j 0 := by
  simp [List.getD, List.getElem?_take, h]
theorem sumD_snoc {L : List Nat} {k : Nat} (h : k < L.length) : sumD (L.take (k + 1)) = sumD (L.take k) + L.getD k 0 - 1 := by
  unfold sumD
  rw [take_snoc L h, List.foldl_append]
  rfl
theorem s_dav2 {n i : Nat} {L : List Nat} (hn : n ≤ 3) (hi : i < n) (hg : ∀ j, j ≤ n - (i + 1) → goodD n (innD stepS i j L) = true) :
    loopL (f_s_DavenportBound_r2 (i : Int)) (ints (natsI L), ((i + 1 : Nat) : Int)) = some (.one (ints (natsI (innD stepS i (n - (i + 1)) L)))) := by
  have key := loop_count (rd := f_s_DavenportBound_r2 (i : Int)) (fun j => (ints (natsI (innD stepS i j L)), ((i + 1 + j : Nat) : Int))) (n - (i + 1)) (a := ints (natsI (innD stepS i (n - (i + 1)) L))) (fun j hj => by
      obtain ⟨hlen, hx⟩ := goodD_spec (hg j (by omega))
      have ha := hx i hi
      have hb := hx (i + 1 + j) (by omega)
      obtain ⟨q1, q2⟩ := quot24 ha hb
      have hk : i + 1 + j < n := by omega
      rw [innD_succ]
      generalize innD stepS i j L = M at *
      have el : ∀ y : Nat, (ints (natsI (M.set i y))).length = n := fun y => ints_len_nat (by rw [List.length_set]; exact hlen)
      simp only [f_s_DavenportBound_r2, f_s_DavenportBound_k2, ints_len_nat hlen, lt_dec hk, in_nat hi, in_nat hk, Int.toNat_natCast, kAt_ints, atN_natsI, s_l11Divisor_eq, bo_some, q1, q2, el, br_true, br_false, w64_nat (by omega : i + 1 + j < 9223372036854775807), ints_natsI_set]
      rfl)
    (by
      obtain ⟨hlen, _⟩ := goodD_spec (hg (n - (i + 1)) (Nat.le_refl _))
      have e : i + 1 + (n - (i + 1)) = n := by omega
      simp only [f_s_DavenportBound_r2, f_s_DavenportBound_k2, ints_len_nat hlen, e, lt_dec_self, br_false]) 0 (Nat.zero_le _)
  exact key
theorem s_DavenportBound_eq {g : List Nat} (v : VG g) (hc : chkD stepS g = true) : f_s_DavenportBound (ints (natsI g)) = some ((sumD (outD stepS g.length g.length g) : Nat) : Int) := by
  have h3 := v.len
  have key := loop_count (rd := f_s_DavenportBound_r0) (fun i => (ints (natsI (outD stepS g.length i g)), (i : Int))) g.length (a := (ints (natsI (outD stepS g.length g.length g)), (g.length : Int))) (fun i hi => by
      obtain ⟨hlen, _⟩ := goodD_spec (chkD_spec hc (i := i) (j := 0) (by omega) (by omega))
      have hlen' : (outD stepS g.length i g).length = g.length := hlen
      have e := s_dav2 (L := outD stepS g.length i g) h3 hi (fun j hj => chkD_spec hc (by omega) hj)
      rw [← outD_succ] at e
      simp only [f_s_DavenportBound_r0, f_s_DavenportBound_k0, ints_len_nat hlen', lt_dec hi, br_true, w64_nat (by omega : i < 9223372036854775807), e, bl1_one])
    (by
      obtain ⟨hlen, _⟩ := goodD_spec (chkD_spec hc (i := g.length) (j := 0) (Nat.le_refl _) (by omega))
      have hlen' : (outD stepS g.length g.length g).length = g.length := hlen
      simp only [f_s_DavenportBound_r0, f_s_DavenportBound_k0, ints_len_nat hlen', lt_dec_self, br_false]) 0 (Nat.zero_le _)
  obtain ⟨hlen, hx⟩ := goodD_spec (chkD_spec hc (i := g.length) (j := 0) (Nat.le_refl _) (by omega))
  have hlen' : (outD stepS g.length g.length g).length = g.length := hlen
  have hx' : ∀ k, k < g.length → 1 ≤ (outD stepS g.length g.length g).getD k 0 ∧ (outD stepS g.length g.length g).getD k 0 ≤ 24 := hx
  generalize outD stepS g.length g.length g = O at *
  have key2 := loop_count (rd := f_s_DavenportBound_r4) (fun k => (ints (natsI O), ((sumD (O.take k) : Nat) : Int), (k : Int))) O.length (a := ((sumD (O.take O.length) : Nat) : Int)) (fun k hk => by
      have hb := hx' k (by omega)
      have hs := sumD_range (O.take k) fun j hj => by
        have hj' : j < k := by simp at hj; omega
        have := hx' j (by omega)
        rwa [take_getD hj'] 
      have hlt : (O.take k).length ≤ 3 := by simp; omega
      have e : w64 (w64 (((sumD (O.take k) : Nat) : Int) + ((O.getD k 0 : Nat) : Int)) - 1) = ((sumD (O.take (k + 1)) : Nat) : Int) := by
        rw [sumD_snoc hk, ← Int.natCast_add, w64_cast (by omega), w64_in (by omega) (by omega)]
        omega
      simp only [f_s_DavenportBound_r4, f_s_DavenportBound_k4, ints_length, natsI_length, lt_dec hk, in_nat hk, Int.toNat_natCast, kAt_ints, atN_natsI, br_true, e, w64_nat (by omega : k < 9223372036854775807)])
    (by simp only [f_s_DavenportBound_r4, f_s_DavenportBound_k4, ints_length, natsI_length, lt_dec_self, br_false]) 0 (Nat.zero_le _)
  rw [List.take_length] at key2
  have e0 : ints (natsI (outD stepS g.length 0 g)) = [] ++ ints (natsI g) := rfl
  have e1 : ((sumD (O.take 0) : Nat) : Int) = 1 := rfl
  simp only [e0] at key
  simp only [e1] at key2
  rw [show ((0 : Nat) : Int) = 0 from rfl] at key key2
  have e2 : decide (([] : List Sc).length + (ints (natsI g)).length ≤ lim) = true := by
    rw [ints_length, natsI_length, decide_eq_true_eq]
    exact Nat.le_trans (by simp; omega : ([] : List Sc).length + g.length ≤ 3) (by decide)
  have hG := s_IsGroup_eq (natsI g) v.lim
  simp only [f_s_DavenportBound, f_s_DavenportBound_k, hG, v.isG, bo_some, Bool.not_true, br_false, e2, br_true, key, bl1_one, key2]
theorem i_dav2 {n i : Nat} {L : List Nat} (hn : n ≤ 3) (hi : i < n) (hg : ∀ j, j ≤ n - (i + 1) → goodD n (innD stepI i j L) = true) :
    ∀ x y : Int, loopL (f_i_DavenportBound_r2 (i : Int) x y) (ints (natsI L), ((i + 1 : Nat) : Int)) = some (.one (ints (natsI (innD stepI i (n - (i + 1)) L)))) := by
  intro x y
  have key := loop_count (rd := f_i_DavenportBound_r2 (i : Int) x y) (fun j => (ints (natsI (innD stepI i j L)), ((i + 1 + j : Nat) : Int))) (n - (i + 1)) (a := ints (natsI (innD stepI i (n - (i + 1)) L))) (fun j hj => by
      obtain ⟨hlen, hx⟩ := goodD_spec (hg j (by omega))
      have ha := hx i hi
      have hb := hx (i + 1 + j) (by omega)
      obtain ⟨q1, q2⟩ := quot24 ha hb
      have hk : i + 1 + j < n := by omega
      rw [innD_succ]
      generalize innD stepI i j L = M at *
      have el : ∀ y : Nat, (ints (natsI (M.set i y))).length = n := fun y => ints_len_nat (by rw [List.length_set]; exact hlen)
      simp only [f_i_DavenportBound_r2, f_i_DavenportBound_k2, ints_len_nat hlen, lt_dec hk, in_nat hi, in_nat hk, Int.toNat_natCast, kAt_ints, atN_natsI, i_gcd_eq, bo_some, q1, q2, el, br_true, br_false, w64_nat (by omega : i + 1 + j < 9223372036854775807), ints_natsI_set]
      rfl)
    (by
      obtain ⟨hlen, _⟩ := goodD_spec (hg (n - (i + 1)) (Nat.le_refl _))
      have e : i + 1 + (n - (i + 1)) = n := by omega
      simp only [f_i_DavenportBound_r2, f_i_DavenportBound_k2, ints_len_nat hlen, e, lt_dec_self, br_false]) 0 (Nat.zero_le _)
  exact key
theorem i_DavenportBound_eq {g : List Nat} (v : VG g) (hc : chkD stepI g = true) : f_i_DavenportBound (ints (natsI g)) = some ((sumD (outD stepI g.length g.length g) : Nat) : Int) := by
  have h3 := v.len
  have key := loop_count (rd := f_i_DavenportBound_r0 (g.length : Int)) (fun i => (ints (natsI (outD stepI g.length i g)), (i : Int))) g.length (a := (ints (natsI (outD stepI g.length g.length g)), (g.length : Int))) (fun i hi => by
      obtain ⟨hlen, _⟩ := goodD_spec (chkD_spec hc (i := i) (j := 0) (by omega) (by omega))
      have hlen' : (outD stepI g.length i g).length = g.length := hlen
      have e := i_dav2 (L := outD stepI g.length i g) h3 hi (fun j hj => chkD_spec hc (by omega) hj)
      rw [← outD_succ] at e
      simp only [f_i_DavenportBound_r0, f_i_DavenportBound_k0, ints_len_nat hlen', lt_dec hi, br_true, w64_nat (by omega : i < 9223372036854775807), e, bl1_one])
    (by
      obtain ⟨hlen, _⟩ := goodD_spec (chkD_spec hc (i := g.length) (j := 0) (Nat.le_refl _) (by omega))
      have hlen' : (outD stepI g.length g.length g).length = g.length := hlen
      simp only [f_i_DavenportBound_r0, f_i_DavenportBound_k0, ints_len_nat hlen', lt_dec_self, br_false]) 0 (Nat.zero_le _)
  obtain ⟨hlen, hx⟩ := goodD_spec (chkD_spec hc (i := g.length) (j := 0) (Nat.le_refl _) (by omega))
  have hlen' : (outD stepI g.length g.length g).length = g.length := hlen
  have hx' : ∀ k, k < g.length → 1 ≤ (outD stepI g.length g.length g).getD k 0 ∧ (outD stepI g.length g.length g).getD k 0 ≤ 24 := hx
  generalize outD stepI g.length g.length g = O at *
  have key2 := loop_count (rd := f_i_DavenportBound_r4 (O.length : Int)) (fun k => (ints (natsI O), ((sumD (O.take k) : Nat) : Int), (k : Int))) O.length (a := (ints (natsI O), ((sumD (O.take O.length) : Nat) : Int))) (fun k hk => by
      have hb := hx' k (by omega)
      have hs := sumD_range (O.take k) fun j hj => by
        have hj' : j < k := by simp at hj; omega
        have := hx' j (by omega)
        rwa [take_getD hj'] 
      have hlt : (O.take k).length ≤ 3 := by simp; omega
      have e : w64 (w64 (((sumD (O.take k) : Nat) : Int) + ((O.getD k 0 : Nat) : Int)) - 1) = ((sumD (O.take (k + 1)) : Nat) : Int) := by
        rw [sumD_snoc hk, ← Int.natCast_add, w64_cast (by omega), w64_in (by omega) (by omega)]
        omega
      simp only [f_i_DavenportBound_r4, f_i_DavenportBound_k4, ints_length, natsI_length, lt_dec hk, in_nat hk, Int.toNat_natCast, kAt_ints, atN_natsI, br_true, e, w64_nat (by omega : k < 9223372036854775807)])
    (by simp only [f_i_DavenportBound_r4, f_i_DavenportBound_k4, ints_length, natsI_length, lt_dec_self, br_false]) 0 (Nat.zero_le _)
  rw [List.take_length] at key2
  have e0 : ints (natsI (outD stepI g.length 0 g)) = [] ++ ints (natsI g) := rfl
  have e1 : ((sumD (O.take 0) : Nat) : Int) = 1 := rfl
  simp only [e0] at key
  simp only [e1] at key2
  rw [show ((0 : Nat) : Int) = 0 from rfl] at key key2
  have e2 : decide (([] : List Sc).length + (ints (natsI g)).length ≤ lim) = true := by
    rw [ints_length, natsI_length, decide_eq_true_eq]
    exact Nat.le_trans (by simp; omega : ([] : List Sc).length + g.length ≤ 3) (by decide)
  have hG := i_IsGroup_eq (natsI g) v.lim
  have hcp : f_i_copyInts (ints (natsI g)) = some ([] ++ ints (natsI g)) := by simp only [f_i_copyInts, f_i_copyInts_k, e2, br_true]
  have el : (([] ++ ints (natsI g)).length : Int) = (g.length : Int) := by rw [List.nil_append, ints_length, natsI_length]
  simp only [f_i_DavenportBound, f_i_DavenportBound_k, hG, v.isG, bo_some, Bool.not_true, br_false, hcp, el, key, bl1_one]
  rw [show ((ints (natsI O)).length : Int) = (O.length : Int) by rw [ints_length, natsI_length], key2]
  rfl
theorem DavenportBound_both (G : List Int) (h : G.length ≤ lim) : ∃ r, f_s_DavenportBound (ints G) = some r ∧ f_i_DavenportBound (ints G) = some r := by
  cases hg : isG G with
  | false =>
    refine ⟨-1, ?_, ?_⟩
    · simp only [f_s_DavenportBound, f_s_DavenportBound_k, s_IsGroup_eq G h, hg, bo_some]
      rfl
    · simp only [f_i_DavenportBound, f_i_DavenportBound_k, i_IsGroup_eq G h, hg, bo_some]
      rfl
  | true =>
    obtain ⟨g, rfl, v⟩ := nat_of_isG hg
    have hall := List.all_eq_true.1 allD g v.mem
    simp only [Bool.and_eq_true] at hall
    have e := Nat.eq_of_beq_eq_true hall.2.2
    exact ⟨_, s_DavenportBound_eq v hall.1, by rw [i_DavenportBound_eq v hall.2.1, e]⟩
end Go.Proofs.Ytphbclogflflmaa
