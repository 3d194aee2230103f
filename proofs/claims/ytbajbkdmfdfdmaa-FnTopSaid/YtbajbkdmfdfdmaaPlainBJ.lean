/-
  PlainBJ: for a prime p, the p-th power of a sum of commuting steps is the sum of the p-th powers, up to multiples of p; dilates of tiles tile.
-/
import Derived.Test.YtbajbkdmfdfdmaaPlainBI
set_option linter.unusedVariables false
set_option linter.unusedSimpArgs false
namespace Go.Proofs.Ytbajbkdmfdfdmaa
open Go Ev

/-! ### Binomials -/
def binB : Nat → Nat → Nat
  | _, 0 => 1
  | 0, _ + 1 => 0
  | n + 1, k + 1 => binB n k + binB n (k + 1)
theorem bin_zero (n : Nat) : binB n 0 = 1 := by cases n <;> rfl
theorem bin_succ (n k : Nat) : binB (n + 1) (k + 1) = binB n k + binB n (k + 1) := rfl
theorem bin_none : ∀ n k, n < k → binB n k = 0
  | 0, 0, h => by omega
  | 0, k + 1, _ => rfl
  | n + 1, 0, h => by omega
  | n + 1, k + 1, h => by rw [bin_succ, bin_none n k (by omega), bin_none n (k + 1) (by omega)]
theorem bin_self : ∀ n, binB n n = 1
  | 0 => rfl
  | n + 1 => by rw [bin_succ, bin_self n, bin_none n (n + 1) (by omega)]
theorem bin_mul : ∀ n k, (k + 1) * binB (n + 1) (k + 1) = (n + 1) * binB n k
  | 0, 0 => rfl
  | 0, k + 1 => by rw [bin_succ, show binB 0 (k + 1) = 0 from rfl, show binB 0 (k + 1 + 1) = 0 from rfl, Nat.add_zero, Nat.mul_zero, Nat.mul_zero]
  | n + 1, 0 => by
    have h := bin_mul n 0
    rw [bin_zero, Nat.zero_add, Nat.one_mul, Nat.mul_one] at h
    rw [bin_succ, bin_zero, Nat.zero_add, h]
    omega
  | n + 1, k + 1 => by
    have h1 := bin_mul n k
    have h2 := bin_mul n (k + 1)
    rw [bin_succ (n + 1) (k + 1), Nat.mul_add, h2, show k + 1 + 1 = (k + 1) + 1 from rfl, Nat.add_mul (k + 1) 1, h1, Nat.one_mul, bin_succ n k]
    rw [Nat.add_mul (n + 1) 1, Nat.one_mul, Nat.mul_add]
    omega
/-- Prime numbers. -/
structure PrB (p : Nat) : Prop where
  two : 2 ≤ p
  only : ∀ d, d ∣ p → d = 1 ∨ d = p
theorem PrB.cop {p k : Nat} (h : PrB p) (hk : ¬ p ∣ k) : Nat.Coprime p k := by
  rcases h.only (Nat.gcd p k) (Nat.gcd_dvd_left p k) with e | e
  · exact e
  · exact absurd (by have := Nat.gcd_dvd_right p k; rwa [e] at this) hk
theorem PrB.bin {p k : Nat} (h : PrB p) (h0 : 0 < k) (h1 : k < p) : p ∣ binB p k := by
  obtain ⟨q, rfl⟩ : ∃ q, p = q + 1 := ⟨p - 1, by omega⟩
  obtain ⟨j, rfl⟩ : ∃ j, k = j + 1 := ⟨k - 1, by omega⟩
  have e := bin_mul q j
  have hd : q + 1 ∣ (j + 1) * binB (q + 1) (j + 1) := ⟨_, e⟩
  exact (h.cop fun hk => by have := Nat.le_of_dvd (by omega) hk; omega).dvd_of_dvd_mul_left hd
theorem PrB.pow {p a : Nat} (h : PrB p) (ha : ¬ p ∣ a) : ∀ n, ¬ p ∣ a ^ n
  | 0, hd => by
    rw [Nat.pow_zero] at hd
    have := Nat.le_of_dvd (by decide) hd
    have := h.two
    omega
  | n + 1, hd => by
    rw [Nat.pow_succ] at hd
    exact ha ((h.cop (h.pow ha n)).dvd_of_dvd_mul_left hd)
theorem prime_of : ∀ (n : Nat), 2 ≤ n → ∃ p m, PrB p ∧ n = p * m := by
  intro n
  induction n using Nat.strongRecOn with
  | _ n ih =>
    intro h2
    by_cases hp : ∀ d, d ∣ n → d = 1 ∨ d = n
    · exact ⟨n, 1, ⟨h2, hp⟩, (Nat.mul_one n).symm⟩
    · have hex : ∃ d, d ∣ n ∧ d ≠ 1 ∧ d ≠ n := by
        refine Classical.byContradiction fun hn => hp fun d hd => ?_
        by_cases h1 : d = 1
        · exact .inl h1
        · by_cases h3 : d = n
          · exact .inr h3
          · exact absurd ⟨d, hd, h1, h3⟩ hn
      obtain ⟨d, hd, h1, h3⟩ := hex
      have hle := Nat.le_of_dvd (by omega) hd
      have h0 : d ≠ 0 := fun e => by
        subst e
        obtain ⟨c, hc⟩ := hd
        omega
      obtain ⟨p, m, hpr, e⟩ := ih d (by omega) (by omega)
      obtain ⟨c, hc⟩ := hd
      exact ⟨p, m * c, hpr, by rw [hc, e, Nat.mul_assoc]⟩
/-! ### Powers of a sum of two steps -/
def powB (c : Nat → Nat → Nat) : Nat → Nat → Nat → Nat
  | 0, i, j => c i j
  | n + 1, i, j => powB c n (i + 1) j + powB c n i (j + 1)
theorem sum_first (F : Nat → Nat) (n : Nat) : ((List.range (n + 1)).map F).sum = F 0 + ((List.range n).map fun k => F (k + 1)).sum := by
  rw [List.range_succ_eq_map, List.map_cons, List.sum_cons, List.map_map]
  rfl
theorem pow_eq (c : Nat → Nat → Nat) : ∀ n i j, powB c n i j = ((List.range (n + 1)).map fun k => binB n k * c (i + k) (j + (n - k))).sum
  | 0, i, j => by
    show c i j = _
    simp [bin_zero]
  | n + 1, i, j => by
    show powB c n (i + 1) j + powB c n i (j + 1) = _
    rw [pow_eq c n (i + 1) j, pow_eq c n i (j + 1), sum_first (fun k => binB (n + 1) k * c (i + k) (j + (n + 1 - k))) (n + 1), sum_first (fun k => binB n k * c (i + k) (j + 1 + (n - k))) n]
    have e1 : ((List.range (n + 1)).map fun k => binB (n + 1) (k + 1) * c (i + (k + 1)) (j + (n + 1 - (k + 1)))).sum = ((List.range (n + 1)).map fun k => binB n k * c (i + 1 + k) (j + (n - k))).sum + ((List.range (n + 1)).map fun k => binB n (k + 1) * c (i + (k + 1)) (j + (n + 1 - (k + 1)))).sum := by
      rw [← sumM_add]
      refine sumM_congr fun k hk => ?_
      rw [bin_succ, Nat.add_mul, show i + 1 + k = i + (k + 1) by omega, show n - k = n + 1 - (k + 1) by omega]
    have e2 : ((List.range (n + 1)).map fun k => binB n (k + 1) * c (i + (k + 1)) (j + (n + 1 - (k + 1)))).sum = ((List.range n).map fun k => binB n (k + 1) * c (i + (k + 1)) (j + 1 + (n - (k + 1)))).sum := by
      rw [sum_range_succ, bin_none n (n + 1) (by omega), Nat.zero_mul, Nat.add_zero]
      refine sumM_congr fun k hk => ?_
      have := List.mem_range.1 hk
      rw [show j + (n + 1 - (k + 1)) = j + 1 + (n - (k + 1)) by omega]
    rw [e1, e2, bin_zero, bin_zero, show j + 1 + (n - 0) = j + (n + 1 - 0) by omega]
    omega
theorem sumM_dvd {α : Type} {p : Nat} {F : α → Nat} : ∀ {l : List α}, (∀ x ∈ l, p ∣ F x) → p ∣ (l.map F).sum
  | [], _ => ⟨0, rfl⟩
  | x :: l, h => by
    rw [List.map_cons, List.sum_cons]
    exact Nat.dvd_add (h x (by simp)) (sumM_dvd fun y hy => h y (by simp [hy]))
theorem pow_prime (c : Nat → Nat → Nat) {p : Nat} (h : PrB p) : powB c p 0 0 % p = (c p 0 + c 0 p) % p := by
  obtain ⟨q, rfl⟩ : ∃ q, p = q + 1 := ⟨p - 1, by have := h.two; omega⟩
  rw [pow_eq, sum_first, sum_range_succ, bin_zero, bin_self, Nat.one_mul, Nat.one_mul, Nat.zero_add, Nat.zero_add, Nat.zero_add, Nat.sub_zero, Nat.sub_self]
  obtain ⟨m, hm⟩ := sumM_dvd (p := q + 1) (F := fun k => binB (q + 1) (k + 1) * c (0 + (k + 1)) (0 + (q + 1 - (k + 1)))) (l := List.range q) fun k hk => by
    have := List.mem_range.1 hk
    exact Nat.dvd_trans (h.bin (by omega) (by omega)) ⟨_, rfl⟩
  rw [hm, show c 0 (q + 1) + ((q + 1) * m + c (q + 1) 0) = c (q + 1) 0 + c 0 (q + 1) + (q + 1) * m by omega, Nat.add_mul_mod_self_left]
/-! ### Steps -/
def itB (U : (Nat → Nat) → Nat → Nat) : Nat → (Nat → Nat) → Nat → Nat
  | 0, f => f
  | n + 1, f => itB U n (U f)
def shB (g : List Nat) (a : Nat) (f : Nat → Nat) : Nat → Nat := fun z => f (addN g z (negN g a))
def tB (g A : List Nat) (f : Nat → Nat) : Nat → Nat := fun z => (A.map fun a => f (addN g z (negN g a))).sum
theorem it_out (U : (Nat → Nat) → Nat → Nat) : ∀ n f, U (itB U n f) = itB U (n + 1) f
  | 0, f => rfl
  | n + 1, f => it_out U n (U f)
theorem it_comm (U V : (Nat → Nat) → Nat → Nat) (h : ∀ f, U (V f) = V (U f)) : ∀ n f, V (itB U n f) = itB U n (V f)
  | 0, f => rfl
  | n + 1, f => by
    show V (itB U n (U f)) = itB U n (U (V f))
    rw [it_comm U V h n, h]
theorem it_add (U : (Nat → Nat) → Nat → Nat) (h : ∀ f k, U (fun z => f z + k z) = fun z => U f z + U k z) : ∀ n f k, itB U n (fun z => f z + k z) = fun z => itB U n f z + itB U n k z
  | 0, f, k => rfl
  | n + 1, f, k => by
    show itB U n (U fun z => f z + k z) = fun z => itB U n (U f) z + itB U n (U k) z
    rw [h, it_add U h n]
theorem tB_cons (g A : List Nat) (a : Nat) (f : Nat → Nat) : tB g (a :: A) f = fun z => tB g A f z + shB g a f z := by
  funext z
  unfold tB shB
  rw [List.map_cons, List.sum_cons, Nat.add_comm]
theorem tB_add (g A : List Nat) (f k : Nat → Nat) : tB g A (fun z => f z + k z) = fun z => tB g A f z + tB g A k z := by
  funext z
  unfold tB
  rw [sumM_add]
section
variable {g : List Nat} (v : VG g)
include v
theorem sh_t (A : List Nat) (a : Nat) (f : Nat → Nat) : tB g A (shB g a f) = shB g a (tB g A f) := by
  funext z
  unfold tB shB
  refine sumM_congr fun b _ => ?_
  rw [add_perm v]
theorem it_two (A : List Nat) (a : Nat) (f : Nat → Nat) (z : Nat) : ∀ n i j, itB (tB g (a :: A)) n (itB (tB g A) i (itB (shB g a) j f)) z = powB (fun i j => itB (tB g A) i (itB (shB g a) j f) z) n i j
  | 0, i, j => rfl
  | n + 1, i, j => by
    show itB (tB g (a :: A)) n (tB g (a :: A) (itB (tB g A) i (itB (shB g a) j f))) z = powB _ n (i + 1) j + powB _ n i (j + 1)
    rw [tB_cons, it_add _ (tB_add g (a :: A)), it_out (tB g A), it_comm (tB g A) (shB g a) (sh_t v A a), it_out (shB g a)]
    show _ + _ = _
    rw [it_two A a f z n (i + 1) j, it_two A a f z n i (j + 1)]
theorem it_prime {p : Nat} (hp : PrB p) (f : Nat → Nat) (z : Nat) : ∀ A : List Nat, itB (tB g A) p f z % p = ((A.map fun a => itB (shB g a) p f z).sum) % p
  | [] => by
    obtain ⟨q, rfl⟩ : ∃ q, p = q + 1 := ⟨p - 1, by have := hp.two; omega⟩
    have h0 : tB g [] f = fun _ => 0 := rfl
    have : ∀ n, itB (tB g []) n (fun _ => 0) = fun _ => 0 := by
      intro n
      induction n with
      | zero => rfl
      | succ n ih => exact ih
    show itB (tB g []) q (tB g [] f) z % (q + 1) = 0 % (q + 1)
    rw [h0, this]
  | a :: A => by
    have e := it_two v A a f z p 0 0
    have e' : itB (tB g (a :: A)) p f z = powB (fun i j => itB (tB g A) i (itB (shB g a) j f) z) p 0 0 := e
    rw [e', pow_prime _ hp, List.map_cons, List.sum_cons]
    show (itB (tB g A) p f z + itB (shB g a) p f z) % p = _
    rw [Nat.add_mod, it_prime hp f z A, ← Nat.add_mod, Nat.add_comm]
/-- Back by a multiple. -/
def bkB (g : List Nat) (a : Nat) : Nat → Nat → Nat
  | 0, z => z
  | n + 1, z => addN g (bkB g a n z) (negN g a)
omit v in
theorem it_sh (a : Nat) (z : Nat) : ∀ n (f : Nat → Nat), itB (shB g a) n f z = f (bkB g a n z)
  | 0, f => rfl
  | n + 1, f => it_sh a z n (shB g a f)
theorem bk_lt {a z : Nat} (hz : z < ordN g) : ∀ n, bkB g a n z < ordN g
  | 0 => hz
  | n + 1 => addN_lt v.each _ _
theorem bk_iter {a z : Nat} (hz : z < ordN g) : ∀ n, addN g (iterN g a n) (bkB g a n z) = z
  | 0 => addN_zero g z v.each hz
  | n + 1 => by
    show addN g (addN g (iterN g a n) a) (addN g (bkB g a n z) (negN g a)) = z
    rw [addN_assoc g v.each, addN_forth v (bk_lt v hz n)]
    exact bk_iter hz n
theorem it_const {A : List Nat} {c : Nat} : ∀ (n : Nat) (f : Nat → Nat), (∀ z, z < ordN g → f z = c) → ∀ z, z < ordN g → itB (tB g A) n f z = c * A.length ^ n
  | 0, f, hf, z, hz => by rw [Nat.pow_zero, Nat.mul_one]; exact hf z hz
  | n + 1, f, hf, z, hz => by
    show itB (tB g A) n (tB g A f) z = _
    have key : ∀ A : List Nat, ∀ w, tB g A f w = c * A.length := by
      intro A w
      induction A with
      | nil => rfl
      | cons a A ih =>
        rw [tB_cons, List.length_cons, Nat.mul_add, Nat.mul_one, ← ih]
        show tB g A f w + f (addN g w (negN g a)) = _
        rw [hf _ (addN_lt v.each _ _)]
    rw [it_const (c := c * A.length) n (tB g A f) (fun w _ => key A w) z hz, Nat.pow_succ, Nat.mul_assoc, Nat.mul_comm A.length]
/-! ### Tiles -/
/-- Two sets tile the group. -/
structure TilB (g : List Nat) (a b : Nat) : Prop where
  la : a < 2 ^ ordN g
  lb : b < 2 ^ ordN g
  full : ∀ z, z < ordN g → (sumN g a b).testBit z = true
  size : popN a * popN b = ordN g
omit v in
theorem all_one {α : Type} {F : α → Nat} : ∀ {l : List α}, (∀ x ∈ l, 1 ≤ F x) → (l.map F).sum = l.length → ∀ x ∈ l, F x = 1
  | [], _, _, x, hx => by cases hx
  | y :: l, h1, h2, x, hx => by
    rw [List.map_cons, List.sum_cons, List.length_cons] at h2
    have hy := h1 y (by simp)
    have hl := sumM_ge (l := l) (F := F) (M := 1) fun z hz => h1 z (by simp [hz])
    rcases List.mem_cons.1 hx with rfl | hx
    · omega
    · exact all_one (l := l) (fun z hz => h1 z (by simp [hz])) (by omega) x hx
theorem cnt_total (a b : Nat) : ((List.range (ordN g)).map fun s => cnt2 g (elems a) (elems b) s).sum = popN a * popN b := by
  have h := table_pairs v (elems a) (elems b) (fun _ => 1)
  have e : ((List.range (ordN g)).map fun s => cnt2 g (elems a) (elems b) s * 1).sum = ((List.range (ordN g)).map fun s => cnt2 g (elems a) (elems b) s).sum := sumM_congr fun s _ => Nat.mul_one _
  have e1 : ∀ l : List Nat, (l.map fun _ => 1).sum = l.length := fun l => by
    induction l with
    | nil => rfl
    | cons x l ih => rw [List.map_cons, List.sum_cons, ih, List.length_cons]; omega
  rw [← e, h, e1]
  have e2 : ∀ l : List Nat, (l.map fun _ => (elems b).length).sum = l.length * (elems b).length := fun l => by
    induction l with
    | nil => simp
    | cons x l ih => rw [List.map_cons, List.sum_cons, ih, List.length_cons, Nat.add_mul]; omega
  rw [e2, elems_pop, elems_pop]
theorem cnt_ge {a b : Nat} (ha : a < 2 ^ ordN g) (hb : b < 2 ^ ordN g) {z : Nat} (hz : (sumN g a b).testBit z = true) : 1 ≤ cnt2 g (elems a) (elems b) z := by
  obtain ⟨x, y, hx, hy, rfl⟩ := (sum_bit v ha hb z).1 hz
  have h1 : 1 ≤ cnt1 g x (elems b) (addN g x y) := List.countP_pos_iff.2 ⟨y, (mem_elems (set_i64 v hb)).2 hy, decide_eq_true rfl⟩
  have : ∀ l : List Nat, x ∈ l → cnt1 g x (elems b) (addN g x y) ≤ (l.map fun x' => cnt1 g x' (elems b) (addN g x y)).sum := by
    intro l
    induction l with
    | nil => intro h; cases h
    | cons w l ih =>
      intro h
      rw [List.map_cons, List.sum_cons]
      rcases List.mem_cons.1 h with rfl | h
      · omega
      · have := ih h; omega
  have h2 := this (elems a) ((mem_elems (set_i64 v ha)).2 hx)
  unfold cnt2
  omega
theorem cnt_t {a b : Nat} (hb : b < 2 ^ ordN g) {z : Nat} (hz : z < ordN g) : tB g (elems a) (fun w => if b.testBit w then 1 else 0) z = cnt2 g (elems a) (elems b) z := by
  unfold tB cnt2
  refine sumM_congr fun x _ => ?_
  rw [cnt1_test v hb hz]
theorem pop_all {s : Nat} (hs : s < 2 ^ ordN g) (h : ∀ z, z < ordN g → s.testBit z = true) : popN s = ordN g := by
  have h24 := v.ord
  obtain ⟨h1, h2⟩ := pop_list (List.range (ordN g)) List.nodup_range fun x hx => by have := List.mem_range.1 hx; omega
  have e : s = (List.range (ordN g)).foldr (fun x o => 2 ^ x ||| o) 0 := sbN_eq (fun z hz => (h2 z).2 (List.mem_range.2 (bit_lt hs hz))) fun z hz => h z (List.mem_range.1 ((h2 z).1 hz))
  rw [e, h1, List.length_range]
/-- Dilates. -/
abbrev dlN (g : List Nat) (n a : Nat) : Nat := dilN g (n : Int) (elems a)
theorem dl_bit {a : Nat} (ha : a < 2 ^ ordN g) (n z : Nat) : (dlN g n a).testBit z = true ↔ ∃ x, a.testBit x = true ∧ iterN g x n = z := by
  have e : dlN g n a = orAll (fun x => 2 ^ mulN g x (n : Int)) (elems a) := rfl
  rw [e, orAll_test, List.any_eq_true]
  have em : ∀ x, mulN g x (n : Int) = iterN g x n := fun x => by
    unfold mulN
    rw [if_neg (by omega), Int.toNat_natCast]
  simp only [pow_test, decide_eq_true_eq, em]
  constructor
  · rintro ⟨x, hx, h⟩; exact ⟨x, (mem_elems (set_i64 v ha)).1 hx, h⟩
  · rintro ⟨x, hx, h⟩; exact ⟨x, (mem_elems (set_i64 v ha)).2 hx, h⟩
theorem dl_lt (n a : Nat) : dlN g n a < 2 ^ ordN g := dilN_lt v _ _
omit v in
theorem pop_image {s : Nat} (l : List Nat) (f : Nat → Nat) (hs : s < 9223372036854775808) (h : ∀ z, s.testBit z = true → ∃ x ∈ l, f x = z) : popN s ≤ l.length := by
  induction l generalizing s with
  | nil =>
    have : s = 0 := by
      apply Nat.eq_of_testBit_eq
      intro z
      rw [Nat.zero_testBit]
      cases e : s.testBit z with
      | false => rfl
      | true => obtain ⟨x, hx, _⟩ := h z e; cases hx
    rw [this]
    exact Nat.le_of_eq (pcn_zero 63)
  | cons x l ih =>
    have h1 := pop_split s (2 ^ f x)
    have hd : dfN s (2 ^ f x) < 9223372036854775808 := by
      unfold dfN
      exact Nat.xor_lt_two_pow (n := 63) hs (Nat.lt_of_le_of_lt Nat.and_le_left hs)
    have h2 := ih hd fun z hz => by
      rw [df_test, Bool.and_eq_true, Bool.not_eq_true', pow_test, decide_eq_false_iff_not] at hz
      obtain ⟨y, hy, e⟩ := h z hz.1
      rcases List.mem_cons.1 hy with rfl | hy
      · exact absurd e hz.2
      · exact ⟨y, hy, e⟩
    have h3 : popN (s &&& 2 ^ f x) ≤ 1 := by
      by_cases hb : s.testBit (f x) = true
      · have := pop_mono (a := s &&& 2 ^ f x) (b := 2 ^ f x) fun z hz => by
          rw [Nat.testBit_and, Bool.and_eq_true] at hz
          exact hz.2
        rwa [pop_pow (bit_lt (show s < 2 ^ 63 from hs) hb)] at this
      · have e : s &&& 2 ^ f x = 0 := by
          apply Nat.eq_of_testBit_eq
          intro z
          rw [Nat.testBit_and, pow_test, Nat.zero_testBit]
          by_cases e : f x = z
          · subst e
            cases hq : s.testBit (f x) with
            | false => rfl
            | true => exact absurd hq hb
          · rw [decide_eq_false e, Bool.and_false]
        rw [e]
        exact Nat.le_trans (Nat.le_of_eq (pcn_zero 63)) (by decide)
    rw [List.length_cons]
    omega
theorem dl_pop {a : Nat} (ha : a < 2 ^ ordN g) (n : Nat) : popN (dlN g n a) ≤ popN a := by
  have := pop_image (s := dlN g n a) (elems a) (fun x => iterN g x n) (set_i64 v (dl_lt v n a)) fun z hz => by
    obtain ⟨x, hx, e⟩ := (dl_bit v ha n z).1 hz
    exact ⟨x, (mem_elems (set_i64 v ha)).2 hx, e⟩
  rwa [elems_pop] at this
theorem sum_le {a b : Nat} (ha : a < 2 ^ ordN g) (hb : b < 2 ^ ordN g) : popN (sumN g a b) ≤ popN a * popN b := by
  rw [← cnt_total v a b, ← elems_pop]
  have e : (elems (sumN g a b)).length = ((elems (sumN g a b)).map fun _ => 1).sum := by
    generalize elems (sumN g a b) = l
    induction l with
    | nil => rfl
    | cons x l ih => rw [List.map_cons, List.sum_cons, ← ih, List.length_cons]; omega
  have hsub : ∀ (l : List Nat) (F : Nat → Nat) (q : Nat → Bool), (∀ x ∈ l, q x = true → 1 ≤ F x) → (l.filter q).length ≤ (l.map F).sum := by
    intro l F q h
    induction l with
    | nil => exact Nat.le_refl _
    | cons x l ih =>
      have h1 := ih fun y hy => h y (by simp [hy])
      rw [List.map_cons, List.sum_cons, List.filter_cons]
      split
      · rename_i hq
        have := h x (by simp) hq
        rw [List.length_cons]
        omega
      · omega
  have hl := sumN_lt v a b
  have h63 : (elems (sumN g a b)).length = ((List.range (ordN g)).filter fun x => (sumN g a b).testBit x).length := by
    rw [elems_pop]
    have := filter_len (ordN g) (sumN g a b)
    rw [this]
    exact pcn_small (ordN g) 63 _ hl (by have := v.ord; omega)
  rw [h63]
  exact hsub _ _ _ fun x _ hq => cnt_ge v ha hb hq
theorem til_prime {a b p : Nat} (t : TilB g a b) (hp : PrB p) (ho : ¬ p ∣ ordN g) : TilB g (dlN g p a) b ∧ popN (dlN g p a) = popN a := by
  have hA : ¬ p ∣ (elems a).length := fun h => ho (by rw [← t.size, ← elems_pop]; exact Nat.dvd_trans h ⟨_, rfl⟩)
  have hone : ∀ z, z < ordN g → cnt2 g (elems a) (elems b) z = 1 := fun z hz =>
    all_one (l := List.range (ordN g)) (fun s hs => cnt_ge v t.la t.lb (t.full s (List.mem_range.1 hs))) (by rw [cnt_total v, t.size, List.length_range]) z (List.mem_range.2 hz)
  have hfull : ∀ z, z < ordN g → (sumN g (dlN g p a) b).testBit z = true := fun z hz => by
    have e1 := it_prime v hp (fun w => if b.testBit w then 1 else 0) z (elems a)
    obtain ⟨q, rfl⟩ : ∃ q, p = q + 1 := ⟨p - 1, by have := hp.two; omega⟩
    have e2 : itB (tB g (elems a)) (q + 1) (fun w => if b.testBit w then 1 else 0) z = 1 * (elems a).length ^ q :=
      it_const v q _ (fun w hw => by rw [cnt_t v t.lb hw, hone w hw]) z hz
    rw [e2, Nat.one_mul] at e1
    have hne : ((elems a).map fun x => itB (shB g x) (q + 1) (fun w => if b.testBit w then 1 else 0) z).sum ≠ 0 := fun h0 => by
      rw [h0, Nat.zero_mod] at e1
      exact hp.pow hA q (Nat.dvd_of_mod_eq_zero e1)
    have hex : ∃ x ∈ elems a, b.testBit (bkB g x (q + 1) z) = true := by
      refine Classical.byContradiction fun hn => hne ?_
      refine (sumM_congr (G := fun _ => 0) fun x hx => ?_).trans (sumM_zero (elems a))
      rw [it_sh]
      cases hb : b.testBit (bkB g x (q + 1) z) with
      | false => rw [if_neg (by decide)]
      | true => exact absurd ⟨x, hx, hb⟩ hn
    obtain ⟨x, hx, hb⟩ := hex
    exact (sum_bit v (dl_lt v _ a) t.lb z).2 ⟨iterN g x (q + 1), bkB g x (q + 1) z, (dl_bit v t.la _ _).2 ⟨x, (mem_elems (set_i64 v t.la)).1 hx, rfl⟩, hb, bk_iter v hz (q + 1)⟩
  have hall := pop_all v (sumN_lt v (dlN g p a) b) hfull
  have hle := sum_le v (dl_lt v p a) t.lb
  have hpop := dl_pop v t.la p
  have hmul : popN (dlN g p a) * popN b ≤ popN a * popN b := Nat.mul_le_mul_right _ hpop
  have hsz := t.size
  have o1 := ordN_pos v.each
  have hb0 : 0 < popN b := by
    rcases Nat.eq_zero_or_pos (popN b) with h | h
    · rw [h, Nat.mul_zero] at hsz; omega
    · exact h
  have heq : popN (dlN g p a) * popN b = popN a * popN b := by omega
  have hpe : popN (dlN g p a) = popN a := Nat.eq_of_mul_eq_mul_right hb0 heq
  exact ⟨⟨dl_lt v p a, t.lb, hfull, by rw [heq, hsz]⟩, hpe⟩
theorem iterN_add (x i : Nat) : ∀ j, iterN g x (i + j) = addN g (iterN g x i) (iterN g x j)
  | 0 => by
    show iterN g x i = addN g (iterN g x i) 0
    rw [addN_comm, addN_zero g _ v.each (iterN_lt v x i)]
  | j + 1 => by
    show addN g (iterN g x (i + j)) x = addN g (iterN g x i) (addN g (iterN g x j) x)
    rw [iterN_add x i j, addN_assoc g v.each]
theorem iterN_mul (x m : Nat) : ∀ p, iterN g (iterN g x m) p = iterN g x (p * m)
  | 0 => by rw [Nat.zero_mul]; rfl
  | p + 1 => by
    show addN g (iterN g (iterN g x m) p) (iterN g x m) = _
    rw [iterN_mul x m p, Nat.add_mul, Nat.one_mul, iterN_add v]
theorem til_dilate {b : Nat} : ∀ (n a : Nat), 1 ≤ n → TilB g a b → (∀ q, 2 ≤ q → q ∣ n → ¬ q ∣ ordN g) → TilB g (dlN g n a) b ∧ popN (dlN g n a) = popN a := by
  intro n
  induction n using Nat.strongRecOn with
  | _ n ih =>
    intro a h1 t hq
    by_cases h2 : n = 1
    · subst h2
      have e : dlN g 1 a = a := sbN_eq (fun z hz => by
        obtain ⟨x, hx, rfl⟩ := (dl_bit v t.la 1 z).1 hz
        rw [show iterN g x 1 = addN g 0 x from rfl, addN_zero g x v.each (bit_lt t.la hx)]
        exact hx) fun z hz => (dl_bit v t.la 1 z).2 ⟨z, hz, addN_zero g z v.each (bit_lt t.la hz)⟩
      rw [e]
      exact ⟨t, rfl⟩
    · obtain ⟨p, m, hp, rfl⟩ := prime_of n (by omega)
      have hm0 : 1 ≤ m := by
        rcases Nat.eq_zero_or_pos m with h | h
        · subst h; omega
        · exact h
      have hp2 := hp.two
      have hlt : m < p * m := by
        have := Nat.mul_le_mul_right m hp2
        omega
      obtain ⟨t1, e1⟩ := ih m hlt a hm0 t fun q h1 h2 => hq q h1 (Nat.dvd_trans h2 ⟨p, Nat.mul_comm p m⟩)
      obtain ⟨t2, e2⟩ := til_prime v t1 hp (hq p hp2 ⟨m, rfl⟩)
      have e : dlN g (p * m) a = dlN g p (dlN g m a) := sbN_eq (fun z hz => by
        obtain ⟨x, hx, rfl⟩ := (dl_bit v t.la _ z).1 hz
        exact (dl_bit v (dl_lt v m a) p _).2 ⟨iterN g x m, (dl_bit v t.la m _).2 ⟨x, hx, rfl⟩, iterN_mul v x m p⟩) fun z hz => by
        obtain ⟨y, hy, rfl⟩ := (dl_bit v (dl_lt v m a) p z).1 hz
        obtain ⟨x, hx, rfl⟩ := (dl_bit v t.la m y).1 hy
        exact (dl_bit v t.la _ _).2 ⟨x, hx, (iterN_mul v x m p).symm⟩
      rw [e]
      exact ⟨t2, by rw [e2, e1]⟩
end
end Go.Proofs.Ytbajbkdmfdfdmaa
