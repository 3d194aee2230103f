/-
  PlainAD: exponents; long sequences in groups of order at most 5 have parts of sum 0 and as many terms as the exponent; EgzExample, EgzConstant.
-/
import Derived.Test.YtphbclogflflmaaPlainX
import Derived.Test.YtphbclogflflmaaPlainL
set_option linter.unusedVariables false
set_option linter.unusedSimpArgs false
namespace Go.Proofs.Ytphbclogflflmaa
open Go Ev

/-! ### Exponents -/
def expF (e o : Nat) : Nat := e / Nat.gcd e o * o
theorem expF_lcm (e o : Nat) : expF e o = Nat.lcm e o := by
  unfold expF Nat.lcm
  rw [Nat.mul_comm e o, Nat.mul_div_assoc _ (Nat.gcd_dvd_left e o), Nat.mul_comm]
def expN (g : List Nat) : Nat := g.foldl expF 1
theorem expF_dvd {g : List Nat} {e o : Nat} (he : e ∣ ordN g) (ho : o ∈ g) : expF e o ∣ ordN g := by
  rw [expF_lcm]
  exact Nat.lcm_dvd he (dvd_ordN g o ho)
theorem dvd_le24 {g : List Nat} (v : VG g) {e : Nat} (he : e ∣ ordN g) : 1 ≤ e ∧ e ≤ 24 := by
  have h1 := ordN_pos v.each
  have h2 := Nat.le_of_dvd (by omega) he
  have h3 := v.ord
  have : e ≠ 0 := fun h => by
    rw [h, Nat.zero_dvd] at he
    omega
  omega
theorem mem_at {g : List Nat} {k : Nat} (hk : k < g.length) : g.getD k 0 ∈ g := by simp [List.getD, List.getElem?_eq_getElem hk]
theorem i_exp_eq {g : List Nat} (v : VG g) : f_i_ExponentOf (ints (natsI g)) = some ((expN g : Nat) : Int) := by
  have h3 := v.len
  have key := (loop_foldN (rd := f_i_ExponentOf_r0 (ints (natsI g)) (g.length : Int)) g (fun (t : Nat) i => ((t : Int), i)) expF (fun t => (t : Int)) (fun t => t ∣ ordN g) 1 (Nat.one_dvd _) (fun k t hk ht => by
    have ho := v.each _ (mem_at hk)
    obtain ⟨t1, t2⟩ := dvd_le24 v ht
    have hd := dvd_le24 v (expF_dvd ht (mem_at hk))
    have hg1 : 1 ≤ Nat.gcd t (g.getD k 0) := Nat.gcd_pos_of_pos_left _ (by omega)
    have gz : (((Nat.gcd t (g.getD k 0) : Nat) : Int) == 0) = false := by
      rw [show (0 : Int) = ((0 : Nat) : Int) from rfl, eq_nat_decM]
      exact decide_eq_false (by omega)
    have e1 : w64 ((t : Int).tdiv ((Nat.gcd t (g.getD k 0) : Nat) : Int)) = ((t / Nat.gcd t (g.getD k 0) : Nat) : Int) := by
      rw [tdiv_nat]
      exact w64_cast (Nat.lt_of_le_of_lt (Nat.div_le_self _ _) (by omega))
    have e2 : w64 (((t / Nat.gcd t (g.getD k 0) : Nat) : Int) * ((g.getD k 0 : Nat) : Int)) = ((expF t (g.getD k 0) : Nat) : Int) := by
      have : ((t / Nat.gcd t (g.getD k 0) : Nat) : Int) * ((g.getD k 0 : Nat) : Int) = ((expF t (g.getD k 0) : Nat) : Int) := by unfold expF; rw [Int.natCast_mul]
      rw [this]
      exact w64_cast (by omega)
    simp only [f_i_ExponentOf_r0, f_i_ExponentOf_k0, lt_dec hk, ok_natsI hk, at_natsI, br_true, i_gcd_eq, bo_some, gz, br_false, e1, e2, w64_nat (by omega : k < 9223372036854775807)])
    (fun k t hk ht => expF_dvd ht (mem_at hk))
    (fun t ht => by simp only [f_i_ExponentOf_r0, f_i_ExponentOf_k0, lt_dec_self, br_false])).1
  have key : loopL (f_i_ExponentOf_r0 (ints (natsI g)) (g.length : Int)) (1, 0) = some (.one ((expN g : Nat) : Int)) := key
  simp only [f_i_ExponentOf, f_i_ExponentOf_k, i_IsGroup_eq _ v.lim, v.isG, bo_some, Bool.not_true, br_false, ints_length, natsI_length, key, bl1_one]
theorem s_exp_inner {g : List Nat} (v : VG g) {k e : Nat} (hk : k < g.length) (he : e ∣ ordN g) : loopL (f_s_ExponentOf_r2 (ints (natsI g)) (e : Int) (k : Int)) (e : Int) = some (.one ((expF e (g.getD k 0) : Nat) : Int)) := by
  have ho := v.each _ (mem_at hk)
  obtain ⟨e1, e2⟩ := dvd_le24 v he
  have hg1 : 1 ≤ Nat.gcd e (g.getD k 0) := Nat.gcd_pos_of_pos_left _ (by omega)
  generalize ho' : g.getD k 0 = o at *
  have oz : ((o : Int) == 0) = false := by
    rw [show (0 : Int) = ((0 : Nat) : Int) from rfl, eq_nat_decM]
    exact decide_eq_false (by omega)
  -- the number of steps
  have hJ : expF e o = e * (o / Nat.gcd e o) := by
    rw [expF_lcm]
    unfold Nat.lcm
    rw [Nat.mul_div_assoc _ (Nat.gcd_dvd_right e o)]
  have hJ1 : 1 ≤ o / Nat.gcd e o := Nat.div_pos (Nat.le_of_dvd (by omega) (Nat.gcd_dvd_right e o)) hg1
  have hJ2 : o / Nat.gcd e o ≤ 24 := Nat.le_trans (Nat.div_le_self _ _) ho.2
  generalize o / Nat.gcd e o = J at *
  have hmul : ∀ j, j ≤ J → e * j ≤ 24 * 24 := fun j hj => Nat.mul_le_mul e2 (by omega)
  have hat : atI (ints (natsI g)) (k : Int) = (o : Int) := by rw [at_natsI, ho']
  have hno : ∀ j, j < J → 1 ≤ j → e * j % o ≠ 0 := fun j hj h1 h0 => by
    have hdv : Nat.lcm e o ∣ e * j := Nat.lcm_dvd (Nat.dvd_mul_right e j) (Nat.dvd_of_mod_eq_zero h0)
    have hle := Nat.le_of_dvd (Nat.mul_pos e1 h1) hdv
    rw [← expF_lcm, hJ] at hle
    have := Nat.mul_lt_mul_of_pos_left (k := e) hj e1
    omega
  have hyes : e * J % o = 0 := by
    have : o ∣ expF e o := by rw [expF_lcm]; exact Nat.dvd_lcm_right e o
    rw [hJ] at this
    exact Nat.mod_eq_zero_of_dvd this
  have key := loop_count (rd := f_s_ExponentOf_r2 (ints (natsI g)) (e : Int) (k : Int)) (fun j => ((e * (j + 1) : Nat) : Int)) (J - 1) (a := ((expF e o : Nat) : Int)) (fun j hj => by
    have hb := hmul (j + 1) (by omega)
    have hb2 := hmul (j + 2) (by omega)
    have hm : ((((e * (j + 1) : Nat) : Int).tmod (o : Int)) != 0) = true := by
      rw [tmod_nat, show (0 : Int) = ((0 : Nat) : Int) from rfl]
      have := hno (j + 1) (by omega) (by omega)
      have : ¬ (((e * (j + 1) % o : Nat) : Int) = ((0 : Nat) : Int)) := by omega
      simpa using this
    have ha : w64 (((e * (j + 1) : Nat) : Int) + (e : Int)) = ((e * (j + 1 + 1) : Nat) : Int) := by
      have : ((e * (j + 1) : Nat) : Int) + (e : Int) = ((e * (j + 1 + 1) : Nat) : Int) := by rw [Nat.mul_add e (j + 1) 1, Nat.mul_one]; omega
      rw [this]
      exact w64_cast (by omega)
    simp only [f_s_ExponentOf_r2, f_s_ExponentOf_k2, ok_natsI hk, hat, br_true, oz, br_false, hm, ha]) (by
    have hm : ((((e * (J - 1 + 1) : Nat) : Int).tmod (o : Int)) != 0) = false := by
      rw [tmod_nat, show J - 1 + 1 = J by omega, hyes]
      rfl
    simp only [f_s_ExponentOf_r2, f_s_ExponentOf_k2, ok_natsI hk, hat, br_true, oz, br_false, hm]
    rw [show J - 1 + 1 = J by omega, hJ]) 0 (Nat.zero_le _)
  have e0 : ((e * (0 + 1) : Nat) : Int) = (e : Int) := by rw [Nat.zero_add, Nat.mul_one]
  simp only [e0] at key
  exact key
theorem s_exp_eq {g : List Nat} (v : VG g) : f_s_ExponentOf (ints (natsI g)) = some ((expN g : Nat) : Int) := by
  have h3 := v.len
  have key := (loop_foldN (rd := f_s_ExponentOf_r0 (ints (natsI g))) g (fun (t : Nat) i => ((t : Int), i)) expF (fun t => ((t : Int), (g.length : Int))) (fun t => t ∣ ordN g) 1 (Nat.one_dvd _) (fun k t hk ht => by
    simp only [f_s_ExponentOf_r0, f_s_ExponentOf_k0, ints_length, natsI_length, lt_dec hk, br_true, s_exp_inner v hk ht, bl1_one, w64_nat (by omega : k < 9223372036854775807)])
    (fun k t hk ht => expF_dvd ht (mem_at hk))
    (fun t ht => by simp only [f_s_ExponentOf_r0, f_s_ExponentOf_k0, ints_length, natsI_length, lt_dec_self, br_false])).1
  have key : loopL (f_s_ExponentOf_r0 (ints (natsI g))) (1, 0) = some (.one (((expN g : Nat) : Int), (g.length : Int))) := key
  simp only [f_s_ExponentOf, f_s_ExponentOf_k, s_IsGroup_eq _ v.lim, v.isG, bo_some, Bool.not_true, br_false, key, bl1_one]
theorem expN_dvd {g : List Nat} (v : VG g) : expN g ∣ ordN g := by
  have key : ∀ (l : List Nat) (e : Nat), (∀ o ∈ l, o ∈ g) → e ∣ ordN g → l.foldl expF e ∣ ordN g := by
    intro l
    induction l with
    | nil => intro e _ he; exact he
    | cons o l ih => intro e hl he; exact ih _ (fun x hx => hl x (by simp [hx])) (expF_dvd he (hl o (by simp)))
  exact key g 1 (fun o h => h) (Nat.one_dvd _)

/-! ### Long sequences -/
def rotN (m a x : Nat) : Nat := ((a <<< x) ||| (a >>> (m - x))) % 2 ^ m
def shQ (g : List Nat) (a x : Nat) : Nat := match g with
  | [m] => rotN m a x
  | _ => shiftN g a x
/-- The row of the sets of sums by length, e + 1 of them, with one term more. -/
def rowQ (g : List Nat) (x : Nat) : List Nat → List Nat
  | b :: c :: r => b :: rowR g x b (c :: r)
  | r => r
where rowR (g : List Nat) (x : Nat) : Nat → List Nat → List Nat
  | b, c :: r => (c ||| shQ g b x) :: rowR g x c r
  | _, [] => []
/-- Every way to go on with n terms, each not less than the last one, comes to a part of sum 0 at the row's end. -/
def chkQ (g : List Nat) (o : Nat) : Nat → List Nat → Nat → Bool
  | n, B, a => match (B.getLastD 0).testBit 0 with
    | true => true
    | false => match n with
      | 0 => false
      | n + 1 => (List.range' a (o - a)).all fun x => chkQ g o n (rowQ g x B) x
def rowZ (e : Nat) : List Nat := 1 :: List.replicate e 0
def small5 (g : List Nat) : Bool := !Nat.ble (ordN g) 5 || (chkQ g (ordN g) 12 (rowZ (expN g)) 0 && (List.range (2 ^ ordN g)).all fun a => (List.range (ordN g)).all fun x => Nat.beq (shQ g a x) (shiftN g a x))
set_option maxRecDepth 100000 in
theorem all5 : (allG.all small5) = true := by decide +kernel
theorem small_of {g : List Nat} (v : VG g) (h5 : ordN g ≤ 5) : chkQ g (ordN g) 12 (rowZ (expN g)) 0 = true ∧ ∀ a, a < 2 ^ ordN g → ∀ x, x < ordN g → shQ g a x = shiftN g a x := by
  have h := List.all_eq_true.1 all5 g v.mem
  unfold small5 at h
  have hb : Nat.ble (ordN g) 5 = true := Nat.ble_eq_true_of_le h5
  rw [hb, Bool.not_true, Bool.false_or, Bool.and_eq_true] at h
  refine ⟨h.1, fun a ha x hx => ?_⟩
  have h1 := List.all_eq_true.1 h.2 a (List.mem_range.2 ha)
  have h2 := List.all_eq_true.1 h1 x (List.mem_range.2 hx)
  exact Nat.eq_of_beq_eq_true h2
theorem rowR_eq {g : List Nat} {x : Nat} {B : Nat → Nat} (hsh : ∀ k, shQ g (B k) x = shiftN g (B k) x) : ∀ (n k : Nat), rowQ.rowR g x (B k) ((List.range' (k + 1) n).map B) = (List.range' (k + 1) n).map (lenF g B x)
  | 0, k => rfl
  | n + 1, k => by
    rw [List.range'_succ, List.map_cons, List.map_cons, rowQ.rowR, rowR_eq hsh n (k + 1), hsh k]
    congr 1
theorem row_cons (e : Nat) (B : Nat → Nat) : rowN (e + 1) B = B 0 :: (List.range' 1 e).map B := by
  unfold rowN
  rw [List.range_eq_range', List.range'_succ, List.map_cons]
theorem rowQ_eq {g : List Nat} {x e : Nat} {B : Nat → Nat} (he : 1 ≤ e) (hsh : ∀ k, shQ g (B k) x = shiftN g (B k) x) : rowQ g x (rowN (e + 1) B) = rowN (e + 1) (lenF g B x) := by
  obtain ⟨d, rfl⟩ : ∃ d, e = d + 1 := ⟨e - 1, by omega⟩
  have := rowR_eq hsh (d + 1) 0
  rw [row_cons, row_cons]
  rw [Nat.zero_add] at this
  have e0 : lenF g B x 0 = B 0 := rfl
  rw [e0, ← this, List.range'_succ, List.map_cons]
  rfl
theorem row_last (e : Nat) (B : Nat → Nat) : (rowN (e + 1) B).getLastD 0 = B e := by
  unfold rowN
  rw [List.range_succ, List.map_append]
  simp
def AscF : Nat → List Nat → Prop
  | _, [] => True
  | a, x :: l => a ≤ x ∧ AscF x l
theorem lenN_grow (g l : List Nat) (x e : Nat) (h : (lenN g l e).testBit 0 = true) : (lenN g (l ++ [x]) e).testBit 0 = true := by
  rw [lenN_snoc]
  unfold lenF
  split
  · rename_i he; rw [he] at h; exact h
  · rw [Nat.testBit_or, h]; rfl
theorem lenN_mono (g : List Nat) (e : Nat) : ∀ (m l : List Nat), (lenN g l e).testBit 0 = true → (lenN g (l ++ m) e).testBit 0 = true
  | [], l, h => by rwa [List.append_nil]
  | x :: m, l, h => by
    have := lenN_mono g e m (l ++ [x]) (lenN_grow g l x e h)
    rwa [List.append_assoc] at this
theorem chk_long {g : List Nat} (v : VG g) {e : Nat} (he : 1 ≤ e) (hsh : ∀ a, a < 2 ^ ordN g → ∀ x, x < ordN g → shQ g a x = shiftN g a x) : ∀ (n a : Nat) (l m : List Nat), chkQ g (ordN g) n (rowN (e + 1) (lenN g l)) a = true → (∀ x ∈ m, x < ordN g) → AscF a m → m.length = n → (lenN g (l ++ m) e).testBit 0 = true
  | n, a, l, m, hc, hm, ha, hn => by
    unfold chkQ at hc
    rw [row_last] at hc
    cases hb : (lenN g l e).testBit 0 with
    | true => exact lenN_mono g e m l hb
    | false =>
      rw [hb] at hc
      cases n with
      | zero => cases hc
      | succ n =>
        cases m with
        | nil => cases hn
        | cons x m =>
          have hx := hm x (by simp)
          have h1 := List.all_eq_true.1 hc x (List.mem_range'_1.2 ⟨ha.1, by have := ha.1; omega⟩)
          rw [rowQ_eq he (fun k => hsh _ (lenN_lt v l k) x hx), ← lenN_snoc] at h1
          have := chk_long v he hsh n x (l ++ [x]) m h1 (fun y hy => hm y (by simp [hy])) ha.2 (by simpa using hn)
          rwa [List.append_assoc] at this
theorem rowZ_eq (g : List Nat) (e : Nat) : rowZ e = rowN (e + 1) (lenN g []) := by
  rw [row_cons]
  unfold rowZ
  congr 1
  have : ∀ (n k : Nat), List.replicate n 0 = (List.range' (k + 1) n).map (lenN g []) := by
    intro n
    induction n with
    | zero => intro k; rfl
    | succ n ih => intro k; rw [List.range'_succ, List.map_cons, List.replicate_succ, ih (k + 1)]; rfl
  exact this e 0
theorem expN_pos {g : List Nat} (v : VG g) : 1 ≤ expN g := (dvd_le24 v (expN_dvd v)).1
/-- Twelve terms in a group of order at most 5. -/
theorem long12 {g : List Nat} (v : VG g) (h5 : ordN g ≤ 5) {l : List Nat} (hl : ∀ x ∈ l, x < ordN g) (ha : AscF 0 l) (hn : l.length = 12) : (lenN g l (expN g)).testBit 0 = true := by
  obtain ⟨h1, h2⟩ := small_of v h5
  rw [rowZ_eq g] at h1
  have := chk_long v (expN_pos v) h2 12 0 [] l h1 hl ha hn
  rwa [List.nil_append] at this

/-! ### The search -/
def lastE (l : List Nat) : Nat := if l.length = 0 then 0 else l.getD (l.length - 1) 0
theorem lastE_snoc (l : List Nat) (x : Nat) : lastE (l ++ [x]) = x := by
  unfold lastE
  rw [List.length_append, List.length_singleton, if_neg (by omega), Nat.add_sub_cancel]
  simp [List.getD]
theorem lastE_D : ∀ l : List Nat, lastE l = l.getLastD 0 := by
  intro l
  refine rev_ind (P := fun l => lastE l = l.getLastD 0) rfl (fun l x _ => ?_) l
  rw [lastE_snoc]
  simp
theorem AscF_snoc : ∀ (l : List Nat) (a x : Nat), AscF a l → l.getLastD a ≤ x → AscF a (l ++ [x])
  | [], a, x, _, h => ⟨h, trivial⟩
  | y :: l, a, x, h1, h2 => ⟨h1.1, AscF_snoc l y x h1.2 (by rwa [List.getLastD_cons] at h2)⟩
theorem Asc_snoc {l : List Nat} {x : Nat} (h : AscF 0 l) (hx : lastE l ≤ x) : AscF 0 (l ++ [x]) := AscF_snoc l 0 x h (by rwa [← lastE_D])
theorem Asc_at : ∀ (l : List Nat) (a : Nat), AscF a l → ∀ k, k < l.length → (if k = 0 then a else l.getD (k - 1) 0) ≤ l.getD k 0
  | x :: l, a, h, 0, _ => by simpa using h.1
  | x :: l, a, h, k + 1, hk => by
    have := Asc_at l x h.2 k (by simpa using hk)
    rw [if_neg (by omega), Nat.add_sub_cancel]
    cases k with
    | zero => simpa using this
    | succ k =>
      rw [if_neg (by omega), Nat.add_sub_cancel] at this
      simpa using this
theorem seq_of_asc {g l : List Nat} (v : VG g) (hl : ∀ x ∈ l, x < ordN g) (h12 : l.length ≤ 12) (ha : AscF 0 l) : isSeq (natsI g) (natsI l) = true := by
  unfold isSeq
  rw [Bool.and_eq_true, Bool.and_eq_true, Bool.and_eq_true, v.isG, natsI_length]
  refine ⟨?_, rfl, decide_eq_true h12, ?_⟩
  · rw [Bool.not_eq_true', List.any_eq_false]
    intro x hx
    obtain ⟨n, hn, rfl⟩ := List.mem_map.1 hx
    have := (v.has (n : Int)).2 ⟨n, rfl, hl n hn⟩
    simp [this]
  · unfold sortedB
    rw [Bool.not_eq_true', List.any_eq_false]
    intro k hk
    have hk : k < l.length := by rw [natsI_length] at hk; exact List.mem_range.1 hk
    have := Asc_at l 0 ha k hk
    unfold downAt
    rw [natsI_getD, natsI_getD]
    by_cases h0 : k = 0
    · subst h0; simp
    · rw [if_neg h0] at this
      have hd : decide (((l.getD k 0 : Nat) : Int) < ((l.getD (k - 1) 0 : Nat) : Int)) = false := decide_eq_false (by omega)
      rw [hd, Bool.and_false]
      simp
theorem s_subLen_eq {g l : List Nat} (v : VS g l) (hs : isSeq (natsI g) (natsI l) = true) {k : Nat} (hk : k ≤ l.length) : f_s_SubsumsOfLength (ints (natsI g)) (ints (natsI l)) (k : Int) = some ((lenN g l k : Nat) : Int) := by
  have h12 := v.len
  have hlimL : (natsI l).length ≤ lim := by rw [natsI_length]; exact v.lim
  have hb : inB (k : Int) 0 (l.length : Int) = true := by simp [inB]; omega
  have e1 : w64 ((k : Int) + 1) = ((k + 1 : Nat) : Int) := w64_nat (by omega)
  have key := loop_count (rd := f_s_SubsumsOfLength_r0 (ints (natsI l)) (k : Int) (ints (natsI g))) (fun i => (ints (natsI (rowN (k + 1) (lenN g (l.take i)))), (i : Int))) l.length (a := (ints (natsI (rowN (k + 1) (lenN g (l.take l.length)))), (l.length : Int))) (fun i hi => by
      have e3 : rowN (k + 1) (lenN g (l.take i)) = rowN (k + 1) (midN g (lenN g (l.take i)) (l.getD i 0) k) := rowN_congr fun j hj => by
        unfold midN
        rw [if_neg (by omega)]
      have e4 := s_len_inner v.grp v.each (N := k + 1) (by omega) hi (lenN_lt v.grp (l.take i)) (k : Int) k (by omega)
      rw [← e3, ← lenN_snoc, ← take_snoc l hi] at e4
      simp only [f_s_SubsumsOfLength_r0, f_s_SubsumsOfLength_k0, ints_length, natsI_length, lt_dec hi, br_true, e4, bl1_one, w64_nat (by omega : i < 9223372036854775807)])
    (by simp only [f_s_SubsumsOfLength_r0, f_s_SubsumsOfLength_k0, ints_length, natsI_length, lt_dec_self, br_false]) 0 (Nat.zero_le _)
  rw [List.take_length] at key
  have h0 : ints (natsI (rowN (k + 1) (lenN g (l.take 0)))) = (List.replicate (k + 1) (Sc.n .i64 0)).set 0 (Sc.n .i64 1) := (row_start _ (by omega)).symm
  simp only [h0] at key
  rw [show ((0 : Nat) : Int) = 0 from rfl] at key
  have e5 : (decide (0 ≤ ((k + 1 : Nat) : Int)) && (decide (((k + 1 : Nat) : Int) ≤ ((k + 1 : Nat) : Int)) && decide (((k + 1 : Nat) : Int) ≤ (lim : Int)))) = true := by
    have : k + 1 ≤ lim := Nat.le_trans (by omega : k + 1 ≤ 13) (by decide)
    simp
    omega
  have e6 : inRange 0 ((List.replicate (k + 1) (Sc.n .i64 0)).length) = true := by
    rw [show (0 : Int) = ((0 : Nat) : Int) from rfl]
    exact in_nat (by simp)
  have gs : (rowN (k + 1) (lenN g l)).getD k 0 = lenN g l k := rowN_get (by omega)
  simp only [f_s_SubsumsOfLength, f_s_SubsumsOfLength_k, s_IsSequence_eq _ _ v.grp.lim hlimL, hs, bo_some, s_l1In_eq, ints_length, natsI_length, hb, e1, e5, Int.toNat_natCast, e6, br_true]
  rw [show (0 : Int).toNat = 0 from rfl, key]
  simp only [bl1_one, natsI_row_len, in_nat (by omega : k < k + 1), kAt_ints, atN_natsI, gs, br_true]
  rfl
def hasE (g l : List Nat) : Bool := (lenN g l (expN g)).testBit 0
theorem s_has_eq {g l : List Nat} (v : VS g l) (hs : isSeq (natsI g) (natsI l) = true) : f_s_l18Has (ints (natsI g)) (ints (natsI l)) ((expN g : Nat) : Int) = some (hasE g l) := by
  simp only [f_s_l18Has, f_s_l18Has_k, ints_length, natsI_length]
  unfold hasE
  by_cases h : expN g ≤ l.length
  · have d : decide ((l.length : Int) ≥ ((expN g : Nat) : Int)) = true := decide_eq_true (by omega)
    simp only [d, BEq.rfl, br_true, s_subLen_eq v hs h, bo_some, bit_test0 (set_i64 v.grp (lenN_lt v.grp l _))]
  · have d : decide ((l.length : Int) ≥ ((expN g : Nat) : Int)) = false := decide_eq_false (by omega)
    rw [d, lenN_big g l _ (by omega)]
    rfl
/-- The sequences of the search. -/
def egT (g : List Nat) : Nat → List Nat → Nat → List (List Nat)
  | 0, _, _ => []
  | n + 1, l, a => if hasE g l then [] else l :: (List.range' a (ordN g - a)).flatMap fun x => egT g n (l ++ [x]) x
theorem egT_has {g l : List Nat} (h : hasE g l = true) (n a : Nat) : egT g n l a = [] := by
  cases n with
  | zero => rfl
  | succ n => exact if_pos h
/-- A sequence of the search. -/
structure EV (g l : List Nat) : Prop where
  each : ∀ x ∈ l, x < ordN g
  asc : AscF 0 l
  len : l.length ≤ 12
theorem EV.snoc {g l : List Nat} (e : EV g l) {x : Nat} (hx : x < ordN g) (hl : lastE l ≤ x) (hn : l.length ≤ 11) : EV g (l ++ [x]) :=
  ⟨fun y hy => by
    rcases List.mem_append.1 hy with hy | hy
    · exact e.each y hy
    · rw [List.mem_singleton.1 hy]; exact hx, Asc_snoc e.asc hl, by rw [List.length_append, List.length_singleton]; omega⟩
theorem EV.less {g l : List Nat} (v : VG g) (h5 : ordN g ≤ 5) (e : EV g l) (h : hasE g l = false) : l.length ≤ 11 := by
  have := e.len
  rcases Nat.lt_or_ge l.length 12 with h1 | h1
  · omega
  · have := long12 v h5 e.each e.asc (by omega)
    unfold hasE at h
    rw [h] at this
    cases this
theorem EV.vs {g l : List Nat} (v : VG g) (e : EV g l) : VS g l := ⟨v, e.each, e.len⟩
theorem EV.seq {g l : List Nat} (v : VG g) (e : EV g l) : isSeq (natsI g) (natsI l) = true := seq_of_asc v e.each e.len e.asc
theorem EV.lastLe {g l : List Nat} (v : VG g) (e : EV g l) : lastE l ≤ ordN g := by
  unfold lastE
  split
  · exact Nat.zero_le _
  · have := e.each (l.getD (l.length - 1) 0) (mem_at (by omega))
    omega
theorem l18_le : ∀ n a, Le (f_s_l18Longest_n n a) (f_s_l18Longest_n (n + 1) a)
  | 0, _ => Le.no
  | n + 1, a => by
    have ih := l18_le n
    simp only [f_s_l18Longest_n, f_s_l18Longest_k]
    refine Le.bl1 (Le.loop fun s => ?_) fun e => Le.same
    simp only [f_s_l18Longest_r0, f_s_l18Longest_k0]
    exact Le.bo Le.same fun r => Le.br (Le.br (Le.br (Le.br (Le.bo Le.same fun r => Le.br Le.same (Le.bo (ih _) fun r => Le.same)) Le.same) Le.same) Le.same) Le.same
theorem s_l18_fuel {g : List Nat} (v : VG g) (h5 : ordN g ≤ 5) : ∀ (n : Nat) (l : List Nat), EV g l → hasE g l = false → 12 ≤ l.length + n →
    f_s_l18Longest_n n (ints (natsI g), ints (natsI l), ((expN g : Nat) : Int), ((lastE l : Nat) : Int)) = some (ints (natsI (((List.range' (lastE l) (ordN g - lastE l)).flatMap fun x => egT g n (l ++ [x]) x).foldl lbF l)))
  | 0, l, e, hh, hn => by
    have := e.less v h5 hh
    omega
  | n + 1, l, e, hh, hn => by
    have h11 := e.less v h5 hh
    have key := (loop_rng (rd := f_s_l18Longest_r0 (f_s_l18Longest_n n) (ints (natsI l)) ((expN g : Nat) : Int) (ints (natsI g))) (fun (t : List Nat) x => (ints (natsI t), x)) (lastE l) (ordN g) (e.lastLe v)
        (fun t x => if hasE g (l ++ [x]) then t else lbF t (((List.range' x (ordN g - x)).flatMap fun y => egT g n (l ++ [x] ++ [y]) y).foldl lbF (l ++ [x]))) (fun t => (ints (natsI t), (ordN g : Int))) (fun _ => True) l trivial
        (fun x t hax hx _ => by
          have e' := e.snoc hx hax h11
          have c1 : decide (([] : List Sc).length + l.length ≤ lim) = true := by
            rw [List.length_nil, Nat.zero_add]
            exact decide_eq_true (Nat.le_trans h11 (by decide))
          have c2 : decide (l.length + [Sc.n .i64 (x : Int)].length ≤ lim) = true := by
            rw [List.length_singleton]
            exact decide_eq_true (Nat.le_trans (show l.length + 1 ≤ 12 by omega) (by decide))
          have c3 : decide (((l ++ [x]).length : Int) > 12) = false := decide_eq_false (by have := e'.len; omega)
          simp only [f_s_l18Longest_r0, f_s_l18Longest_k0, s_l2Order_eq _ v.lim, v.ordS, bo_some, lt_dec hx, br_true, c1, List.nil_append, ints_cast_snoc, ints_length, natsI_length, c2, c3, BEq.rfl, s_has_eq (e'.vs v) (e'.seq v), w64_nat (by omega : x < 9223372036854775807)]
          cases hc : hasE g (l ++ [x]) with
          | true => rfl
          | false =>
            have ih := s_l18_fuel v h5 n (l ++ [x]) e' hc (by rw [List.length_append, List.length_singleton]; omega)
            rw [lastE_snoc] at ih
            simp only [br_false, ih, bo_some]
            have := lb_dec t (((List.range' x (ordN g - x)).flatMap fun y => egT g n (l ++ [x] ++ [y]) y).foldl lbF (l ++ [x]))
            simp only [ints_length, natsI_length] at this
            simp only [ints_length, natsI_length, this]
            by_cases hl : t.length < (((List.range' x (ordN g - x)).flatMap fun y => egT g n (l ++ [x] ++ [y]) y).foldl lbF (l ++ [x])).length
            · have ef : lbF t (((List.range' x (ordN g - x)).flatMap fun y => egT g n (l ++ [x] ++ [y]) y).foldl lbF (l ++ [x])) = (((List.range' x (ordN g - x)).flatMap fun y => egT g n (l ++ [x] ++ [y]) y).foldl lbF (l ++ [x])) := if_pos hl
              rw [decide_eq_true hl, ef]; rfl
            · have ef : lbF t (((List.range' x (ordN g - x)).flatMap fun y => egT g n (l ++ [x] ++ [y]) y).foldl lbF (l ++ [x])) = t := if_neg hl
              rw [decide_eq_false hl, ef]; rfl)
        (fun _ _ _ _ _ => trivial)
        (fun t _ => by simp only [f_s_l18Longest_r0, f_s_l18Longest_k0, s_l2Order_eq _ v.lim, v.ordS, bo_some, lt_dec_self, br_false])).1
    simp only [f_s_l18Longest_n, f_s_l18Longest_k, key, bl1_one]
    rw [List.foldl_flatMap]
    congr 3
    refine fold_congr fun t x hx => ?_
    have hx := List.mem_range'_1.1 hx
    cases hc : hasE g (l ++ [x]) with
    | true => rw [egT_has hc]; rfl
    | false =>
      have e1 : egT g (n + 1) (l ++ [x]) x = (l ++ [x]) :: (List.range' x (ordN g - x)).flatMap fun y => egT g n (l ++ [x] ++ [y]) y := if_neg (by rw [hc]; simp)
      rw [e1, List.foldl_cons, lbF_fold]
      rfl
theorem egz_le : ∀ n a, Le (f_i_EgzExample_1_n n a) (f_i_EgzExample_1_n (n + 1) a)
  | 0, _ => Le.no
  | n + 1, a => by
    have ih := egz_le n
    simp only [f_i_EgzExample_1_n, f_i_EgzExample_1_k]
    have hl : ∀ (l g : List Sc) st, Le (loopL (f_i_EgzExample_1_r0 (f_i_EgzExample_1_n n) l g) st) (loopL (f_i_EgzExample_1_r0 (f_i_EgzExample_1_n (n + 1)) l g) st) := fun l g st => by
      refine Le.loop fun s => ?_
      simp only [f_i_EgzExample_1_r0, f_i_EgzExample_1_k0]
      exact Le.bo Le.same fun r => Le.br (Le.bo Le.same fun r => Le.br (Le.bo (ih _) fun r => Le.same) Le.same) Le.same
    have h2 : ∀ (l g best h2 : List Sc) (h0 : Int) (R : Type) (k : Int × List Sc × List Sc → Option R), Le
        (br (decide ((l.length : Int) > 0)) (br (okAt l (w64 ((l.length : Int) - 1))) (bl1 (loopL (f_i_EgzExample_1_r0 (f_i_EgzExample_1_n n) l g) (h0, best, h2, atI l (w64 ((l.length : Int) - 1)))) (0, [], []) k) none) (bl1 (loopL (f_i_EgzExample_1_r0 (f_i_EgzExample_1_n n) l g) (h0, best, h2, 0)) (0, [], []) k))
        (br (decide ((l.length : Int) > 0)) (br (okAt l (w64 ((l.length : Int) - 1))) (bl1 (loopL (f_i_EgzExample_1_r0 (f_i_EgzExample_1_n (n + 1)) l g) (h0, best, h2, atI l (w64 ((l.length : Int) - 1)))) (0, [], []) k) none) (bl1 (loopL (f_i_EgzExample_1_r0 (f_i_EgzExample_1_n (n + 1)) l g) (h0, best, h2, 0)) (0, [], []) k)) :=
      fun l g best h2 h0 R k => Le.br (Le.br (Le.bl1 (hl _ _ _) fun e => Le.same) Le.same) (Le.bl1 (hl _ _ _) fun e => Le.same)
    exact Le.br (Le.bo Le.same fun r => Le.br (Le.br (Le.bo Le.same fun r => Le.br Le.same (Le.br (h2 _ _ _ _ _ _ _) (h2 _ _ _ _ _ _ _))) Le.same) Le.same) (Le.br (h2 _ _ _ _ _ _ _) (h2 _ _ _ _ _ _ _))
theorem i_egz_fuel {g : List Nat} (v : VG g) (h5 : ordN g ≤ 5) : ∀ (n : Nat) (l t : List Nat), EV g l → 13 ≤ l.length + n →
    f_i_EgzExample_1_n n (ints (natsI l), ints (natsI g), ((expN g : Nat) : Int), ints (natsI t), ints (natsI g)) = some (((expN g : Nat) : Int), ints (natsI ((egT g n l (lastE l)).foldl lbF t)), ints (natsI g))
  | 0, l, t, e, hn => by
    have := e.len
    omega
  | n + 1, l, t, e, hn => by
    have key := fun (_ : hasE g l = false) (t0 : List Nat) => (loop_rng (rd := f_i_EgzExample_1_r0 (f_i_EgzExample_1_n n) (ints (natsI l)) (ints (natsI g))) (fun (t : List Nat) x => (((expN g : Nat) : Int), ints (natsI t), ints (natsI g), x)) (lastE l) (ordN g) (e.lastLe v)
        (fun t x => (egT g n (l ++ [x]) x).foldl lbF t) (fun t => (((expN g : Nat) : Int), ints (natsI t), ints (natsI g))) (fun _ => True) t0 trivial
        (fun x t hax hx _ => by
          have h11 := e.less v h5 ‹_›
          have e' := e.snoc hx hax h11
          have c1 : decide (([] : List Sc).length + l.length ≤ lim) = true := by
            rw [List.length_nil, Nat.zero_add]
            exact decide_eq_true (Nat.le_trans h11 (by decide))
          have c2 : decide (l.length + [Sc.n .i64 (x : Int)].length ≤ lim) = true := by
            rw [List.length_singleton]
            exact decide_eq_true (Nat.le_trans (show l.length + 1 ≤ 12 by omega) (by decide))
          have ih := i_egz_fuel v h5 n (l ++ [x]) t e' (by rw [List.length_append, List.length_singleton]; omega)
          rw [lastE_snoc] at ih
          simp only [f_i_EgzExample_1_r0, f_i_EgzExample_1_k0, i_OrderOf_eq _ v.lim, v.ordG, bo_some, lt_dec hx, br_true, f_i_copyInts, f_i_copyInts_k, ints_length, natsI_length, c1, List.nil_append, c2, ints_cast_snoc, ih, w64_nat (by omega : x < 9223372036854775807)])
        (fun _ _ _ _ _ => trivial)
        (fun t _ => by simp only [f_i_EgzExample_1_r0, f_i_EgzExample_1_k0, i_OrderOf_eq _ v.lim, v.ordG, bo_some, lt_dec_self, br_false])).1
    have tail : ∀ (_ : hasE g l = false) (t0 : List Nat), (br (decide ((l.length : Int) > 0)) (br (okAt (ints (natsI l)) (w64 ((l.length : Int) - 1))) (bl1 (loopL (f_i_EgzExample_1_r0 (f_i_EgzExample_1_n n) (ints (natsI l)) (ints (natsI g))) (((expN g : Nat) : Int), ints (natsI t0), ints (natsI g), atI (ints (natsI l)) (w64 ((l.length : Int) - 1)))) (0, [], []) fun e => some (e.1, e.2.1, e.2.2)) none) (bl1 (loopL (f_i_EgzExample_1_r0 (f_i_EgzExample_1_n n) (ints (natsI l)) (ints (natsI g))) (((expN g : Nat) : Int), ints (natsI t0), ints (natsI g), 0)) (0, [], []) fun e => some (e.1, e.2.1, e.2.2))) =
        some (((expN g : Nat) : Int), ints (natsI (((List.range' (lastE l) (ordN g - lastE l)).flatMap fun x => egT g n (l ++ [x]) x).foldl lbF t0)), ints (natsI g)) := fun hh t0 => by
      have key := key hh t0
      rw [List.foldl_flatMap]
      by_cases h0 : l.length = 0
      · have e1 : lastE l = 0 := if_pos h0
        have e2 : decide ((l.length : Int) > 0) = false := by rw [h0]; rfl
        rw [e1] at key ⊢
        rw [show ((0 : Nat) : Int) = 0 from rfl] at key
        rw [e2, br_false, key]
        rfl
      · have e1 : lastE l = l.getD (l.length - 1) 0 := if_neg h0
        have e2 : decide ((l.length : Int) > 0) = true := decide_eq_true (by omega)
        have h12 := e.len
        have e3 : w64 ((l.length : Int) - 1) = ((l.length - 1 : Nat) : Int) := by rw [show (l.length : Int) - 1 = ((l.length - 1 : Nat) : Int) by omega]; exact w64_cast (by omega)
        rw [e1] at key ⊢
        simp only [e2, e3, br_true, ok_natsI (show l.length - 1 < l.length by omega), at_natsI, key, bl1_one]
    have tail2 : ∀ (_ : hasE g l = false), (br (decide ((l.length : Int) > (t.length : Int))) (br (decide ((l.length : Int) > 0)) (br (okAt (ints (natsI l)) (w64 ((l.length : Int) - 1))) (bl1 (loopL (f_i_EgzExample_1_r0 (f_i_EgzExample_1_n n) (ints (natsI l)) (ints (natsI g))) (((expN g : Nat) : Int), ints (natsI l), ints (natsI g), atI (ints (natsI l)) (w64 ((l.length : Int) - 1)))) (0, [], []) fun e => some (e.1, e.2.1, e.2.2)) none) (bl1 (loopL (f_i_EgzExample_1_r0 (f_i_EgzExample_1_n n) (ints (natsI l)) (ints (natsI g))) (((expN g : Nat) : Int), ints (natsI l), ints (natsI g), 0)) (0, [], []) fun e => some (e.1, e.2.1, e.2.2)))
        (br (decide ((l.length : Int) > 0)) (br (okAt (ints (natsI l)) (w64 ((l.length : Int) - 1))) (bl1 (loopL (f_i_EgzExample_1_r0 (f_i_EgzExample_1_n n) (ints (natsI l)) (ints (natsI g))) (((expN g : Nat) : Int), ints (natsI t), ints (natsI g), atI (ints (natsI l)) (w64 ((l.length : Int) - 1)))) (0, [], []) fun e => some (e.1, e.2.1, e.2.2)) none) (bl1 (loopL (f_i_EgzExample_1_r0 (f_i_EgzExample_1_n n) (ints (natsI l)) (ints (natsI g))) (((expN g : Nat) : Int), ints (natsI t), ints (natsI g), 0)) (0, [], []) fun e => some (e.1, e.2.1, e.2.2)))) =
        some (((expN g : Nat) : Int), ints (natsI ((egT g (n + 1) l (lastE l)).foldl lbF t)), ints (natsI g)) := fun hh => by
      have e1 : egT g (n + 1) l (lastE l) = l :: (List.range' (lastE l) (ordN g - lastE l)).flatMap fun x => egT g n (l ++ [x]) x := if_neg (by rw [hh]; simp)
      rw [e1, List.foldl_cons]
      by_cases hl : t.length < l.length
      · have ef : lbF t l = l := if_pos hl
        have d : decide ((l.length : Int) > (t.length : Int)) = true := decide_eq_true (by omega)
        rw [d, br_true, tail hh l, ef]
      · have ef : lbF t l = t := if_neg hl
        have d : decide ((l.length : Int) > (t.length : Int)) = false := decide_eq_false (by omega)
        rw [d, br_false, tail hh t, ef]
    simp only [f_i_EgzExample_1_n, f_i_EgzExample_1_k, ints_length, natsI_length]
    by_cases he : expN g ≤ l.length
    · have d : decide ((l.length : Int) ≥ ((expN g : Nat) : Int)) = true := decide_eq_true (by omega)
      have gi : (rowN (l.length + 1) (lenN g l)).getD (expN g) 0 = lenN g l (expN g) := rowN_get (by omega)
      have hin := i_in_eq (a := lenN g l (expN g)) (k := 0) (set_i64 v (lenN_lt v l _))
      rw [show ((0 : Nat) : Int) = 0 from rfl] at hin
      simp only [d, BEq.rfl, br_true, i_byLength_eq v e.each e.len, bo_some, natsI_row_len, in_nat (by omega : expN g < l.length + 1), Int.toNat_natCast, kAt_ints, atN_natsI, gi, hin]
      have ed : hasE g l = (lenN g l (expN g)).testBit 0 := rfl
      rw [← ed]
      cases hh : hasE g l with
      | true => rw [egT_has hh]; rfl
      | false => exact tail2 hh
    · have d : decide ((l.length : Int) ≥ ((expN g : Nat) : Int)) = false := decide_eq_false (by omega)
      have hh : hasE g l = false := by
        unfold hasE
        rw [lenN_big g l _ (by omega)]
        rfl
      have bf : (false == true) = false := rfl
      simp only [d, bf, br_false]
      exact tail2 hh
/-- The first of the longest sequences without a part of sum 0 and as many terms as the exponent. -/
def egzN (g : List Nat) : List Nat := (egT g 13 [] 0).foldl lbF []
theorem egT_len (g : List Nat) : ∀ (n : Nat) (l : List Nat) (a : Nat), ∀ m ∈ egT g n l a, m.length ≤ l.length + n
  | 0, _, _, m, h => by cases h
  | n + 1, l, a, m, h => by
    unfold egT at h
    split at h
    · cases h
    · rcases List.mem_cons.1 h with rfl | h
      · omega
      · obtain ⟨x, _, hm⟩ := List.mem_flatMap.1 h
        have := egT_len g n _ _ m hm
        rw [List.length_append, List.length_singleton] at this
        omega
theorem EgzExample_both (G : List Int) (h : G.length ≤ lim) : ∃ R b, f_s_EgzExample (ints G) = some (ints R, b) ∧ f_i_EgzExample (ints G) = some (ints R, b) ∧ R.length ≤ 13 := by
  simp only [f_s_EgzExample, f_s_EgzExample_k, f_i_EgzExample, f_i_EgzExample_k, s_IsGroup_eq G h, i_IsGroup_eq G h, s_l2Order_eq G h, i_OrderOf_eq G h, bo_some]
  cases hg : isG G with
  | false => exact ⟨[], _, rfl, rfl, by simp⟩
  | true =>
    obtain ⟨g, rfl, v⟩ := nat_of_isG hg
    rw [v.ordS, v.ordG]
    by_cases h9 : ((ordN g : Nat) : Int) > 5
    · rw [decide_eq_true h9]
      exact ⟨[], _, rfl, rfl, by simp⟩
    · rw [decide_eq_false h9]
      have h5 : ordN g ≤ 5 := by omega
      have ev : EV g [] := ⟨by simp, trivial, by simp⟩
      have hh : hasE g [] = false := by
        unfold hasE
        rw [lenN_big g [] _ (expN_pos v)]
        rfl
      have e1 := limF_le l18_le (s_l18_fuel v h5 12 [] ev hh (by simp))
      have e2 := limF_le egz_le (i_egz_fuel v h5 13 [] [] ev (by simp))
      have et : egT g 13 [] 0 = [] :: (List.range' 0 (ordN g - 0)).flatMap fun x => egT g 12 ([] ++ [x]) x := if_neg (by rw [hh]; simp)
      have e1' : f_s_l18Longest (ints (natsI g)) [] ((expN g : Nat) : Int) 0 = some (ints (natsI (egzN g))) := by
        unfold egzN
        rw [et, List.foldl_cons]
        exact e1
      have e2' : f_i_EgzExample_1 [] (ints (natsI g)) ((expN g : Nat) : Int) [] (ints (natsI g)) = some (((expN g : Nat) : Int), ints (natsI (egzN g)), ints (natsI g)) := e2
      refine ⟨natsI (egzN g), true, ?_, ?_, ?_⟩
      · simp only [s_exp_eq v, e1', bo_some]; rfl
      · simp only [i_exp_eq v, e2', bo_some]; rfl
      · rw [natsI_length]
        unfold egzN
        rcases fold_lb_mem (egT g 13 [] 0) [] with h | h
        · rw [h]; exact Nat.zero_le _
        · have := egT_len g 13 [] 0 _ h
          simpa using this
end Go.Proofs.Ytphbclogflflmaa
