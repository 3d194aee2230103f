/-
  PlainAE: FindFreimanIso.
-/
import Derived.Test.YtdlofeehgkijhaaPlainZ
set_option linter.unusedVariables false
set_option linter.unusedSimpArgs false
namespace Go.Proofs.Ytdlofeehgkijhaa
open Go Ev

theorem andNot_pow {u y : Nat} (hu : u < 16777216) (hy : y < 24) (hb : u.testBit y = false) : andNot64 ((u ||| 2 ^ y : Nat) : Int) ((2 ^ y : Nat) : Int) = (u : Int) := by
  have hp : 2 ^ y < 16777216 := Nat.pow_lt_pow_right (n := 24) (a := 2) (by decide) hy
  have ha : u ||| 2 ^ y < 16777216 := Nat.or_lt_two_pow (n := 24) hu hp
  have : (BitVec.ofInt 64 ((u ||| 2 ^ y : Nat) : Int) &&& ~~~ BitVec.ofInt 64 ((2 ^ y : Nat) : Int)).toNat = u := by
    apply Nat.eq_of_testBit_eq
    intro i
    rw [BitVec.testBit_toNat, BitVec.getLsbD_and, BitVec.getLsbD_not, ← BitVec.testBit_toNat, ← BitVec.testBit_toNat, ofInt_cast (by omega), ofInt_cast (by omega), Nat.testBit_or, pow_test]
    by_cases hi : i < 64
    · by_cases e : y = i
      · subst e; simp [hb]
      · simp [hi, e]
    · rw [Nat.testBit_lt_two_pow (Nat.lt_of_lt_of_le hu (Nat.pow_le_pow_right (n := 2) (i := 24) (by decide) (by omega)))]
      simp [hi]
  show IntKind.i64.wrap ((BitVec.ofInt 64 ((u ||| 2 ^ y : Nat) : Int) &&& ~~~ BitVec.ofInt 64 ((2 ^ y : Nat) : Int)).toNat : Int) = _
  rw [this, wrap_cast (by omega)]
def usedN (p : List Nat) : Nat := p.foldl (fun u x => u ||| 2 ^ x) 0
theorem used_snoc (p : List Nat) (x : Nat) : usedN (p ++ [x]) = usedN p ||| 2 ^ x := by
  unfold usedN
  rw [List.foldl_append]
  rfl
theorem used_test : ∀ (p : List Nat) (y : Nat), (usedN p).testBit y = p.any fun x => decide (x = y) := by
  intro p
  refine rev_ind (P := fun p => ∀ y, (usedN p).testBit y = p.any fun x => decide (x = y)) ?_ ?_ p
  · intro y; simp [usedN]
  · intro p x ih y
    rw [used_snoc, Nat.testBit_or, ih y, pow_test, List.any_append]
    simp
theorem used_lt {p : List Nat} {n : Nat} (h : ∀ x ∈ p, x < n) : usedN p < 2 ^ n := orFold_lt (Nat.two_pow_pos _) fun y hy => two_pow_lt (h y hy)
def inP (p : List Nat) (y : Nat) : Bool := p.any fun x => decide (x = y)
/-- Different terms. -/
def difN : List Nat → Bool
  | [] => true
  | x :: l => !inP l x && difN l
theorem dif_snoc (y : Nat) : ∀ p : List Nat, difN (p ++ [y]) = (difN p && !inP p y)
  | [] => rfl
  | x :: p => by
    have e1 : difN (x :: p ++ [y]) = (!inP (p ++ [y]) x && difN (p ++ [y])) := rfl
    have e2 : inP (p ++ [y]) x = (inP p x || decide (y = x)) := by unfold inP; rw [List.any_append]; simp
    have e3 : inP (x :: p) y = (decide (x = y) || inP p y) := by unfold inP; rw [List.any_cons]
    have e4 : difN (x :: p) = (!inP p x && difN p) := rfl
    have e5 : decide (y = x) = decide (x = y) := by
      by_cases h : y = x
      · rw [decide_eq_true h, decide_eq_true h.symm]
      · rw [decide_eq_false h, decide_eq_false (fun e => h e.symm)]
    rw [e1, e2, e3, e4, dif_snoc y p, e5]
    cases inP p x <;> cases difN p <;> cases inP p y <;> cases decide (x = y) <;> rfl
theorem setR_dif {g : List Nat} (v : VG g) : ∀ (l : List Nat) (acc : Nat), (∀ x ∈ l, x < ordN g) → (setR (natsI g) acc (natsI l)).isSome = (difN l && l.all fun x => !acc.testBit x)
  | [], acc, _ => rfl
  | x :: l, acc, h => by
    have hx : hasG (natsI g) (x : Int) = true := (v.has _).2 ⟨x, rfl, h x (by simp)⟩
    have e : natsI (x :: l) = (x : Int) :: natsI l := rfl
    rw [e, setR, hx, Int.toNat_natCast]
    have ed : difN (x :: l) = (!inP l x && difN l) := rfl
    have ea : ((x :: l).all fun z => !acc.testBit z) = (!acc.testBit x && l.all fun z => !acc.testBit z) := rfl
    rw [ed, ea]
    cases hb : acc.testBit x with
    | true => simp
    | false =>
      rw [if_neg (by simp), setR_dif v l _ (fun y hy => h y (by simp [hy]))]
      have : (l.all fun z => !(acc ||| 2 ^ x).testBit z) = ((l.all fun z => !acc.testBit z) && !inP l x) := by
        clear h e ed ea
        induction l with
        | nil => rfl
        | cons z l ih =>
          rw [List.all_cons, List.all_cons, ih, Nat.testBit_or, pow_test]
          have e3 : inP (z :: l) x = (decide (z = x) || inP l x) := by unfold inP; rw [List.any_cons]
          have e5 : decide (x = z) = decide (z = x) := by
            by_cases h : x = z
            · rw [decide_eq_true h, decide_eq_true h.symm]
            · rw [decide_eq_false h, decide_eq_false (fun e => h e.symm)]
          rw [e3, e5]
          cases acc.testBit z <;> cases decide (z = x) <;> cases (l.all fun z => !acc.testBit z) <;> cases inP l x <;> rfl
      rw [this]
      cases difN l <;> cases (l.all fun z => !acc.testBit z) <;> cases inP l x <;> rfl
theorem setRes_dif {g : List Nat} (v : VG g) {l : List Nat} (h : ∀ x ∈ l, x < ordN g) : (setRes (natsI g) (natsI l)).2 = difN l := by
  have := setR_dif v l 0 h
  have ha : (l.all fun x => !(0 : Nat).testBit x) = true := by simp
  rw [ha, Bool.and_true] at this
  unfold setRes
  cases hs : setR (natsI g) 0 (natsI l) with
  | none => rw [hs] at this; exact this
  | some a => rw [hs] at this; rw [← this]; exact v.isG
theorem dif_pair : ∀ l : List Nat, l.Pairwise (· < ·) → difN l = true
  | [], _ => rfl
  | x :: l, h => by
    obtain ⟨h1, h2⟩ := List.pairwise_cons.1 h
    show (!inP l x && difN l) = true
    rw [dif_pair l h2, Bool.and_true, Bool.not_eq_true']
    unfold inP
    rw [List.any_eq_false]
    intro y hy
    have := h1 y hy
    simp
    omega
theorem dif_elems (a : Nat) : difN (elems a) = true := dif_pair _ (List.Pairwise.filter _ List.pairwise_lt_range)
/-- The first way to go on to a map that keeps sums, as does its inverse. -/
def fiN (g h l Y : List Nat) : Nat → List Nat → Option (List Nat)
  | 0, p => if keepN g h l p && keepN h g p l then some p else none
  | d + 1, p => Y.findSome? fun y => if inP p y then none else fiN g h l Y d (p ++ [y])
theorem fiN_none {g h l Y : List Nat} : ∀ (d : Nat) (p : List Nat), p.length + d = l.length → skp0 g h (l.take p.length) p = true → fiN g h l Y d p = none
  | 0, p, hp, hs => by
    have : skp0 g h l p = true := skp_pre (by omega) (fun _ _ => rfl) hs
    have e : keepN g h l p = false := by unfold keepN; rw [this]; rfl
    unfold fiN
    rw [e]
    rfl
  | d + 1, p, hp, hs => by
    unfold fiN
    rw [List.findSome?_eq_none_iff]
    intro y _
    split
    · rfl
    · refine fiN_none d (p ++ [y]) (by rw [List.length_append, List.length_singleton]; omega) ?_
      have ht : (l.take (p ++ [y]).length).take p.length = l.take p.length := by rw [List.take_take, List.length_append, List.length_singleton, Nat.min_eq_left (by omega)]
      refine skp_pre (p := p) (by rw [List.length_take, List.length_append, List.length_singleton]; omega) (fun i hi => ?_) (by rw [ht]; exact hs)
      simp [List.getD, List.getElem?_append_left hi]
def resS (o : Option (List Nat)) (d : Nat) (p : List Nat) : List Sc × Bool := match o with
  | some m => (ints (natsI m), true)
  | none => (if d = 0 then ints (natsI p) else [], false)
theorem l15Find_le : ∀ n a, Le (f_s_l15Find_n n a) (f_s_l15Find_n (n + 1) a)
  | 0, _ => Le.no
  | n + 1, a => by
    have ih := l15Find_le n
    simp only [f_s_l15Find_n, f_s_l15Find_k]
    refine Le.br Le.same (Le.bo Le.same fun r => Le.bl (Le.loop fun s => ?_) (fun e => Le.same) fun e => Le.same)
    simp only [f_s_l15Find_r0, f_s_l15Find_k0]
    exact Le.br (Le.br (Le.br (Le.br (Le.br (Le.bo Le.same fun r => Le.br (Le.br (Le.bo Le.same fun r => Le.br Le.same (Le.bo (ih _) fun r => Le.same)) Le.same) Le.same) Le.same) Le.same) Le.same) Le.same) Le.same
theorem fm_val {g h l m : List Nat} (v : VM g h l m) (h1 : 1 ≤ l.length) (hd : difN l = true) : f_s_IsFreimanMap (ints (natsI g)) (ints (natsI h)) (ints (natsI l)) (ints (natsI m)) = some (keepN g h l m) := by
  have h6 := v.six
  have hlen := v.len
  have hc : fmCond (natsI g) (natsI h) (natsI l) (natsI m) = true := by
    unfold fmCond
    have e1 : (natsI m).any (fun x => !hasG (natsI h) x) = false := by
      rw [List.any_eq_false]
      intro x hx
      obtain ⟨n, hn, rfl⟩ := List.mem_map.1 hx
      have := (v.hh.has (n : Int)).2 ⟨n, rfl, v.mm n hn⟩
      simp [this]
    have e3 : inB (l.length : Int) 1 6 = true := by simp [inB]; omega
    rw [e1, setRes_dif v.gg v.ll, hd, v.hh.isG, natsI_length, natsI_length, decide_eq_true hlen, e3]
    rfl
  exact (s_IsFreimanMap_eq (natsI g) (natsI h) (natsI l) (natsI m) v.gg.lim v.hh.lim (by rw [natsI_length]; exact Nat.le_trans h6 (by decide)) (by rw [natsI_length]; exact Nat.le_trans (show m.length ≤ 6 by omega) (by decide))).2 g h l m v hc rfl rfl rfl rfl
theorem s_find_fuel {g h l Y : List Nat} {b : Nat} (vg : VG g) (vh : VG h) (hl : ∀ x ∈ l, x < ordN g) (h1 : 1 ≤ l.length) (h5 : l.length ≤ 5) (hd : difN l = true) (hb : b < 9223372036854775808) (hY : elems b = Y) (hY' : ∀ y ∈ Y, y < ordN h) : ∀ (n d : Nat) (p : List Nat), d < n → p.length + d = l.length → (∀ x ∈ p, x < ordN h) → difN p = true →
    f_s_l15Find_n n (ints (natsI g), ints (natsI h), ints (natsI l), ints (natsI p), (b : Int)) = some (resS (fiN g h l Y d p) d p)
  | 0, d, p, hdn, _, _, _ => by omega
  | n + 1, 0, p, hdn, hp, hx, hdp => by
    have e : ((p.length : Int) == (l.length : Int)) = true := by rw [eq_nat_dec]; exact decide_eq_true (by omega)
    have vm : VM g h l p := ⟨vg, vh, hl, hx, by omega, by omega⟩
    have vm' : VM h g p l := ⟨vh, vg, hx, hl, by omega, by omega⟩
    simp only [f_s_l15Find_n, f_s_l15Find_k, ints_length, natsI_length, e, br_true, f_s_IsFreimanIso, f_s_IsFreimanIso_k, fm_val vm h1 hd, fm_val vm' (by omega) hdp, bo_some]
    unfold fiN resS
    cases keepN g h l p <;> cases keepN h g p l <;> rfl
  | n + 1, d + 1, p, hdn, hp, hx, hdp => by
    have e : ((p.length : Int) == (l.length : Int)) = false := by rw [eq_nat_dec]; exact decide_eq_false (by omega)
    have hYl : Y.length ≤ 63 := by rw [← hY]; exact elems_len b
    have loop : ∀ (c k : Nat), k + c = Y.length → loopL (f_s_l15Find_r0 (f_s_l15Find_n n) (ints (natsI l)) (ints (natsI p)) (b : Int) (ints (natsI g)) (ints (natsI h))) (ints (natsI Y), (k : Int)) =
        match (Y.drop k).findSome? fun y => if inP p y then none else fiN g h l Y d (p ++ [y]) with
        | some m => some (.two (ints (natsI m)))
        | none => some (.one (ints (natsI Y), (Y.length : Int))) := by
      intro c
      induction c with
      | zero =>
        intro k hk
        rw [show k = Y.length by omega, List.drop_length]
        refine loopL_one ?_
        simp only [f_s_l15Find_r0, f_s_l15Find_k0, ints_length, natsI_length, lt_dec_self, br_false]
      | succ c ih =>
        intro k hk
        have hkl : k < Y.length := by omega
        have hy : Y.getD k 0 < ordN h := hY' _ (by simp [List.getD, List.getElem?_eq_getElem hkl])
        have edr : Y.drop k = Y.getD k 0 :: Y.drop (k + 1) := by
          rw [List.drop_eq_getElem_cons hkl]
          simp [List.getD, List.getElem?_eq_getElem hkl]
        obtain ⟨y, hye⟩ : ∃ y, y = Y.getD k 0 := ⟨_, rfl⟩
        rw [← hye] at hy edr
        rw [edr, List.findSome?_cons]
        have hlen : (p ++ [y]).length = p.length + 1 := by rw [List.length_append, List.length_singleton]
        have hx' : ∀ z ∈ p ++ [y], z < ordN h := fun z hz => by
          rcases List.mem_append.1 hz with hz | hz
          · exact hx z hz
          · rw [List.mem_singleton.1 hz]; exact hy
        have c1 : decide (([] : List Sc).length + p.length ≤ lim) = true := by
          rw [List.length_nil, Nat.zero_add]
          exact decide_eq_true (Nat.le_trans (show p.length ≤ 6 by omega) (by decide))
        have c2 : decide (p.length + [Sc.n .i64 (y : Int)].length ≤ lim) = true := by
          rw [List.length_singleton]
          exact decide_eq_true (Nat.le_trans (show p.length + 1 ≤ 7 by omega) (by decide))
        have c3 : (decide (0 ≤ (0 : Int)) && (decide ((0 : Int) ≤ ((p ++ [y]).length : Int)) && decide (((p ++ [y]).length : Int) ≤ (l.length : Int)))) = true := by
          rw [hlen]; simp; omega
        have z0 : sliceA (ints (natsI l)) 0 ((p ++ [y]).length : Int) = ints (natsI (l.take (p ++ [y]).length)) := by
          have : sliceA (ints (natsI l)) ((0 : Nat) : Int) ((p ++ [y]).length : Int) = ints (natsI ((l.take (p ++ [y]).length).drop 0)) := by
            simp only [sliceA, ints, natsI, Int.toNat_natCast, List.map_take, List.map_drop]
          rwa [List.drop_zero] at this
        have es := s_SetOf_eq (natsI h) (natsI (p ++ [y])) vh.lim (by rw [natsI_length, hlen]; exact Nat.le_trans (show p.length + 1 ≤ 7 by omega) (by decide))
        have ed : (setRes (natsI h) (natsI (p ++ [y]))).2 = !inP p y := by rw [setRes_dif vh hx', dif_snoc, hdp, Bool.true_and]
        have head : ∀ r, (br (!inP p y) (br (skp0 g h (l.take (p ++ [y]).length) (p ++ [y])) (some (Ro.again (ints (natsI Y), ((k + 1 : Nat) : Int)))) (bo (f_s_l15Find_n n (ints (natsI g), ints (natsI h), ints (natsI l), ints (natsI (p ++ [y])), (b : Int))) ([], false) fun r5 => br r5.2 (some (Ro.two r5.1)) (some (Ro.again (ints (natsI Y), ((k + 1 : Nat) : Int)))))) (some (Ro.again (ints (natsI Y), ((k + 1 : Nat) : Int)))) : Option (Ro (List Sc × Int) (List Sc × Int) (List Sc))) = r → f_s_l15Find_r0 (f_s_l15Find_n n) (ints (natsI l)) (ints (natsI p)) (b : Int) (ints (natsI g)) (ints (natsI h)) (ints (natsI Y), (k : Int)) = r := by
          intro r hr
          rw [← hr]
          have vm : VM g h (l.take (p ++ [y]).length) (p ++ [y]) := ⟨vg, vh, fun z hz => hl z (List.mem_of_mem_take hz), hx', by rw [List.length_take]; omega, by rw [List.length_take]; omega⟩
          simp only [f_s_l15Find_r0, f_s_l15Find_k0, ints_length, natsI_length, lt_dec hkl, in_nat hkl, Int.toNat_natCast, kAt_ints, atN_natsI, ← hye, br_true, c1, List.nil_append, c2, ints_cast_snoc, es, bo_some, ed, Bool.not_not, c3, z0, s_keeps_eq vm, w64_nat (by omega : k < 9223372036854775807)]
          cases inP p y <;> rfl
        cases hi : inP p y with
        | true =>
          rw [hi] at head
          rw [loopL_again (head _ rfl), ih (k + 1) (by omega)]
          rfl
        | false =>
          rw [hi] at head
          cases hk : skp0 g h (l.take (p ++ [y]).length) (p ++ [y]) with
          | true =>
            rw [hk] at head
            rw [loopL_again (head _ rfl), ih (k + 1) (by omega), fiN_none d (p ++ [y]) (by omega) hk]
            rfl
          | false =>
            rw [hk, s_find_fuel vg vh hl h1 h5 hd hb hY hY' n d (p ++ [y]) (by omega) (by omega) hx' (by rw [dif_snoc, hdp, hi]; rfl)] at head
            cases hf : fiN g h l Y d (p ++ [y]) with
            | some m =>
              rw [hf] at head
              rw [loopL_two (head _ rfl)]
              rfl
            | none =>
              rw [hf] at head
              rw [loopL_again (head _ rfl), ih (k + 1) (by omega)]
              rfl
    have key := loop Y.length 0 (by omega)
    rw [List.drop_zero, show ((0 : Nat) : Int) = 0 from rfl] at key
    simp only [f_s_l15Find_n, f_s_l15Find_k, ints_length, natsI_length, e, br_false, s_l3List_eq hb, hY, bo_some, key]
    have ef : fiN g h l Y (d + 1) p = Y.findSome? fun y => if inP p y then none else fiN g h l Y d (p ++ [y]) := rfl
    rw [ef]
    cases Y.findSome? fun y => if inP p y then none else fiN g h l Y d (p ++ [y]) <;> rfl
theorem i_find_le : ∀ n a, Le (f_i_FindFreimanIso_1_n n a) (f_i_FindFreimanIso_1_n (n + 1) a)
  | 0, _ => Le.no
  | n + 1, a => by
    have ih := i_find_le n
    simp only [f_i_FindFreimanIso_1_n, f_i_FindFreimanIso_1_k]
    refine Le.br Le.same (Le.bl (Le.loop fun s => ?_) (fun e => Le.same) fun e => Le.same)
    simp only [f_i_FindFreimanIso_1_r0, f_i_FindFreimanIso_1_k0]
    exact Le.br (Le.br (Le.bo Le.same fun r => Le.br Le.same (Le.br Le.same (Le.br (Le.bo (ih _) fun r => Le.same) Le.same))) Le.same) Le.same
def resI (g h l Y : List Nat) (o : Option (List Nat)) (p : List Nat) : Bool × List Sc × List Sc × List Sc × Int × List Sc × List Sc := match o with
  | some m => (true, ints (natsI m), ints (natsI l), ints (natsI Y), ((usedN m : Nat) : Int), ints (natsI g), ints (natsI h))
  | none => (false, ints (natsI p), ints (natsI l), ints (natsI Y), ((usedN p : Nat) : Int), ints (natsI g), ints (natsI h))
theorem i_find_fuel {g h l Y : List Nat} (vg : VG g) (vh : VG h) (hl : ∀ x ∈ l, x < ordN g) (h5 : l.length ≤ 5) (hYl : Y.length ≤ 63) (hY' : ∀ y ∈ Y, y < ordN h) : ∀ (n d : Nat) (p : List Nat), d < n → p.length + d = l.length → (∀ x ∈ p, x < ordN h) →
    f_i_FindFreimanIso_1_n n (ints (natsI g), ints (natsI h), ints (natsI p), ints (natsI l), ints (natsI Y), ((usedN p : Nat) : Int), ints (natsI g), ints (natsI h)) = some (resI g h l Y (fiN g h l Y d p) p)
  | 0, d, p, hdn, _, _ => by omega
  | n + 1, 0, p, hdn, hp, hx => by
    have e : ((p.length : Int) == (l.length : Int)) = true := by rw [eq_nat_dec]; exact decide_eq_true (by omega)
    have vm : VM g h l p := ⟨vg, vh, hl, hx, by omega, by omega⟩
    have vm' : VM h g p l := ⟨vh, vg, hx, hl, by omega, by omega⟩
    simp only [f_i_FindFreimanIso_1_n, f_i_FindFreimanIso_1_k, ints_length, natsI_length, e, br_true, i_keeps_eq vm, i_keeps_eq vm', ← kp_same, bo_some]
    unfold fiN resI keepN
    cases skp0 g h l p <;> cases skp0 h g p l <;> rfl
  | n + 1, d + 1, p, hdn, hp, hx => by
    have e : ((p.length : Int) == (l.length : Int)) = false := by rw [eq_nat_dec]; exact decide_eq_false (by omega)
    have h24 := vh.ord
    have hu := used_lt hx
    have hu24 := pow24 vh hu
    have loop : ∀ (c k : Nat), k + c = Y.length → loopL (f_i_FindFreimanIso_1_r0 (f_i_FindFreimanIso_1_n n) (ints (natsI Y)) (Y.length : Int)) (ints (natsI p), ints (natsI l), ints (natsI Y), ((usedN p : Nat) : Int), ints (natsI g), ints (natsI h), (k : Int)) =
        match (Y.drop k).findSome? fun y => if inP p y then none else fiN g h l Y d (p ++ [y]) with
        | some m => some (.two (ints (natsI m), ints (natsI l), ints (natsI Y), ((usedN m : Nat) : Int), ints (natsI g), ints (natsI h)))
        | none => some (.one (ints (natsI p), ints (natsI l), ints (natsI Y), ((usedN p : Nat) : Int), ints (natsI g), ints (natsI h), (Y.length : Int))) := by
      intro c
      induction c with
      | zero =>
        intro k hk
        rw [show k = Y.length by omega, List.drop_length]
        refine loopL_one ?_
        simp only [f_i_FindFreimanIso_1_r0, f_i_FindFreimanIso_1_k0, lt_dec_self, br_false]
      | succ c ih =>
        intro k hk
        have hkl : k < Y.length := by omega
        have hy : Y.getD k 0 < ordN h := hY' _ (by simp [List.getD, List.getElem?_eq_getElem hkl])
        have edr : Y.drop k = Y.getD k 0 :: Y.drop (k + 1) := by
          rw [List.drop_eq_getElem_cons hkl]
          simp [List.getD, List.getElem?_eq_getElem hkl]
        obtain ⟨y, hye⟩ : ∃ y, y = Y.getD k 0 := ⟨_, rfl⟩
        rw [← hye] at hy edr
        rw [edr, List.findSome?_cons]
        have hlen : (p ++ [y]).length = p.length + 1 := by rw [List.length_append, List.length_singleton]
        have hx' : ∀ z ∈ p ++ [y], z < ordN h := fun z hz => by
          rcases List.mem_append.1 hz with hz | hz
          · exact hx z hz
          · rw [List.mem_singleton.1 hz]; exact hy
        have c2 : decide (p.length + [Sc.n .i64 (y : Int)].length ≤ lim) = true := by
          rw [List.length_singleton]
          exact decide_eq_true (Nat.le_trans (show p.length + 1 ≤ 7 by omega) (by decide))
        have hin : f_i_in ((usedN p : Nat) : Int) (y : Int) = some (inP p y) := by
          rw [i_in_eq (by omega), used_test]
          rfl
        have hor : or64 ((usedN p : Nat) : Int) (shl64 1 (y : Int)) = ((usedN (p ++ [y]) : Nat) : Int) := by rw [or_pow vh hu hy, used_snoc]
        cases hi : inP p y with
        | true =>
          rw [hi] at hin
          rw [loopL_again (s' := (ints (natsI p), ints (natsI l), ints (natsI Y), ((usedN p : Nat) : Int), ints (natsI g), ints (natsI h), ((k + 1 : Nat) : Int))) (by
            simp only [f_i_FindFreimanIso_1_r0, f_i_FindFreimanIso_1_k0, lt_dec hkl, ok_natsI hkl, at_natsI, ← hye, br_true, hin, bo_some, w64_nat (by omega : k < 9223372036854775807)]), ih (k + 1) (by omega)]
          rfl
        | false =>
          rw [hi] at hin
          have hself := i_find_fuel vg vh hl h5 hYl hY' n d (p ++ [y]) (by omega) (by omega) hx'
          cases hf : fiN g h l Y d (p ++ [y]) with
          | some m =>
            rw [hf] at hself
            rw [loopL_two (b := (ints (natsI m), ints (natsI l), ints (natsI Y), ((usedN m : Nat) : Int), ints (natsI g), ints (natsI h))) (by
              simp only [f_i_FindFreimanIso_1_r0, f_i_FindFreimanIso_1_k0, lt_dec hkl, ok_natsI hkl, at_natsI, ← hye, br_true, hin, bo_some, br_false, neg_dec, ints_length, natsI_length, c2, ints_cast_snoc, hor, hself, resI])]
            rfl
          | none =>
            rw [hf] at hself
            have hub : (usedN p).testBit y = false := by rw [used_test]; exact hi
            have hand : andNot64 ((usedN (p ++ [y]) : Nat) : Int) (shl64 1 (y : Int)) = ((usedN p : Nat) : Int) := by rw [shl1_nat (by omega), used_snoc]; exact andNot_pow hu24 (by omega) hub
            have e3 : w64 (((p ++ [y]).length : Int) - 1) = ((p.length : Nat) : Int) := by rw [hlen, show ((p.length + 1 : Nat) : Int) - 1 = ((p.length : Nat) : Int) by omega]; exact w64_cast (by omega)
            have c4 : (decide (0 ≤ ((p.length : Nat) : Int)) && decide (((p.length : Nat) : Int) ≤ ((p ++ [y]).length : Int))) = true := by rw [hlen]; simp; omega
            have et : (ints (natsI (p ++ [y]))).take p.length = ints (natsI p) := by
              simp [ints, natsI]
            rw [loopL_again (s' := (ints (natsI p), ints (natsI l), ints (natsI Y), ((usedN p : Nat) : Int), ints (natsI g), ints (natsI h), ((k + 1 : Nat) : Int))) (by
              simp only [f_i_FindFreimanIso_1_r0, f_i_FindFreimanIso_1_k0, lt_dec hkl, ok_natsI hkl, at_natsI, ← hye, br_true, hin, bo_some, br_false, neg_dec, ints_length, natsI_length, c2, ints_cast_snoc, hor, hself, resI, e3, c4, Int.toNat_natCast, et, hand, w64_nat (by omega : k < 9223372036854775807)]), ih (k + 1) (by omega)]
            rfl
    have key := loop Y.length 0 (by omega)
    rw [List.drop_zero, show ((0 : Nat) : Int) = 0 from rfl] at key
    simp only [f_i_FindFreimanIso_1_n, f_i_FindFreimanIso_1_k, ints_length, natsI_length, e, br_false, key]
    have ef : fiN g h l Y (d + 1) p = Y.findSome? fun y => if inP p y then none else fiN g h l Y d (p ++ [y]) := rfl
    rw [ef]
    cases Y.findSome? fun y => if inP p y then none else fiN g h l Y d (p ++ [y]) <;> rfl
theorem fiN_len {g h l Y : List Nat} : ∀ (d : Nat) (p m : List Nat), fiN g h l Y d p = some m → m.length = p.length + d
  | 0, p, m, hm => by
    unfold fiN at hm
    split at hm
    · rw [Option.some.inj hm]; rfl
    · cases hm
  | d + 1, p, m, hm => by
    obtain ⟨_, y, _, _, hm, _⟩ := List.findSome?_eq_some_iff.1 hm
    split at hm
    · cases hm
    · have := fiN_len d _ m hm
      rw [List.length_append, List.length_singleton] at this
      omega
theorem FindFreimanIso_both (G H : List Int) (a b : Int) (h : G.length ≤ lim) (hh : H.length ≤ lim) : ∃ R t, f_s_FindFreimanIso (ints G) (ints H) a b = some (ints R, t) ∧ f_i_FindFreimanIso (ints G) (ints H) a b = some (ints R, t) ∧ R.length ≤ 12 := by
  simp only [f_s_FindFreimanIso, f_s_FindFreimanIso_k, f_i_FindFreimanIso, f_i_FindFreimanIso_k, s_IsSet_eq G a h, i_IsSet_eq G a h, s_IsSet_eq H b hh, i_IsSet_eq H b hh, bo_some]
  cases hs : setG G a with
  | false => exact ⟨[], _, rfl, rfl, by simp⟩
  | true =>
    cases hs' : setG H b with
    | false => exact ⟨[], _, rfl, rfl, by simp⟩
    | true =>
      obtain ⟨g, n, rfl, vg, rfl, hn⟩ := nat_of_set hs
      obtain ⟨k, m, rfl, vh, rfl, hm⟩ := nat_of_set hs'
      have hn' := set_i64 vg hn
      have hm' := set_i64 vh hm
      simp only [s_l3Bits_eq hn', i_bits_eq hn', s_l3Bits_eq hm', i_bits_eq hm', s_l1In_eq, i_within_eq, bo_some, s_l3List_eq hn', i_members_eq hn', i_members_eq hm']
      rw [show inB ((popN n : Nat) : Int) 1 5 = _ from pop_range (popN n) 1 5]
      cases (((popN n : Nat) : Int) != ((popN m : Nat) : Int)) with
      | true => exact ⟨[], _, rfl, rfl, by simp⟩
      | false =>
        cases hp : (decide (1 ≤ popN n) && decide (popN n ≤ 5)) with
        | false => exact ⟨[], _, rfl, rfl, by simp⟩
        | true =>
          simp only [Bool.and_eq_true, decide_eq_true_eq] at hp
          have h1 : 1 ≤ (elems n).length := by rw [elems_pop]; exact hp.1
          have h5 : (elems n).length ≤ 5 := by rw [elems_pop]; exact hp.2
          have hl : ∀ x ∈ elems n, x < ordN g := fun x hx => elems_lt hn hx
          have hY : ∀ x ∈ elems m, x < ordN k := fun x hx => elems_lt hm hx
          have e1 := limF_le l15Find_le (s_find_fuel vg vh hl h1 h5 (dif_elems n) hm' rfl hY ((elems n).length + 1) (elems n).length [] (by omega) (by simp) (by simp) rfl)
          have e2 := limF_le i_find_le (i_find_fuel vg vh hl h5 (elems_len m) hY ((elems n).length + 1) (elems n).length [] (by omega) (by simp) (by simp))
          have e1 : f_s_l15Find (ints (natsI g)) (ints (natsI k)) (ints (natsI (elems n))) [] (m : Int) = _ := e1
          have e2 : f_i_FindFreimanIso_1 (ints (natsI g)) (ints (natsI k)) [] (ints (natsI (elems n))) (ints (natsI (elems m))) 0 (ints (natsI g)) (ints (natsI k)) = _ := e2
          simp only [e1, e2, bo_some]
          cases hf : fiN g k (elems n) (elems m) (elems n).length [] with
          | none =>
            have : (if (elems n).length = 0 then ints (natsI []) else []) = ([] : List Sc) := by split <;> rfl
            refine ⟨[], false, ?_, rfl, by simp⟩
            unfold resS
            rw [this]
            rfl
          | some z =>
            have := fiN_len _ _ _ hf
            exact ⟨natsI z, true, rfl, rfl, by rw [natsI_length, this]; simpa using Nat.le_trans h5 (by decide)⟩
theorem FnExactFindFreimanIso_plain (x0 : List Int) (x1 : List Int) (x2 : Int) (x3 : Int) (w0 : All64 x0) (w1 : All64 x1) (w2 : In64 x2) (w3 : In64 x3) : f_l_FnExactFindFreimanIso (ints x0) (ints x1) x2 x3 = some true := by
  simp only [f_l_FnExactFindFreimanIso, f_l_FnExactFindFreimanIso_k]
  by_cases h : x0.length ≤ 1048576
  · have hr := szGroup_eq x0 1048576 (Nat.le_refl _) w0.2
    rw [if_pos h] at hr
    have hr : f_l_szGroup (ints x0) 1048576 = _ := hr
    have hl := le_lim h
    have hs := sz_next (G := x1) (n := 1048576 - x0.length) (by omega) w1.2
    by_cases h1 : x1.length ≤ 1048576 - x0.length
    · rw [if_pos h1] at hs
      have hl1 := le_lim (show x1.length ≤ 1048576 by omega)
      obtain ⟨R, b, e1, e2, hR⟩ := FindFreimanIso_both x0 x1 x2 x3 hl hl1
      have hR1 : R.length ≤ lim := le_lim (by omega)
      have m1 : f_l_markGroup_io 1 (ints x0) = some (((1 + x0.length : Nat) : Int), ints (upK 1 x0.length)) := by
        have := mark_eq x0 1 (le_lim' (by omega))
        simp only [Int.natCast_one] at this
        simp only [f_l_markGroup_io, f_l_markGroup_io_k, this, bo_some]
      have m2 : f_l_markGroup_io ((1 + x0.length : Nat) : Int) (ints x1) = some (((1 + x0.length + x1.length : Nat) : Int), ints (upK (1 + x0.length) x1.length)) := by
        have := mark_eq x1 (1 + x0.length) (Nat.le_trans (show 1 + x0.length + x1.length ≤ 4194304 by omega) (by decide))
        simp only [f_l_markGroup_io, f_l_markGroup_io_k, this, bo_some]
      have m3 := mark_eq R 1 (le_lim' (by omega))
      have h3 := held_eq 1 R.length (le_lim' (by omega))
      have n1 : decide (((1 + x0.length + x1.length : Nat) : Int) < 0) = false := neg_dec _
      have n2 : decide (((1 + R.length : Nat) : Int) < 0) = false := neg_dec _
      simp only [Int.natCast_one] at m3 h3
      simp only [hr, bo_some, neg_dec, hs, br_false, grOk_ints _ hl, grOk_ints _ hl1, br_true, e1, e2, eqIntS_self _ hR1, bne_self_eq_false, eqGroup_self _ hl, eqGroup_self _ hl1, Bool.not_true, BEq.rfl, m1, m2, m3, h3]
    · rw [if_neg h1] at hs
      have d1 : decide ((-1 : Int) < 0) = true := rfl
      simp only [hr, bo_some, neg_dec, hs, br_false, d1, br_true]
  · obtain ⟨r, hr, hd⟩ := sz_shut h w0.2
    simp only [hr, bo_some, hd, br_true, br_false]
end Go.Proofs.Ytdlofeehgkijhaa
