/-
  PlainZ: CountFreimanMaps.
-/
import Derived.Test.YtdlofeehgkijhaaPlainW
import Derived.Test.YtdlofeehgkijhaaPlainJ
import Derived.Test.YtdlofeehgkijhaaPlainK
set_option linter.unusedVariables false
set_option linter.unusedSimpArgs false
namespace Go.Proofs.Ytdlofeehgkijhaa
open Go Ev

theorem toNat_nats (g : List Nat) : (natsI g).map Int.toNat = g := by
  unfold natsI
  rw [List.map_map]
  conv => rhs; rw [← List.map_id g]
  exact List.map_congr_left fun x _ => by simp
/-- All ways to go on with d numbers below o. -/
def extN (o : Nat) : Nat → List Nat → List (List Nat)
  | 0, p => [p]
  | d + 1, p => (List.range' 0 o).flatMap fun x => extN o d (p ++ [x])
theorem extN_pre (o : Nat) : ∀ d p, ∀ m ∈ extN o d p, m.length = p.length + d ∧ (∀ i, i < p.length → m.getD i 0 = p.getD i 0) ∧ ((∀ x ∈ p, x < o) → ∀ x ∈ m, x < o)
  | 0, p, m, h => by
    have h : m = p := List.mem_singleton.1 h
    subst h
    exact ⟨rfl, fun _ _ => rfl, fun h => h⟩
  | d + 1, p, m, h => by
    obtain ⟨x, hx, hm⟩ := List.mem_flatMap.1 h
    obtain ⟨h1, h2, h3⟩ := extN_pre o d _ m hm
    have hx := (List.mem_range'_1.1 hx).2
    rw [List.length_append, List.length_singleton] at h1
    refine ⟨by omega, fun i hi => ?_, fun hp => h3 fun y hy => ?_⟩
    · rw [h2 i (by rw [List.length_append]; omega)]
      simp [List.getD, List.getElem?_append_left hi]
    · rcases List.mem_append.1 hy with hy | hy
      · exact hp y hy
      · rw [List.mem_singleton.1 hy]; omega
/-- What breaks at a beginning breaks at the whole. -/
theorem skp_pre {g h l p m : List Nat} (hl : p.length ≤ l.length) (hm : ∀ i, i < p.length → m.getD i 0 = p.getD i 0) (hb : skp0 g h (l.take p.length) p = true) : skp0 g h l m = true := by
  have ht : (l.take p.length).length = p.length := by rw [List.length_take]; omega
  unfold skp0 at hb ⊢
  obtain ⟨a, _, ha, hb⟩ := any_range'_iff.1 hb
  unfold skp2 at hb
  obtain ⟨b, hb1, hb2, hb⟩ := any_range'_iff.1 hb
  unfold skp4 at hb
  obtain ⟨c, hc1, hc2, hb⟩ := any_range'_iff.1 hb
  unfold kp6 at hb
  obtain ⟨d, hd1, hd2, hb⟩ := any_range'_iff.1 hb
  rw [ht] at ha hb2 hd2
  have et : ∀ i, i < p.length → (l.take p.length).getD i 0 = l.getD i 0 := fun i hi => by simp [List.getD, List.getElem?_take, hi]
  refine any_range'_iff.2 ⟨a, Nat.zero_le _, by omega, ?_⟩
  refine any_range'_iff.2 ⟨b, hb1, by omega, ?_⟩
  refine any_range'_iff.2 ⟨c, Nat.zero_le _, hc2, ?_⟩
  refine any_range'_iff.2 ⟨d, hd1, by omega, ?_⟩
  unfold breaks at hb ⊢
  rwa [et a ha, et b hb2, et c (by omega), et d hd2, ← hm a ha, ← hm b hb2, ← hm c (by omega), ← hm d hd2] at hb
def keepN (g h l m : List Nat) : Bool := !skp0 g h l m
def cntK (g h l : List Nat) (d : Nat) (p : List Nat) : Nat := (extN (ordN h) d p).countP (keepN g h l)
theorem cntK_succ (g h l : List Nat) (d : Nat) (p : List Nat) : cntK g h l (d + 1) p = ((List.range' 0 (ordN h)).map fun x => cntK g h l d (p ++ [x])).sum := by
  unfold cntK
  rw [extN, List.countP_flatMap]
  rfl
theorem cntK_none {g h l p : List Nat} {d : Nat} (hl : p.length ≤ l.length) (hb : skp0 g h (l.take p.length) p = true) : cntK g h l d p = 0 := by
  unfold cntK
  rw [List.countP_eq_zero]
  intro m hm
  obtain ⟨h1, h2, _⟩ := extN_pre _ _ _ m hm
  simp [keepN, skp_pre hl h2 hb]
theorem sum_if (F : Nat → Nat) (b : Nat → Bool) (hb : ∀ x, b x = false → F x = 0) : ∀ (l : List Nat) (t : Int), l.foldl (fun t x => if b x then w64 (t + w64 ((F x : Nat) : Int)) else t) (w64 t) = w64 (t + (((l.map F).sum : Nat) : Int))
  | [], t => by simp
  | x :: l, t => by
    rw [List.foldl_cons, List.map_cons, List.sum_cons]
    cases h : b x with
    | true =>
      rw [if_pos rfl, w64_w64' , w64_w64, ← w64_idem, w64_idem, sum_if F b hb l]
      congr 1
      omega
    | false =>
      rw [if_neg (by simp), sum_if F b hb l, hb x h, Nat.zero_add]
theorem l15Search_le : ∀ n a, Le (f_s_l15Search_n n a) (f_s_l15Search_n (n + 1) a)
  | 0, _ => Le.no
  | n + 1, a => by
    have ih := l15Search_le n
    simp only [f_s_l15Search_n, f_s_l15Search_k]
    refine Le.br Le.same (Le.bl1 (Le.loop fun s => ?_) fun e => Le.same)
    simp only [f_s_l15Search_r0, f_s_l15Search_k0]
    exact Le.bo Le.same fun r => Le.br (Le.br (Le.br (Le.br (Le.bo Le.same fun r => Le.br (Le.bo (ih _) fun r => Le.same) Le.same) Le.same) Le.same) Le.same) Le.same
theorem s_l15Search_fuel {g h l : List Nat} (vg : VG g) (vh : VG h) (hl : ∀ x ∈ l, x < ordN g) (h6 : l.length ≤ 6) : ∀ (n d : Nat) (p : List Nat), d < n → p.length + d = l.length → (∀ x ∈ p, x < ordN h) → skp0 g h (l.take p.length) p = false →
    f_s_l15Search_n n (ints (natsI g), ints (natsI h), ints (natsI l), ints (natsI p)) = some (w64 ((cntK g h l d p : Nat) : Int))
  | 0, d, p, hd, _, _, _ => by omega
  | n + 1, 0, p, hd, hp, hx, hk => by
    have e : ((p.length : Int) == (l.length : Int)) = true := by
      have : (p.length : Int) = (l.length : Int) := by omega
      simpa using this
    simp only [f_s_l15Search_n, f_s_l15Search_k, ints_length, natsI_length, e, br_true]
    have : keepN g h l p = true := by
      rw [show p.length = l.length by omega, List.take_length] at hk
      simp [keepN, hk]
    have : cntK g h l 0 p = 1 := by
      unfold cntK extN
      rw [List.countP_cons_of_pos this]
      rfl
    rw [this]
    rfl
  | n + 1, d + 1, p, hd, hp, hx, hk => by
    have e : ((p.length : Int) == (l.length : Int)) = false := by
      have : ¬ ((p.length : Int) = (l.length : Int)) := by omega
      simpa using this
    have h24 := vh.ord
    have key := (loop_rng (rd := f_s_l15Search_r0 (f_s_l15Search_n n) (ints (natsI l)) (ints (natsI p)) (ints (natsI g)) (ints (natsI h))) (fun (t : Int) x => (t, x)) 0 (ordN h) (Nat.zero_le _)
        (fun t x => if keepN g h (l.take (p ++ [x]).length) (p ++ [x]) then w64 (t + w64 ((cntK g h l d (p ++ [x]) : Nat) : Int)) else t) id (fun _ => True) (w64 0) trivial
        (fun x t _ hxo _ => by
          have hlen : (p ++ [x]).length = p.length + 1 := by rw [List.length_append, List.length_singleton]
          have c1 : decide (([] : List Sc).length + p.length ≤ lim) = true := by
            simp only [List.length_nil, Nat.zero_add]
            exact decide_eq_true (Nat.le_trans (show p.length ≤ 6 by omega) (by decide))
          have c2 : decide (p.length + [Sc.n .i64 (x : Int)].length ≤ lim) = true := by
            simp only [List.length_singleton]
            exact decide_eq_true (Nat.le_trans (show p.length + 1 ≤ 7 by omega) (by decide))
          have c3 : (decide (0 ≤ (0 : Int)) && (decide ((0 : Int) ≤ ((p ++ [x]).length : Int)) && decide (((p ++ [x]).length : Int) ≤ (l.length : Int)))) = true := by
            rw [hlen]; simp; omega
          have z0 : sliceA (ints (natsI l)) 0 ((p ++ [x]).length : Int) = ints (natsI (l.take (p ++ [x]).length)) := by
            have : sliceA (ints (natsI l)) ((0 : Nat) : Int) ((p ++ [x]).length : Int) = ints (natsI ((l.take (p ++ [x]).length).drop 0)) := by
              simp only [sliceA, ints, natsI, Int.toNat_natCast, List.map_take, List.map_drop]
            rwa [List.drop_zero] at this
          have hx' : ∀ y ∈ p ++ [x], y < ordN h := fun y hy => by
            rcases List.mem_append.1 hy with hy | hy
            · exact hx y hy
            · rw [List.mem_singleton.1 hy]; omega
          have vm : VM g h (l.take (p ++ [x]).length) (p ++ [x]) := ⟨vg, vh, fun y hy => hl y (List.mem_of_mem_take hy), hx', by rw [List.length_take]; omega, by rw [List.length_take]; omega⟩
          simp only [f_s_l15Search_r0, f_s_l15Search_k0, s_l2Order_eq _ vh.lim, vh.ordS, bo_some, lt_dec hxo, br_true, c1, List.nil_append, ints_cast_snoc, ints_length, natsI_length, c2, c3, z0, s_keeps_eq vm, w64_nat (by omega : x < 9223372036854775807)]
          have ek : keepN g h (l.take (p ++ [x]).length) (p ++ [x]) = !skp0 g h (l.take (p ++ [x]).length) (p ++ [x]) := rfl
          cases hk : skp0 g h (l.take (p ++ [x]).length) (p ++ [x]) with
          | true => rw [hk] at ek; rw [ek]; rfl
          | false =>
            rw [hk] at ek
            rw [s_l15Search_fuel vg vh hl h6 n d (p ++ [x]) (by omega) (by omega) hx' hk, ek]
            rfl)
        (fun _ _ _ _ _ => trivial)
        (fun t _ => by simp only [f_s_l15Search_r0, f_s_l15Search_k0, s_l2Order_eq _ vh.lim, vh.ordS, bo_some, lt_dec_self, br_false, id])).1
    have key : loopL (f_s_l15Search_r0 (f_s_l15Search_n n) (ints (natsI l)) (ints (natsI p)) (ints (natsI g)) (ints (natsI h))) (0, 0) = _ := key
    simp only [f_s_l15Search_n, f_s_l15Search_k, ints_length, natsI_length, e, br_false, key, bl1_one, id]
    rw [sum_if (fun x => cntK g h l d (p ++ [x])) (fun x => keepN g h (l.take (p ++ [x]).length) (p ++ [x])) (fun x hx => ?_) _ 0, cntK_succ, Int.zero_add, Nat.sub_zero]
    refine cntK_none (by rw [List.length_append, List.length_singleton]; omega) ?_
    unfold keepN at hx
    simpa using hx
theorem i_cfm_le : ∀ n a, Le (f_i_CountFreimanMaps_1_n n a) (f_i_CountFreimanMaps_1_n (n + 1) a)
  | 0, _ => Le.no
  | n + 1, a => by
    have ih := i_cfm_le n
    simp only [f_i_CountFreimanMaps_1_n, f_i_CountFreimanMaps_1_k]
    refine Le.br Le.same (Le.bo Le.same fun r => Le.bl1 (Le.loop fun s => ?_) fun e => Le.same)
    simp only [f_i_CountFreimanMaps_1_r0, f_i_CountFreimanMaps_1_k0]
    exact Le.br (Le.br (Le.bo (ih _) fun r => Le.same) Le.same) Le.same
def fillN (o k d : Nat) (q : List Nat) : List Nat := if k = 0 then q else (k - 1) :: List.replicate d (o - 1)
theorem i_cfm_fuel {g h l : List Nat} (vg : VG g) (vh : VG h) (hl : ∀ x ∈ l, x < ordN g) (h6 : l.length ≤ 6) : ∀ (n d : Nat) (p q : List Nat) (c : Int), d < n → p.length + d = l.length → q.length = d → (∀ x ∈ p, x < ordN h) →
    f_i_CountFreimanMaps_1_n n ((p.length : Int), ints (natsI g), ints (natsI h), ints (natsI l), ints (natsI (p ++ q)), w64 c, ints (natsI g), ints (natsI h)) =
      some (ints (natsI l), ints (natsI (p ++ List.replicate d (ordN h - 1))), w64 (c + ((cntK g h l d p : Nat) : Int)), ints (natsI g), ints (natsI h))
  | 0, d, p, q, c, hd, _, _, _ => by omega
  | n + 1, 0, p, q, c, hd, hp, hq, hx => by
    have e : ((p.length : Int) == (l.length : Int)) = true := by
      have : (p.length : Int) = (l.length : Int) := by omega
      simpa using this
    obtain rfl : q = [] := List.length_eq_zero_iff.1 hq
    have vm : VM g h l p := ⟨vg, vh, hl, hx, by omega, h6⟩
    simp only [f_i_CountFreimanMaps_1_n, f_i_CountFreimanMaps_1_k, ints_length, natsI_length, e, br_true, List.append_nil, i_keeps_eq vm, bo_some, ← kp_same, List.replicate_zero, w64_w64]
    have e2 : cntK g h l 0 p = if keepN g h l p then 1 else 0 := by
      unfold cntK extN
      rw [List.countP_singleton]
    have e3 : keepN g h l p = !skp0 g h l p := rfl
    rw [e2, e3]
    cases skp0 g h l p with
    | true => simp [br_eq]
    | false => simp [br_eq]
  | n + 1, d + 1, p, q, c, hd, hp, hq, hx => by
    have e : ((p.length : Int) == (l.length : Int)) = false := by
      have : ¬ ((p.length : Int) = (l.length : Int)) := by omega
      simpa using this
    have h24 := vh.ord
    have ho := ordN_pos vh.each
    have hfl : ∀ k, (fillN (ordN h) k d q).length = d + 1 := fun k => by
      unfold fillN
      split
      · exact hq
      · simp
    have key := loop_count (rd := f_i_CountFreimanMaps_1_r0 (f_i_CountFreimanMaps_1_n n) (p.length : Int) ((ordN h : Nat) : Int)) (fun k => (ints (natsI l), ints (natsI (p ++ fillN (ordN h) k d q)), w64 (c + ((((List.range' 0 k).map fun x => cntK g h l d (p ++ [x])).sum : Nat) : Int)), ints (natsI g), ints (natsI h), (k : Int)))
      (ordN h) (a := (ints (natsI l), ints (natsI (p ++ fillN (ordN h) (ordN h) d q)), w64 (c + ((((List.range' 0 (ordN h)).map fun x => cntK g h l d (p ++ [x])).sum : Nat) : Int)), ints (natsI g), ints (natsI h)))
      (fun k hk => by
        have hin : inRange ((p.length : Nat) : Int) (ints (natsI (p ++ fillN (ordN h) k d q))).length = true := by
          refine in_nat ?_
          rw [ints_length, natsI_length, List.length_append, hfl]
          omega
        have hset : (ints (natsI (p ++ fillN (ordN h) k d q))).set p.length (Sc.n .i64 (k : Int)) = ints (natsI ((p ++ [k]) ++ (fillN (ordN h) k d q).tail)) := by
          rw [ints_natsI_set]
          have := hfl k
          cases hf : fillN (ordN h) k d q with
          | nil => rw [hf] at this; simp at this
          | cons y r =>
            congr 2
            rw [List.set_append_right _ _ (Nat.le_refl _), Nat.sub_self, List.set_cons_zero, List.tail_cons, List.append_assoc]
            rfl
        have hx' : ∀ y ∈ p ++ [k], y < ordN h := fun y hy => by
          rcases List.mem_append.1 hy with hy | hy
          · exact hx y hy
          · rw [List.mem_singleton.1 hy]; omega
        have hlen : (p ++ [k]).length = p.length + 1 := by rw [List.length_append, List.length_singleton]
        have ih := i_cfm_fuel vg vh hl h6 n d (p ++ [k]) (fillN (ordN h) k d q).tail (c + ((((List.range' 0 k).map fun x => cntK g h l d (p ++ [x])).sum : Nat) : Int)) (by omega) (by omega) (by rw [List.length_tail, hfl]; omega) hx'
        rw [hlen] at ih
        simp only [f_i_CountFreimanMaps_1_r0, f_i_CountFreimanMaps_1_k0, lt_dec hk, br_true, hin, Int.toNat_natCast, hset, w64_nat (by omega : p.length < 9223372036854775807), w64_nat (by omega : k < 9223372036854775807), ih, bo_some]
        have ef : fillN (ordN h) (k + 1) d q = k :: List.replicate d (ordN h - 1) := by unfold fillN; rw [if_neg (by omega)]; rfl
        have es : ((List.range' 0 (k + 1)).map fun x => cntK g h l d (p ++ [x])).sum = ((List.range' 0 k).map fun x => cntK g h l d (p ++ [x])).sum + cntK g h l d (p ++ [k]) := by
          rw [List.range'_concat, List.map_append, List.sum_append]
          simp
        rw [ef, es, List.append_assoc, Int.natCast_add, Int.add_assoc]
        rfl)
      (by simp only [f_i_CountFreimanMaps_1_r0, f_i_CountFreimanMaps_1_k0, lt_dec_self, br_false]) 0 (Nat.zero_le _)
    have e0 : fillN (ordN h) 0 d q = q := if_pos rfl
    have e1 : fillN (ordN h) (ordN h) d q = List.replicate (d + 1) (ordN h - 1) := by
      unfold fillN
      rw [if_neg (by omega), List.replicate_succ]
    have key : loopL (f_i_CountFreimanMaps_1_r0 (f_i_CountFreimanMaps_1_n n) (p.length : Int) ((ordN h : Nat) : Int)) (ints (natsI l), ints (natsI (p ++ fillN (ordN h) 0 d q)), w64 (c + ((((List.range' 0 0).map fun x => cntK g h l d (p ++ [x])).sum : Nat) : Int)), ints (natsI g), ints (natsI h), 0) = _ := key
    rw [e0, e1] at key
    simp only [List.range'_zero, List.map_nil, List.sum_nil, Int.natCast_zero, Int.add_zero] at key
    simp only [f_i_CountFreimanMaps_1_n, f_i_CountFreimanMaps_1_k, ints_length, natsI_length, e, br_false, i_OrderOf_eq _ vh.lim, vh.ordG, bo_some, key, bl1_one]
    rw [cntK_succ]
theorem pop_range (n : Nat) (lo hi : Nat) : inB ((n : Nat) : Int) (lo : Int) (hi : Int) = (decide (lo ≤ n) && decide (n ≤ hi)) := by
  unfold inB
  congr 1
  · by_cases h : lo ≤ n
    · rw [decide_eq_true h]; exact decide_eq_true (by omega)
    · rw [decide_eq_false h]; exact decide_eq_false (by omega)
  · by_cases h : n ≤ hi
    · rw [decide_eq_true h]; exact decide_eq_true (by omega)
    · rw [decide_eq_false h]; exact decide_eq_false (by omega)
/-- What the two functions hand back. -/
def cfmR (G H : List Int) (a : Int) : Int := if setG G a then (if isG H && decide (ordN (H.map Int.toNat) ≤ 8) && (decide (1 ≤ popN a.toNat) && decide (popN a.toNat ≤ 4)) then w64 ((cntK (G.map Int.toNat) (H.map Int.toNat) (elems a.toNat) (elems a.toNat).length [] : Nat) : Int) else -1) else -1
theorem skp_nil (g h : List Nat) (l : List Nat) : skp0 g h (l.take ([] : List Nat).length) [] = false := by
  rw [List.length_nil, List.take_zero]
  rfl
theorem CountFreimanMaps_eq (G H : List Int) (a : Int) (h : G.length ≤ lim) (hh : H.length ≤ lim) : f_s_CountFreimanMaps (ints G) (ints H) a = some (cfmR G H a) ∧ f_i_CountFreimanMaps (ints G) (ints H) a = some (cfmR G H a) := by
  simp only [f_s_CountFreimanMaps, f_s_CountFreimanMaps_k, f_i_CountFreimanMaps, f_i_CountFreimanMaps_k, s_IsSet_eq G a h, i_IsSet_eq G a h, s_IsGroup_eq H hh, s_l2Order_eq H hh, i_OrderOf_eq H hh, bo_some]
  unfold cfmR
  cases hs : setG G a with
  | false => exact ⟨rfl, rfl⟩
  | true =>
    obtain ⟨g, n, rfl, vg, rfl, hn⟩ := nat_of_set hs
    have hn' := set_i64 vg hn
    simp only [s_l3Bits_eq hn', i_bits_eq hn', s_l1In_eq, i_within_eq, bo_some, s_l3List_eq hn', i_members_eq hn', Int.toNat_natCast, toNat_nats]
    rw [show inB ((popN n : Nat) : Int) 1 4 = _ from pop_range (popN n) 1 4]
    cases hg : isG H with
    | false =>
      have : ordG H = 0 := by unfold ordG; rw [hg]; rfl
      rw [this]
      cases (decide (1 ≤ popN n) && decide (popN n ≤ 4)) <;> exact ⟨rfl, rfl⟩
    | true =>
      obtain ⟨k, rfl, vh⟩ := nat_of_isG hg
      rw [vh.ordS, vh.ordG, toNat_nats, show inB ((ordN k : Nat) : Int) 1 8 = _ from pop_range (ordN k) 1 8, decide_eq_true (ordN_pos vh.each)]
      by_cases h8 : ordN k ≤ 8
      · have h8' : decide (((ordN k : Nat) : Int) > 8) = false := decide_eq_false (by omega)
        rw [h8', decide_eq_true h8]
        cases hp : (decide (1 ≤ popN n) && decide (popN n ≤ 4)) with
        | false => exact ⟨rfl, rfl⟩
        | true =>
          have hp' : popN n ≤ 4 := by
            simp only [Bool.and_eq_true, decide_eq_true_eq] at hp
            exact hp.2
          have h6 : (elems n).length ≤ 6 := by rw [elems_pop]; omega
          have hl : ∀ x ∈ elems n, x < ordN g := fun x hx => elems_lt hn hx
          have e1 : f_s_l15Search (ints (natsI g)) (ints (natsI k)) (ints (natsI (elems n))) [] = _ := limF_le l15Search_le (s_l15Search_fuel vg vh hl h6 ((elems n).length + 1) (elems n).length [] (by omega) (by simp) (by simp) (skp_nil g k _))
          have e2 := limF_le i_cfm_le (i_cfm_fuel vg vh hl h6 ((elems n).length + 1) (elems n).length [] (List.replicate (elems n).length 0) 0 (by omega) (by simp) (by simp) (by simp))
          have er : List.replicate (ints (natsI (elems n))).length (Sc.n .i64 0) = ints (natsI (List.replicate (elems n).length 0)) := by
            simp [ints, natsI]
          have e2 : f_i_CountFreimanMaps_1 0 (ints (natsI g)) (ints (natsI k)) (ints (natsI (elems n))) (ints (natsI (List.replicate (elems n).length 0))) 0 (ints (natsI g)) (ints (natsI k)) = _ := e2
          have c1 : (decide (0 ≤ ((ints (natsI (elems n))).length : Int)) && (decide (((ints (natsI (elems n))).length : Int) ≤ ((ints (natsI (elems n))).length : Int)) && decide (((ints (natsI (elems n))).length : Int) ≤ (lim : Int)))) = true := by
            have : (6 : Int) ≤ (lim : Int) := by decide
            simp only [ints_length, natsI_length, Bool.and_eq_true, decide_eq_true_eq]
            omega
          rw [Int.zero_add] at e2
          simp only [e1, bo_some, c1, br_true, Int.toNat_natCast, er, e2]
          exact ⟨rfl, rfl⟩
      · have h8' : decide (((ordN k : Nat) : Int) > 8) = true := decide_eq_true (by omega)
        rw [h8', decide_eq_false h8]
        cases (decide (1 ≤ popN n) && decide (popN n ≤ 4)) <;> exact ⟨rfl, rfl⟩
theorem FnExactCountFreimanMaps_plain (x0 : List Int) (x1 : List Int) (x2 : Int) (w0 : All64 x0) (w1 : All64 x1) (w2 : In64 x2) : f_l_FnExactCountFreimanMaps (ints x0) (ints x1) x2 = some true := by
  simp only [f_l_FnExactCountFreimanMaps, f_l_FnExactCountFreimanMaps_k]
  by_cases h : x0.length ≤ 1048576
  · have hr := szGroup_eq x0 1048576 (Nat.le_refl _) w0.2
    rw [if_pos h] at hr
    have hr : f_l_szGroup (ints x0) 1048576 = _ := hr
    have hl := le_lim h
    have hs := sz_next (G := x1) (n := 1048576 - x0.length) (by omega) w1.2
    by_cases h1 : x1.length ≤ 1048576 - x0.length
    · rw [if_pos h1] at hs
      have hl1 := le_lim (show x1.length ≤ 1048576 by omega)
      obtain ⟨e1, e2⟩ := CountFreimanMaps_eq x0 x1 x2 hl hl1
      simp only [hr, bo_some, neg_dec, hs, br_false, grOk_ints _ hl, grOk_ints _ hl1, br_true, e1, e2, bne_self_eq_false, eqGroup_self _ hl, eqGroup_self _ hl1, Bool.not_true, BEq.rfl]
    · rw [if_neg h1] at hs
      have d1 : decide ((-1 : Int) < 0) = true := rfl
      simp only [hr, bo_some, neg_dec, hs, br_false, d1, br_true]
  · obtain ⟨r, hr, hd⟩ := sz_shut h w0.2
    simp only [hr, bo_some, hd, br_true, br_false]
end Go.Proofs.Ytdlofeehgkijhaa
