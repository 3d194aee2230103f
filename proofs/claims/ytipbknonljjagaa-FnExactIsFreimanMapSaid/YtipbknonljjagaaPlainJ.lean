/-
  PlainJ: IsFreimanMap, IsFreimanIso.
-/
import Derived.Test.YtipbknonljjagaaPlainI
set_option linter.unusedVariables false
set_option linter.unusedSimpArgs false
namespace Go.Proofs.Ytipbknonljjagaa
open Go Ev

def fmCond (G H L M : List Int) : Bool := !M.any (fun x => !hasG H x) && ((setRes G L).2 && (isG H && (decide (L.length = M.length) && inB (L.length : Int) 1 6)))
theorem VM_of {G H L M : List Int} (h : fmCond G H L M = true) : ∃ g h l m, G = natsI g ∧ H = natsI h ∧ L = natsI l ∧ M = natsI m ∧ VM g h l m := by
  unfold fmCond at h
  simp only [Bool.and_eq_true, Bool.not_eq_true', decide_eq_true_eq] at h
  obtain ⟨h1, h2, h3, h4, h5⟩ := h
  unfold setRes at h2
  cases hs : setR G 0 L with
  | none => rw [hs] at h2; cases h2
  | some a =>
    rw [hs] at h2
    have hG : isG G = true := h2
    obtain ⟨g, hg, vg⟩ := nat_of_isG hG
    obtain ⟨h', hh', vh⟩ := nat_of_isG h3
    have hLany : L.any (fun x => !hasG G x) = false := by
      rw [List.any_eq_false]
      intro x hx
      simp [setR_all hs x hx]
    obtain ⟨l, hl, hle⟩ := nats_of_has hg vg hLany
    obtain ⟨m, hm, hme⟩ := nats_of_has hh' vh h1
    refine ⟨g, h', l, m, hg, hh', hl, hm, vg, vh, hle, hme, ?_, ?_⟩
    · rw [hl, hm, natsI_length, natsI_length] at h4
      exact h4
    · rw [hl] at h5
      simp only [inB, Bool.and_eq_true, decide_eq_true_eq, natsI_length] at h5
      omega
theorem s_l15Fine_eq (G H L M : List Int) (hg : G.length ≤ lim) (hh : H.length ≤ lim) (hl : L.length ≤ lim) (hm : M.length ≤ lim) : f_s_l15Fine (ints G) (ints H) (ints L) (ints M) = some (fmCond G H L M) := by
  have hml := lim_lt hm
  have key := loop_any (rd := f_s_l15Fine_r0 (ints L) (ints M) (ints H) (setRes G L).2) (fun k => (k : Int)) M.length (fun k => !hasG H (M.getD k 0)) (a := ()) (b := ()) (fun k hk => by
    simp only [f_s_l15Fine_r0, f_s_l15Fine_k0, ints_length, lt_dec hk, ok_nat hk, at_nat, br_true, w64_nat (by omega : k < 9223372036854775807), s_l2Is_eq H _ hh, bo_some]
    cases hasG H (M.getD k 0) <;> rfl)
    (by simp only [f_s_l15Fine_r0, f_s_l15Fine_k0, ints_length, lt_dec_self, br_false])
  rw [show (((0 : Nat)) : Int) = 0 from rfl, range_any M (fun x => !hasG H x)] at key
  simp only [f_s_l15Fine, f_s_l15Fine_k, s_SetOf_eq G L hg hl, bo_some, key, s_IsGroup_eq H hh, s_l1In_eq, ints_length, eq_nat_dec]
  unfold fmCond
  cases M.any (fun x => !hasG H x) <;> cases (setRes G L).2 <;> cases isG H <;> cases decide (L.length = M.length) <;> rfl
theorem s_IsFreimanMap_eq (G H L M : List Int) (hg : G.length ≤ lim) (hh : H.length ≤ lim) (hl : L.length ≤ lim) (hm : M.length ≤ lim) :
    (fmCond G H L M = false → f_s_IsFreimanMap (ints G) (ints H) (ints L) (ints M) = some false) ∧
    (∀ g h l m, VM g h l m → fmCond (natsI g) (natsI h) (natsI l) (natsI m) = true → G = natsI g → H = natsI h → L = natsI l → M = natsI m → f_s_IsFreimanMap (ints G) (ints H) (ints L) (ints M) = some (!skp0 g h l m)) := by
  constructor
  · intro h
    simp only [f_s_IsFreimanMap, f_s_IsFreimanMap_k, s_l15Fine_eq G H L M hg hh hl hm, bo_some, h]
    rfl
  · intro g h l m v hc e1 e2 e3 e4
    subst e1 e2 e3 e4
    simp only [f_s_IsFreimanMap, f_s_IsFreimanMap_k, s_l15Fine_eq _ _ _ _ hg hh hl hm, bo_some, hc, s_keeps_eq v]
    rfl
theorem i_IsFreimanMap_eq (G H L M : List Int) (hg : G.length ≤ lim) (hh : H.length ≤ lim) (hl : L.length ≤ lim) (hm : M.length ≤ lim) :
    (fmCond G H L M = false → f_i_IsFreimanMap (ints G) (ints H) (ints L) (ints M) = some false) ∧
    (∀ g h l m, VM g h l m → fmCond (natsI g) (natsI h) (natsI l) (natsI m) = true → G = natsI g → H = natsI h → L = natsI l → M = natsI m → f_i_IsFreimanMap (ints G) (ints H) (ints L) (ints M) = some (!ikp0 g h l m)) := by
  have hne : ((M.length : Int) != (L.length : Int)) = !decide (L.length = M.length) := by
    rw [ne_nat_dec]
    by_cases e : L.length = M.length
    · simp [e]
    · simp [e, Ne.symm e]
  constructor
  · intro h
    simp only [f_i_IsFreimanMap, f_i_IsFreimanMap_k, i_SetOf_eq G L hg hl, bo_some, i_within_eq, ints_length, i_ImageOfMap_eq H M hh hm, hne]
    unfold fmCond at h
    revert h
    cases (setRes G L).2 <;> cases inB (L.length : Int) 1 6 <;> cases decide (L.length = M.length) <;> cases M.any (fun x => !hasG H x) <;> cases isG H <;> intro h <;> first | rfl | (cases h; done) | simp [br_eq]
  · intro g h l m v hc e1 e2 e3 e4
    subst e1 e2 e3 e4
    simp only [f_i_IsFreimanMap, f_i_IsFreimanMap_k, i_SetOf_eq _ _ hg hl, bo_some, i_within_eq, ints_length, i_ImageOfMap_eq _ _ hh hm, hne, i_keeps_eq v]
    unfold fmCond at hc
    revert hc
    cases (setRes (natsI g) (natsI l)).2 <;> cases inB ((natsI l).length : Int) 1 6 <;> cases decide ((natsI l).length = (natsI m).length) <;> cases (natsI m).any (fun x => !hasG (natsI h) x) <;> cases isG (natsI h) <;> intro hc <;> first | rfl | (cases hc; done) | simp [br_eq]
theorem IsFreimanMap_both (G H L M : List Int) (hg : G.length ≤ lim) (hh : H.length ≤ lim) (hl : L.length ≤ lim) (hm : M.length ≤ lim) :
    ∃ r, f_s_IsFreimanMap (ints G) (ints H) (ints L) (ints M) = some r ∧ f_i_IsFreimanMap (ints G) (ints H) (ints L) (ints M) = some r := by
  obtain ⟨a1, a2⟩ := s_IsFreimanMap_eq G H L M hg hh hl hm
  obtain ⟨b1, b2⟩ := i_IsFreimanMap_eq G H L M hg hh hl hm
  cases hc : fmCond G H L M with
  | false => exact ⟨_, a1 hc, b1 hc⟩
  | true =>
    obtain ⟨g, h, l, m, e1, e2, e3, e4, v⟩ := VM_of hc
    have hc' := hc
    rw [e1, e2, e3, e4] at hc'
    exact ⟨_, a2 g h l m v hc' e1 e2 e3 e4, by rw [b2 g h l m v hc' e1 e2 e3 e4, kp_same]⟩
theorem sz_next {G : List Int} {n : Nat} (hn : n ≤ 1048576) (hb : G.length ≤ 9223372036854775807) : f_l_szGroup (ints G) (n : Int) = some (if G.length ≤ n then ((n - G.length : Nat) : Int) else -1) := szGroup_eq G n hn hb
theorem FnExactIsFreimanMap_plain (x0 : List Int) (x1 : List Int) (x2 : List Int) (x3 : List Int) (w0 : All64 x0) (w1 : All64 x1) (w2 : All64 x2) (w3 : All64 x3) : f_l_FnExactIsFreimanMap (ints x0) (ints x1) (ints x2) (ints x3) = some true := by
  simp only [f_l_FnExactIsFreimanMap, f_l_FnExactIsFreimanMap_k, ints_length]
  by_cases h2 : x2.length ≤ 1048576
  · have d2 : decide ((x2.length : Int) > 1048576) = false := by simp; omega
    by_cases h3 : x3.length ≤ 1048576
    · have d3 : decide ((x3.length : Int) > 1048576) = false := by simp; omega
      have z0 := szGroup_eq x0 1048576 (Nat.le_refl _) w0.2
      rw [show ((1048576 : Nat) : Int) = 1048576 from rfl] at z0
      by_cases h0 : x0.length ≤ 1048576
      · rw [if_pos h0] at z0
        have z1 := szGroup_eq x1 (1048576 - x0.length) (by omega) w1.2
        by_cases h1 : x1.length ≤ 1048576 - x0.length
        · rw [if_pos h1] at z1
          have l0 := le_lim h0
          have l1 : x1.length ≤ lim := le_lim (by omega)
          have l2 := le_lim h2
          have l3 := le_lim h3
          obtain ⟨r, e1, e2⟩ := IsFreimanMap_both x0 x1 x2 x3 l0 l1 l2 l3
          simp only [d2, d3, z0, z1, bo_some, neg_dec, br_false, br_true, grOk_ints _ l0, grOk_ints _ l1, toIntS_eq _ l2, toIntS_eq _ l3, e1, e2, eqGroup_self _ l0, eqGroup_self _ l1, eqIntS_self _ l2, eqIntS_self _ l3, Bool.not_true, BEq.rfl]
        · rw [if_neg h1] at z1
          simp only [d2, d3, z0, z1, bo_some, neg_dec, br_false]
          rfl
      · rw [if_neg h0] at z0
        simp only [d2, d3, z0, bo_some, br_false]
        rfl
    · have d3 : decide ((x3.length : Int) > 1048576) = true := by simp; omega
      simp only [d2, d3, br_false, br_true]
  · have d2 : decide ((x2.length : Int) > 1048576) = true := by simp; omega
    simp only [d2, br_true]
theorem FnExactIsFreimanIso_plain (x0 : List Int) (x1 : List Int) (x2 : List Int) (x3 : List Int) (w0 : All64 x0) (w1 : All64 x1) (w2 : All64 x2) (w3 : All64 x3) : f_l_FnExactIsFreimanIso (ints x0) (ints x1) (ints x2) (ints x3) = some true := by
  simp only [f_l_FnExactIsFreimanIso, f_l_FnExactIsFreimanIso_k, ints_length]
  by_cases h2 : x2.length ≤ 1048576
  · have d2 : decide ((x2.length : Int) > 1048576) = false := by simp; omega
    by_cases h3 : x3.length ≤ 1048576
    · have d3 : decide ((x3.length : Int) > 1048576) = false := by simp; omega
      have z0 := szGroup_eq x0 1048576 (Nat.le_refl _) w0.2
      rw [show ((1048576 : Nat) : Int) = 1048576 from rfl] at z0
      by_cases h0 : x0.length ≤ 1048576
      · rw [if_pos h0] at z0
        have z1 := szGroup_eq x1 (1048576 - x0.length) (by omega) w1.2
        by_cases h1 : x1.length ≤ 1048576 - x0.length
        · rw [if_pos h1] at z1
          have l0 := le_lim h0
          have l1 : x1.length ≤ lim := le_lim (by omega)
          have l2 := le_lim h2
          have l3 := le_lim h3
          obtain ⟨r, e1, e2⟩ := IsFreimanMap_both x0 x1 x2 x3 l0 l1 l2 l3
          obtain ⟨r', e1', e2'⟩ := IsFreimanMap_both x1 x0 x3 x2 l1 l0 l3 l2
          have s1 : f_s_IsFreimanIso (ints x0) (ints x1) (ints x2) (ints x3) = some (r && r') := by
            simp only [f_s_IsFreimanIso, f_s_IsFreimanIso_k, e1, e1', bo_some]
            cases r <;> rfl
          have s2 : f_i_IsFreimanIso (ints x0) (ints x1) (ints x2) (ints x3) = some (r && r') := by
            simp only [f_i_IsFreimanIso, f_i_IsFreimanIso_k, e2, e2', bo_some]
            cases r <;> rfl
          simp only [d2, d3, z0, z1, bo_some, neg_dec, br_false, br_true, grOk_ints _ l0, grOk_ints _ l1, toIntS_eq _ l2, toIntS_eq _ l3, s1, s2, eqGroup_self _ l0, eqGroup_self _ l1, eqIntS_self _ l2, eqIntS_self _ l3, Bool.not_true, BEq.rfl]
        · rw [if_neg h1] at z1
          simp only [d2, d3, z0, z1, bo_some, neg_dec, br_false]
          rfl
      · rw [if_neg h0] at z0
        simp only [d2, d3, z0, bo_some, br_false]
        rfl
    · have d3 : decide ((x3.length : Int) > 1048576) = true := by simp; omega
      simp only [d2, d3, br_false, br_true]
  · have d2 : decide ((x2.length : Int) > 1048576) = true := by simp; omega
    simp only [d2, br_true]
end Go.Proofs.Ytipbknonljjagaa
