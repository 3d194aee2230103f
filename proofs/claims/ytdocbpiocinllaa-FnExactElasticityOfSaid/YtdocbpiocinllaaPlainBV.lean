/-
  PlainBV: the laws FnExactLengthsOf, FnExactElasticityOf.
-/
import Derived.Test.YtdocbpiocinllaaPlainBU
set_option linter.unusedVariables false
set_option linter.unusedSimpArgs false
namespace Go.Proofs.Ytdocbpiocinllaa
open Go Ev

theorem FnExactLengthsOf_plain (x0 : List Int) (x1 : List Int) (w0 : All64 x0) (w1 : All64 x1) : f_l_FnExactLengthsOf (ints x0) (ints x1) = some true := by
  simp only [f_l_FnExactLengthsOf, f_l_FnExactLengthsOf_k, ints_length]
  by_cases h1 : x1.length ≤ 1048576
  · have d1 : decide ((x1.length : Int) > 1048576) = false := by simp; omega
    have hl1 := le_lim h1
    by_cases h : x0.length ≤ 1048576
    · obtain ⟨r, hr, hd⟩ := sz_gate h
      have hl := le_lim h
      obtain ⟨n, e1, e2, _, hn, _⟩ := LengthsOf_both x0 x1 hl hl1
      generalize hR : natsI n = R at *
      have hRl : R.length ≤ 14 := by rw [← hR, natsI_length]; exact hn
      have hR1 : R.length ≤ lim := le_lim (by omega)
      have m1 : f_l_markGroup_io 1 (ints x0) = some (((1 + x0.length : Nat) : Int), ints (upK 1 x0.length)) := by
        have := mark_eq x0 1 (le_lim' (by omega))
        simp only [Int.natCast_one] at this
        simp only [f_l_markGroup_io, f_l_markGroup_io_k, this, bo_some]
      have m2 := mark_eq x1 (1 + x0.length) (Nat.le_trans (show 1 + x0.length + x1.length ≤ 4194304 by omega) (by decide))
      have m3 := mark_eq R 1 (le_lim' (by omega))
      have h3 := held_eq 1 R.length (le_lim' (by omega))
      have n1 : decide (((1 + x0.length + x1.length : Nat) : Int) < 0) = false := decide_eq_false (by omega)
      have n2 : decide (((1 + R.length : Nat) : Int) < 0) = false := decide_eq_false (by omega)
      simp only [Int.natCast_one] at m3 h3
      simp only [d1, hr, bo_some, hd, br_false, grOk_ints _ hl, br_true, toIntS_eq _ hl1, e1, e2, eqIntS_self _ hR1, eqGroup_self _ hl, eqIntS_self _ hl1, Bool.not_true, BEq.rfl, m1, m2, m3, h3, n1, n2, bne_self_eq_false]
    · obtain ⟨r, hr, hd⟩ := sz_shut h w0.2
      simp only [d1, hr, bo_some, hd, br_true, br_false]
  · have d1 : decide ((x1.length : Int) > 1048576) = true := by simp; omega
    simp only [d1, br_true]
theorem Elasticity_both (G L : List Int) (h : G.length ≤ lim) (hL : L.length ≤ lim) : ∃ p : Int × Int, f_s_ElasticityOf (ints G) (ints L) = some p ∧ f_i_ElasticityOf (ints G) (ints L) = some p := by
  obtain ⟨n, e1, e2, _, hn, hb⟩ := LengthsOf_both G L h hL
  unfold f_s_ElasticityOf f_s_ElasticityOf_k f_i_ElasticityOf f_i_ElasticityOf_k
  rw [e1, e2, bo_some, bo_some]
  have hlen : (ints (natsI n)).length = n.length := by rw [ints_length, natsI_length]
  have zd : ∀ m : Nat, ((m : Int) == 0) = decide (m = 0) := fun m => eq_nat_decM m 0
  rw [hlen, zd n.length]
  by_cases h0 : n.length = 0
  · rw [decide_eq_true h0]; exact ⟨(0, 0), rfl, rfl⟩
  · rw [decide_eq_false h0, BEq.rfl, br_true, br_true]
    have hz : 0 < n.length := by omega
    have hw : w64 ((n.length : Int) - 1) = ((n.length - 1 : Nat) : Int) := by
      rw [show (n.length : Int) - 1 = ((n.length - 1 : Nat) : Int) by omega]
      exact w64_cast (by omega)
    have o0 : okAt (ints (natsI n)) 0 = true := ok_natsI hz
    have a0 : atI (ints (natsI n)) 0 = ((n.getD 0 0 : Nat) : Int) := at_natsI n 0
    have k0 : kAt (ints (natsI n)) (0 : Int).toNat = true := kAt_ints _ _
    have t0 : atN (ints (natsI n)) (0 : Int).toNat = ((n.getD 0 0 : Nat) : Int) := atN_natsI n 0
    have r0 : inRange 0 n.length = true := by rw [show (0 : Int) = ((0 : Nat) : Int) from rfl, inRange_nat]; exact decide_eq_true hz
    have r1 : inRange ((n.length - 1 : Nat) : Int) n.length = true := by rw [inRange_nat]; exact decide_eq_true (by omega)
    have o1 : okAt (ints (natsI n)) ((n.length - 1 : Nat) : Int) = true := ok_natsI (by omega)
    rw [o0, br_true, a0, r0, br_true, k0, br_true, t0, zd (n.getD 0 0)]
    generalize n.getD 0 0 = a
    by_cases ha : a = 0
    · rw [decide_eq_true ha]; exact ⟨(0, 0), rfl, rfl⟩
    · rw [decide_eq_false ha]
      simp only [br_false, hw, o1, br_true, at_natsI, r1, Int.toNat_natCast, kAt_ints, atN_natsI]
      generalize n.getD (n.length - 1) 0 = b
      have hg : ((Nat.gcd b a : Nat) : Int) ≠ 0 := fun hh => by
        have : Nat.gcd b a = 0 := by omega
        exact ha (Nat.eq_zero_of_gcd_eq_zero_right this)
      have hg' : (((Nat.gcd b a : Nat) : Int) == 0) = false := by simpa using hg
      simp only [s_l11Divisor_eq, i_gcd_eq, f_i_lowest, f_i_lowest_k, bo_some, hg', br_false]
      exact ⟨_, rfl, rfl⟩
theorem FnExactElasticityOf_plain (x0 : List Int) (x1 : List Int) (w0 : All64 x0) (w1 : All64 x1) : f_l_FnExactElasticityOf (ints x0) (ints x1) = some true := by
  simp only [f_l_FnExactElasticityOf, f_l_FnExactElasticityOf_k, ints_length]
  by_cases h1 : x1.length ≤ 1048576
  · have d1 : decide ((x1.length : Int) > 1048576) = false := by simp; omega
    have hl1 := le_lim h1
    by_cases h : x0.length ≤ 1048576
    · obtain ⟨r, hr, hd⟩ := sz_gate h
      have hl := le_lim h
      obtain ⟨p, e1, e2⟩ := Elasticity_both x0 x1 hl hl1
      simp only [d1, hr, bo_some, hd, br_false, grOk_ints _ hl, br_true, toIntS_eq _ hl1, e1, e2, bne_self_eq_false, eqGroup_self _ hl, eqIntS_self _ hl1, Bool.not_true, BEq.rfl]
    · obtain ⟨r, hr, hd⟩ := sz_shut h w0.2
      simp only [d1, hr, bo_some, hd, br_true, br_false]
  · have d1 : decide ((x1.length : Int) > 1048576) = true := by simp; omega
    simp only [d1, br_true]
end Go.Proofs.Ytdocbpiocinllaa
