/-
  PlainA: the laws' own small functions; MultiplicityIn.
-/
import Derived.Test.YtdocbpiocinllaaPlain0
set_option linter.unusedVariables false
set_option linter.unusedSimpArgs false
namespace Go.Proofs.Ytdocbpiocinllaa
open Go Ev

section
variable {T A B : Type}
/-- A loop over a list that folds. -/
theorem loop_fold {rd : T × Int → Option (Ro (T × Int) A B)} (L : List Int) (f : T → Int → T) (g : T → A) (t0 : T)
    (h : ∀ (k : Nat) t, k < L.length → rd (t, (k : Int)) = some (.again (f t (L.getD k 0), ((k + 1 : Nat) : Int))))
    (he : ∀ t, rd (t, (L.length : Int)) = some (.one (g t))) : loopL rd (t0, 0) = some (.one (g (L.foldl f t0))) := by
  have key := loop_count (rd := rd) (fun k => ((L.take k).foldl f t0, (k : Int))) L.length (a := g (L.foldl f t0)) (fun k hk => by
    show rd ((L.take k).foldl f t0, (k : Int)) = _
    rw [h k _ hk]
    have : (L.take (k + 1)).foldl f t0 = f ((L.take k).foldl f t0) (L.getD k 0) := by
      rw [List.take_succ_eq_append_getElem hk, List.foldl_append]
      simp [List.getD, List.getElem?_eq_getElem hk]
    rw [this]) (by show rd ((L.take L.length).foldl f t0, (L.length : Int)) = _; rw [he, List.take_length]) 0 (Nat.zero_le _)
  simpa using key
end

theorem br_eq {α : Type} (t : Bool) (x y : α) : br t x y = if t = true then x else y := by cases t <;> rfl
theorem lt_dec {k n : Nat} (h : k < n) : decide ((k : Int) < (n : Int)) = true := by simpa using h
theorem lt_dec_self (n : Nat) : decide ((n : Int) < (n : Int)) = false := by simp
theorem ok_nat {L : List Int} {k : Nat} (h : k < L.length) : okAt (ints L) (k : Int) = true := by rw [okAt_ints, inRange_nat]; simpa using h
theorem at_nat (L : List Int) (k : Nat) : atI (ints L) (k : Int) = L.getD k 0 := by rw [atI_ints]; simp

theorem eqIntS_self (L : List Int) (h : L.length ≤ lim) : f_l_eqIntS (ints L) (ints L) = some true := by
  have hl := lim_lt h
  have key := loop_count (rd := f_l_eqIntS_r0 (ints L) (ints L)) (fun k => (k : Int)) L.length (a := ()) (fun k hk => by
    simp only [f_l_eqIntS_r0, f_l_eqIntS_k0, ints_length, lt_dec hk, ok_nat hk, br_true, bne_self_eq_false, br_false, w64_nat (by omega : k < 9223372036854775807)])
    (by simp only [f_l_eqIntS_r0, f_l_eqIntS_k0, ints_length, lt_dec_self, br_false]) 0 (Nat.zero_le _)
  simp only [f_l_eqIntS, f_l_eqIntS_k, bne_self_eq_false, br_false]
  rw [show ((0 : Int)) = ((0 : Nat) : Int) from rfl, key]
  rfl

theorem eqGroup_self (L : List Int) (h : L.length ≤ lim) : f_l_eqGroup (ints L) (ints L) = some true := by
  simp only [f_l_eqGroup, f_l_eqGroup_k, eqIntS_self L h, bo_some, Bool.not_true, br_false]

theorem szGroup_eq (L : List Int) (n : Nat) (hn : n ≤ 1048576) (h : L.length ≤ 9223372036854775807) : f_l_szGroup (ints L) (n : Int) = some (if L.length ≤ n then ((n - L.length : Nat) : Int) else -1) := by
  simp only [f_l_szGroup, f_l_szGroup_k, f_l_szIntS, f_l_szIntS_k, ints_length]
  have e : w64 ((n : Int) - (L.length : Int)) = (n : Int) - (L.length : Int) := w64_in (by omega) (by omega)
  rw [e]
  by_cases hc : L.length ≤ n
  · have h1 : decide ((n : Int) - (L.length : Int) < 0) = false := by simp; omega
    simp only [h1, br_false, bo_some, if_pos hc]
    rw [Int.ofNat_sub hc]
  · have h1 : decide ((n : Int) - (L.length : Int) < 0) = true := by simp; omega
    simp only [h1, br_true, bo_some, if_neg hc]
    rfl
/-- What 'toGroup' hands back. -/
theorem grOk_ints (L : List Int) (h : L.length ≤ lim) : f_l_toGroup (ints L) = some (ints L) := by
  simp only [f_l_toGroup, f_l_toGroup_k, toIntS_eq L h, bo_some]

theorem le_lim {n : Nat} (h : n ≤ 1048576) : n ≤ lim := Nat.le_trans h (by decide)
/-! ### MultiplicityIn -/
def multF (x : Int) (n y : Int) : Int := if y = x then w64 (n + 1) else n
end Go.Proofs.Ytdocbpiocinllaa
