/-
  PlainM: marks; EgzPart.
-/
import Derived.Test.YtbajbkdmfdfdmaaPlainH
set_option linter.unusedVariables false
set_option linter.unusedSimpArgs false
namespace Go.Proofs.Ytbajbkdmfdfdmaa
open Go Ev

/-! ### Marks -/
def upK (k n : Nat) : List Int := natsI (List.range' k n)
theorem upK_length (k n : Nat) : (upK k n).length = n := by simp [upK, natsI]
theorem upK_getD {k n i : Nat} (h : i < n) : (upK k n).getD i 0 = ((k + i : Nat) : Int) := by
  unfold upK
  rw [natsI_getD]
  congr 1
  simp [List.getD, List.getElem?_range' h]
theorem upK_succ (k i : Nat) (L : List Int) (h : i < L.length) : (upK k i ++ L.drop i).set i ((k + i : Nat) : Int) = upK k (i + 1) ++ L.drop (i + 1) := by
  rw [List.set_append, if_neg (by rw [upK_length]; omega), upK_length, Nat.sub_self, List.drop_eq_getElem_cons h, List.set_cons_zero]
  unfold upK natsI
  rw [List.range'_concat, List.map_append, List.append_assoc]
  simp
/-! ### EgzPart -/
def subL (L : List Int) (c n : Nat) : List Int := ((List.range n).filter fun i => c.testBit i).map fun i => L.getD i 0
theorem subL_succ (L : List Int) (c n : Nat) : subL L c (n + 1) = if c.testBit n then subL L c n ++ [L.getD n 0] else subL L c n := by
  unfold subL
  rw [List.range_succ, List.filter_append]
  cases h : c.testBit n <;> simp [h]
theorem subL_length (L : List Int) (c n : Nat) : (subL L c n).length ≤ n := by
  unfold subL
  rw [List.length_map]
  exact Nat.le_trans (List.length_filter_le _ _) (by simp)
theorem pcn_smallM : ∀ (d n a : Nat), a < 2 ^ d → d ≤ n → pcn n a = pcn d a := by
  intro d
  induction d with
  | zero =>
    intro n a ha _
    have h0 : a = 0 := by simpa using ha
    subst h0
    rw [pcn_zero, pcn_zero]
  | succ d ih =>
    intro n a ha hn
    obtain ⟨m, rfl⟩ : ∃ m, n = m + 1 := ⟨n - 1, by omega⟩
    rw [Nat.pow_succ] at ha
    show a % 2 + pcn m (a / 2) = a % 2 + pcn d (a / 2)
    rw [ih m (a / 2) (by omega) (by omega)]
theorem subL_pop (L : List Int) {c n : Nat} (h : c < 2 ^ n) (hn : n ≤ 63) : (subL L c n).length = popN c := by
  unfold subL popN
  rw [List.length_map, filter_len, pcn_smallM n 63 c h hn]
def sumL (A : List Int) : Int := A.foldl (fun s x => w64 (s + x)) 0
theorem sumL_succ (A : List Int) {i : Nat} (h : i < A.length) : sumL (A.take (i + 1)) = w64 (sumL (A.take i) + A.getD i 0) := by
  unfold sumL
  rw [List.take_succ_eq_append_getElem h, List.foldl_append]
  simp [List.getD, h]
theorem app_lim {A : List Int} {x : Int} {n : Nat} (h : A.length ≤ n) (hn : n ≤ 1000) : decide ((ints A).length + [Sc.n .i64 x].length ≤ lim) = true := by
  rw [ints_length]
  simp only [List.length_cons, List.length_nil, decide_eq_true_eq]
  unfold lim
  omega
theorem two_of (b : Bool) : b = true ∨ b = false := by cases b <;> simp
theorem eq_nat_decM (a b : Nat) : ((a : Int) == (b : Int)) = decide (a = b) := by
  by_cases h : a = b
  · simp [h]
  · have : ¬ ((a : Int) = (b : Int)) := by omega
    simp [h, this]
theorem find_shift (g : Nat → Bool) (m : Nat) (h0 : g 0 = false) : (List.range (m + 1)).find? g = ((List.range m).find? fun k => g (k + 1)).map (· + 1) := by
  rw [List.range_succ_eq_map, List.find?_cons, h0, List.find?_map]
  rfl
theorem le_lim' {n : Nat} (h : n ≤ 2097152) : n ≤ lim := Nat.le_trans h (by decide)
def goodE (L : List Int) (p c : Nat) : Bool := decide ((subL L c L.length).length = p) && ((sumL (subL L c L.length)).tmod (p : Int) == 0)
theorem rng_loop {L : List Int} (hL : L.length ≤ 12) {rd : Int → Option (Ro Int Unit (List Sc))} (h : ∀ k, k < L.length → rd (k : Int) = if !inB (L.getD k 0) (-1000000) 1000000 then some (.two []) else some (.again ((k + 1 : Nat) : Int))) (he : rd (L.length : Int) = some (.one ())) :
    loopL rd 0 = if (List.range L.length).any (fun k => !inB (L.getD k 0) (-1000000) 1000000) then some (.two []) else some (.one ()) := by
  have := loop_find (rd := rd) (fun k => (k : Int)) L.length (fun k => !inB (L.getD k 0) (-1000000) 1000000) (fun _ => ([] : List Sc)) h he
  have e0 : ((0 : Nat) : Int) = 0 := rfl
  rw [e0] at this
  rw [this]
  cases hf : (List.range L.length).find? fun k => !inB (L.getD k 0) (-1000000) 1000000 with
  | some k =>
    have : (List.range L.length).any (fun k => !inB (L.getD k 0) (-1000000) 1000000) = true := List.any_eq_true.2 ⟨k, List.mem_of_find?_eq_some hf, List.find?_some (p := fun k => !inB (L.getD k 0) (-1000000) 1000000) hf⟩
    rw [this]
    rfl
  | none =>
    have : (List.range L.length).any (fun k => !inB (L.getD k 0) (-1000000) 1000000) = false := by
      rw [List.any_eq_false]
      intro x hx
      have := List.find?_eq_none.1 hf x hx
      simpa using this
    rw [this]
    rfl
end Go.Proofs.Ytbajbkdmfdfdmaa
