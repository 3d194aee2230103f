/-
  PlainW: the search for sequences without parts of sum 0: CountZeroFree, LongestZeroFree, DavenportConstant.
-/
import Derived.Test.YtphbclogflflmaaPlainV
import Derived.Test.YtphbclogflflmaaPlainM
set_option linter.unusedVariables false
set_option linter.unusedSimpArgs false
namespace Go.Proofs.Ytphbclogflflmaa
open Go Ev

/-- A loop from a to o that folds; P holds at its head. -/
theorem loop_rng {S T A B : Type} {rd : S → Option (Ro S A B)} (mk : T → Int → S) (a o : Nat) (ha : a ≤ o) (f : T → Nat → T) (gg : T → A) (P : T → Prop) (t0 : T) (h0 : P t0)
    (h : ∀ (x : Nat) t, a ≤ x → x < o → P t → rd (mk t (x : Int)) = some (.again (mk (f t x) ((x + 1 : Nat) : Int))))
    (hP : ∀ (x : Nat) t, a ≤ x → x < o → P t → P (f t x))
    (he : ∀ t, P t → rd (mk t (o : Int)) = some (.one (gg t))) : loopL rd (mk t0 (a : Int)) = some (.one (gg ((List.range' a (o - a)).foldl f t0))) ∧ P ((List.range' a (o - a)).foldl f t0) := by
  obtain ⟨d, rfl⟩ : ∃ d, o = a + d := ⟨o - a, by omega⟩
  rw [Nat.add_sub_cancel_left]
  clear ha
  induction d generalizing a t0 with
  | zero => exact ⟨loopL_one (he t0 h0), h0⟩
  | succ d ih =>
    have e : a + 1 + d = a + (d + 1) := by omega
    rw [List.range'_succ, List.foldl_cons, loopL_again (h a t0 (Nat.le_refl _) (by omega) h0)]
    exact ih (a + 1) (f t0 a) (hP a t0 (Nat.le_refl _) (by omega) h0) (fun x t h1 h2 => h x t (by omega) (by omega)) (fun x t h1 h2 => hP x t (by omega) (by omega)) (by rw [e]; exact he)
theorem fold_kids {T : Type} (g : List Nat) (s a : Nat) (F : T → Nat → T) (t : T) :
    (List.range' a (ordN g - a)).foldl (fun t x => if (nextN g s x).testBit 0 then t else F t x) t = (kidsN g s a).foldl F t := by
  unfold kidsN
  rw [List.foldl_filter]
  congr 1
  funext t x
  cases (nextN g s x).testBit 0 <;> rfl
theorem fold_zfT {T : Type} (g : List Nat) (n : Nat) (l : List Nat) (s a : Nat) (F : T → List Nat → T) (t : T) :
    (zfT g (n + 1) l s a).foldl F t = (kidsN g s a).foldl (fun t x => (zfT g n (l ++ [x]) (nextN g s x) x).foldl F t) (F t l) := by
  rw [zfT, List.foldl_cons, List.foldl_flatMap]
theorem mem_kidsN {g : List Nat} {s a x : Nat} (h : x ∈ kidsN g s a) : a ≤ x ∧ x < ordN g ∧ (nextN g s x).testBit 0 = false := by
  unfold kidsN at h
  rw [List.mem_filter, List.mem_range'_1] at h
  refine ⟨h.1.1, by omega, ?_⟩
  simpa using h.2
theorem zfT_len (g : List Nat) : ∀ (n : Nat) (l : List Nat) (s a : Nat), ∀ m ∈ zfT g n l s a, l.length ≤ m.length
  | 0, _, _, _, m, h => by cases h
  | n + 1, l, s, a, m, h => by
    rcases List.mem_cons.1 h with rfl | h
    · exact Nat.le_refl _
    · obtain ⟨x, _, hm⟩ := List.mem_flatMap.1 h
      have := zfT_len g n _ _ _ m hm
      rw [List.length_append] at this
      omega
theorem VG.ordS {g : List Nat} (v : VG g) : prodW (natsI g) = (ordN g : Nat) := prodW_nat g v.len v.each
theorem next_or {g : List Nat} (v : VG g) {s x : Nat} (hs : s < 2 ^ ordN g) (hx : x < ordN g) : or64 (or64 (s : Int) ((shiftN g s x : Nat) : Int)) (shl64 1 (x : Int)) = ((nextN g s x : Nat) : Int) := by
  rw [or_or v hs (shiftN_lt v s x), or_pow v (or_lt hs (shiftN_lt v s x)) hx]
  rfl
theorem w64_w64 (a b : Int) : w64 (w64 a + b) = w64 (a + b) := by
  simp only [w64, IntKind.wrap_i64]
  omega
theorem w64_w64'' (t a b : Int) : w64 (t + w64 a + b) = w64 (t + a + b) := by
  simp only [w64, IntKind.wrap_i64]
  omega
theorem w64_w64' (a b : Int) : w64 (a + w64 b) = w64 (a + b) := by rw [Int.add_comm, w64_w64, Int.add_comm]
theorem sum_zero {α : Type} : ∀ (l : List α), (l.map fun _ => 0).sum = 0
  | [] => rfl
  | x :: l => by rw [List.map_cons, List.sum_cons, sum_zero l]
theorem fold_w64 (F : Nat → Nat) : ∀ (l : List Nat) (t : Int), w64 (l.foldl (fun t x => w64 (t + w64 ((F x : Nat) : Int))) t) = w64 (t + (((l.map F).sum : Nat) : Int))
  | [], t => by simp
  | x :: l, t => by
    rw [List.foldl_cons, fold_w64 F l, w64_w64, w64_w64'' t, List.map_cons, List.sum_cons]
    congr 1
    omega
theorem w64_idem (a : Int) : w64 (w64 a) = w64 a := by
  have := w64_w64 a 0
  simpa using this
theorem fold_w64_in (F : Nat → Nat) : ∀ (l : List Nat) (t : Int), w64 t = t → w64 (l.foldl (fun t x => w64 (t + w64 ((F x : Nat) : Int))) t) = l.foldl (fun t x => w64 (t + w64 ((F x : Nat) : Int))) t
  | [], t, h => h
  | x :: l, t, h => by
    rw [List.foldl_cons]
    exact fold_w64_in F l _ (w64_idem _)
theorem sum_w64 (F : Nat → Nat) (l : List Nat) : l.foldl (fun t x => w64 (t + w64 ((F x : Nat) : Int))) 0 = w64 (((l.map F).sum : Nat) : Int) := by
  rw [← fold_w64_in F l 0 (by decide), fold_w64, Int.zero_add]
theorem cnt_kids (g : List Nat) (n : Nat) (l : List Nat) (s a left : Nat) (hl : left ≠ 0) :
    (zfT g (n + 1) l s a).countP (fun m => decide (m.length = l.length + left)) = ((kidsN g s a).map fun x => (zfT g n (l ++ [x]) (nextN g s x) x).countP fun m => decide (m.length = (l ++ [x]).length + (left - 1))).sum := by
  rw [zfT, List.countP_cons_of_neg (by simp; omega), List.countP_flatMap]
  congr 1
  refine List.map_congr_left fun x _ => ?_
  simp only [Function.comp, List.length_append, List.length_singleton, show l.length + 1 + (left - 1) = l.length + left by omega]
/-- The next terms begin at the last one. -/
def lastN (l : List Nat) : Nat := if l.length = 0 then 1 else l.getD (l.length - 1) 0
theorem lastN_snoc (l : List Nat) (x : Nat) : lastN (l ++ [x]) = x := by
  unfold lastN
  rw [List.length_append, List.length_singleton, if_neg (by omega), Nat.add_sub_cancel]
  simp [List.getD]
def cntF (p : Int) (t : Int) (l : List Nat) : Int := if (l.length : Int) = p then w64 (t + 1) else t
theorem cntF_count (p : Nat) : ∀ (L : List (List Nat)) (t : Int), w64 t = t → L.foldl (cntF (p : Int)) t = w64 (t + ((L.countP fun m => decide (m.length = p) : Nat) : Int))
  | [], t, h => by simp [h]
  | m :: L, t, h => by
    rw [List.foldl_cons]
    by_cases e : m.length = p
    · have e1 : cntF (p : Int) t m = w64 (t + 1) := if_pos (by rw [e])
      rw [e1, cntF_count p L _ (w64_idem _), w64_w64, List.countP_cons_of_pos (by simpa using e)]
      congr 1
      omega
    · have e1 : cntF (p : Int) t m = t := if_neg (by omega)
      rw [e1, cntF_count p L t h, List.countP_cons_of_neg (by simpa using e)]
end Go.Proofs.Ytphbclogflflmaa
