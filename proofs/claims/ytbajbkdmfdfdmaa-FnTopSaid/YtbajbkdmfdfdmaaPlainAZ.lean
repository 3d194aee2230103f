/-
  PlainAZ: the draw of a set.
-/
import Derived.Test.YtbajbkdmfdfdmaaPlainAK
set_option linter.unusedVariables false
set_option linter.unusedSimpArgs false
namespace Go.Proofs.Ytbajbkdmfdfdmaa
open Go Ev

theorem l3Set_ok {x0 : List Int} {c : List Sc × Int × Int} (hc : Cur x0 c) (G : List Int) (hG : G.length ≤ lim) : ∃ r c', f_s_l3Set_io (ints G) c.1 c.2.1 c.2.2 = some (r, c') ∧ Cur x0 c' := by
  have hO := ordG_range G
  have hif : (if ordG G > 1 then ordG G else 1) ≤ 256 := by split <;> omega
  have hif0 : decide ((if ordG G > 1 then ordG G else 1) < 0) = false := decide_eq_false (by split <;> omega)
  obtain ⟨n, c1, e1, h1, hn0, hn1, _⟩ := l1Below_ok hc 6 (by decide)
  obtain ⟨n, rfl⟩ : ∃ k : Nat, n = k := ⟨n.toNat, by omega⟩
  have hn : n < 6 := by have := hn1 (by decide); omega
  have key := loop_ex (rd := f_s_l3Set_io_r0 (if ordG G > 1 then ordG G else 1)) (fun m s => ∃ (d : List Sc × Int × Int) (a : Int), s = (d.1, d.2.1, d.2.2, a, (m : Int)) ∧ Cur x0 d ∧ m < 6)
    (fun r => ∃ (d : List Sc × Int × Int) (a : Int), r = (d.1, d.2.1, d.2.2, a) ∧ Cur x0 d) (fun m s hs => by
      obtain ⟨d, a, rfl, hd, hm⟩ := hs
      obtain ⟨y, d1, f1, g1, hy, _⟩ := l1Below_ok hd (if ordG G > 1 then ordG G else 1) hif
      have hpos : decide (((m + 1 : Nat) : Int) > 0) = true := decide_eq_true (by omega)
      have hw : w64 (((m + 1 : Nat) : Int) - 1) = (m : Int) := by rw [show ((m + 1 : Nat) : Int) - 1 = (m : Int) by omega]; exact w64_cast (by omega)
      have hy0 : decide (y < 0) = false := decide_eq_false (by omega)
      simp only [f_s_l3Set_io_r0, f_s_l3Set_io_k0, hpos, br_true, f1, bo_some, hy0, br_false, hw]
      exact ⟨_, rfl, d1, _, rfl, g1, by omega⟩)
    (fun s hs => by
      obtain ⟨d, a, rfl, hd, hm⟩ := hs
      have hpos : decide (((0 : Nat) : Int) > 0) = false := by decide
      simp only [f_s_l3Set_io_r0, f_s_l3Set_io_k0, hpos, br_false]
      exact ⟨_, rfl, d, a, rfl, hd⟩) n (c1.1, c1.2.1, c1.2.2, 0, (n : Int)) ⟨c1, 0, rfl, h1, hn⟩
  obtain ⟨r, ek, d, a, rfl, hd⟩ := key
  obtain ⟨q, d1, f1, g1, _⟩ := l1Below_ok hd 20 (by decide)
  obtain ⟨k, d2, f2, g2, _⟩ := l1PickInt_ok g1 [-1, 16777216, 9223372036854775807] (by decide) (by decide)
  have f2' : f_s_l1PickInt_io [(Sc.n .i64 (-1)), (Sc.n .i64 16777216), (Sc.n .i64 9223372036854775807)] d1.1 d1.2.1 d1.2.2 = _ := f2
  simp only [f_s_l3Set_io, f_s_l3Set_io_k, s_OrderOf_eq G hG, bo_some, e1, ek, bl1_one, f1, f2', hif0, br_false]
  cases (q == 0) with
  | true => exact ⟨_, _, rfl, ⟨g1.row, g1.low, g1.len⟩⟩
  | false =>
    cases (q == 1) with
    | true => exact ⟨_, _, rfl, ⟨g2.row, g2.low, g2.len⟩⟩
    | false => exact ⟨_, _, rfl, ⟨g1.row, g1.low, g1.len⟩⟩
end Go.Proofs.Ytbajbkdmfdfdmaa
