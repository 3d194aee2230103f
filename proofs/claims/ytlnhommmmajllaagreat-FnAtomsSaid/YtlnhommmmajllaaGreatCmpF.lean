/-
  CmpF: the comparison that AtomsOf hands to the sort, walked; the sort's contract at this program.
-/
import Derived.Test.YtlnhommmmajllaaGreatVSortF
import Derived.Test.YtlnhommmmajllaaGreatShelfF
import Derived.Shelf.RegionOpenPlain
import Derived.WalkKit
import Derived.Deep.LoopGhost
import Derived.Deep.Draws
import Derived.Lib.Walk
set_option linter.unusedVariables false
namespace Go.Proofs.YtlnhommmmajllaaGreat.Ev
open Go Go.Proofs Go.RowKit Go.Lib Go.Sort Go.Shelf
theorem cmpLex_skip : ∀ (k : Nat) (a b : List Int), a.length = b.length → (∀ j, j < k → a.getD j 0 = b.getD j 0) → cmpLex a b = cmpLex (a.drop k) (b.drop k)
  | 0, _, _, _, _ => rfl
  | k + 1, [], [], _, _ => rfl
  | k + 1, [], _ :: _, h, _ => by cases h
  | k + 1, _ :: _, [], h, _ => by cases h
  | k + 1, x :: a, y :: b, h, he => by
    have h0 : x = y := he 0 (Nat.succ_pos k)
    subst h0
    have hz : Lib.compareInt x x = 0 := by unfold Lib.compareInt; simp
    show (if Lib.compareInt x x = 0 then cmpLex a b else _) = _
    rw [if_pos hz]
    exact cmpLex_skip k a b (by simpa using h) fun j hj => he (j + 1) (by omega)
theorem cmpLex_at {k : Nat} {a b : List Int} (h : a.length = b.length) (hk : k < a.length) (he : ∀ j, j < k → a.getD j 0 = b.getD j 0) (hne : Lib.compareInt (a.getD k 0) (b.getD k 0) ≠ 0) : cmpLex a b = Lib.compareInt (a.getD k 0) (b.getD k 0) := by
  rw [cmpLex_skip k a b h he]
  have e1 : a.drop k = a.getD k 0 :: a.drop (k + 1) := by rw [List.drop_eq_getElem_cons hk]; simp [List.getD, hk]
  have e2 : b.drop k = b.getD k 0 :: b.drop (k + 1) := by rw [List.drop_eq_getElem_cons (by omega)]; simp [List.getD, show k < b.length by omega]
  rw [e1, e2]
  show (if Lib.compareInt _ _ = 0 then _ else _) = _
  rw [if_neg hne]
theorem cmpLex_same {a b : List Int} (h : a.length = b.length) (he : ∀ j, j < a.length → a.getD j 0 = b.getD j 0) : cmpLex a b = 0 := by
  rw [cmpLex_skip a.length a b h he, List.drop_length, h, List.drop_length]
  rfl
set_option maxHeartbeats 2000000 in
set_option maxRecDepth 100000 in
theorem compareW (b1 o1 n c b2 o2 d : Nat) (xs ys : List Int) (w : World) (hx : xs.length = n) (hy : ys.length = n) (hbig : n ≤ 9223372036854775807) (hc1 : ∀ j, j < n → w.cell? ⟨b1, o1 + j, none⟩ = some (.int .i64 (xs.getD j 0))) (hc2 : ∀ j, j < n → w.cell? ⟨b2, o2 + j, none⟩ = some (.int .i64 (ys.getD j 0))) :
    Calls Tryz.prog 42 #[.slice (some ⟨b1, o1, none⟩) n c, .slice (some ⟨b2, o2, none⟩) n d] w fun e w' => e = .returned (.int .i64 (cmpLex xs ys)) ∧ w' = w := by
  go_enter Tryz.func42, Tryz.ntmps42
  go_wp2
  go_loopg [11] n (fun g s11 wr => ∃ k : Nat, k ≤ n ∧ n - k ≤ g ∧ s11 = .int .i64 k ∧ wr = w ∧ ∀ j, j < k → xs.getD j 0 = ys.getD j 0)
  case atStart => exact ⟨0, Nat.zero_le _, by omega, rfl, rfl, fun j hj => absurd hj (Nat.not_lt_zero _)⟩
  case round =>
    obtain ⟨k, hk, hg, rfl, rfl, heq⟩ := hrel
    by_cases hlt : k < n
    · have g1 : wr.cell? ⟨b1, o1 + k, none⟩ = some (.int .i64 (xs.getD k 0)) := hc1 k (by omega)
      have g2 : wr.cell? ⟨b2, o2 + k, none⟩ = some (.int .i64 (ys.getD k 0)) := hc2 k (by omega)
      have A : Aside (∀ j, j < k → xs.getD j 0 = ys.getD j 0) := heq
      clear heq hc1 hc2
      generalize hxk : xs.getD k 0 = x at g1
      generalize hyk : ys.getD k 0 = y at g2
      have B : Aside (xs.getD k 0 = x ∧ ys.getD k 0 = y) := ⟨hxk, hyk⟩
      clear hxk hyk
      have hcon := Tryz.cmp_Compare_int x y wr
      by_cases hxy : Lib.compareInt x y = 0
      · have hxe := cmpI_zero hxy
        subst hxe
        rw [hxy] at hcon
        go_wp2_with (go_at_call 72; refine hcon.mono ?_; rintro e w' ⟨rfl, rfl⟩)
        go_roundg (n - (k + 1))
        case measure => omega
        case rel =>
          refine ⟨k + 1, by omega, by omega, by go_num, rfl, fun j hj => ?_⟩
          by_cases e : j = k
          · subst e
            rw [B.out.1, B.out.2]
          · exact A.out j (by omega)
      · have C : Aside (Lib.compareInt x y ≠ 0) := hxy
        generalize hr : Lib.compareInt x y = r at hcon hxy
        have D : Aside (Lib.compareInt x y = r) := hr
        clear hr C
        go_wp2_with (go_at_call 72; refine hcon.mono ?_; rintro e w' ⟨rfl, rfl⟩)
        go_ret
        refine ⟨?_, rfl⟩
        have := cmpLex_at (k := k) (a := xs) (b := ys) (by omega) (by omega) A.out (by rw [B.out.1, B.out.2, D.out]; exact hxy)
        rw [this, B.out.1, B.out.2, D.out]
        rfl
    · have : k = n := by omega
      subst this
      clear hc1 hc2
      go_wp2
      go_ret
      refine ⟨?_, rfl⟩
      rw [cmpLex_same (by omega) (by rw [hx]; exact heq)]
      rfl
set_option maxHeartbeats 1000000 in
theorem compareW0 (p1 p2 : Option Addr) (c d : Nat) (w : World) :
    Calls Tryz.prog 42 #[.slice p1 0 c, .slice p2 0 d] w fun e w' => e = .returned (.int .i64 0) ∧ w' = w := by
  go_enter Tryz.func42, Tryz.ntmps42
  go_wp2
  go_loopg [11] 0 (fun _ s11 wr => s11 = .int .i64 0 ∧ wr = w)
  case atStart => exact ⟨rfl, rfl⟩
  case round =>
    obtain ⟨rfl, rfl⟩ := hrel
    go_wp2
    go_ret
    exact ⟨rfl, rfl⟩
set_option maxHeartbeats 1000000 in
theorem cmpNe (p1 p2 : Option Addr) (n m c d : Nat) (w : World) (hn : n ≤ 1099511627776) (hm : m ≤ 1099511627776) (hne : ¬ (n : Int) = (m : Int)) :
    Calls Tryz.prog 41 #[.slice p1 n c, .slice p2 m d] w fun e w' => e = .returned (.int .i64 ((n : Int) - m)) ∧ w' = w := by
  go_enter Tryz.func41, Tryz.ntmps41
  go_wp2
  go_ret
  refine ⟨?_, rfl⟩
  simp
set_option maxHeartbeats 1000000 in
theorem cmpEq (p1 p2 : Option Addr) (n c d : Nat) (r : Int) (w : World)
    (h : Calls Tryz.prog 42 #[.slice p1 n c, .slice p2 n d] w fun e w' => e = .returned (.int .i64 r) ∧ w' = w) :
    Calls Tryz.prog 41 #[.slice p1 n c, .slice p2 n d] w fun e w' => e = .returned (.int .i64 r) ∧ w' = w := by
  go_enter Tryz.func41, Tryz.ntmps41
  go_wp2_with (go_at_call 42; refine h.mono ?_; rintro e w' ⟨rfl, rfl⟩)
  go_ret
  exact ⟨rfl, rfl⟩
theorem spot_none {w : World} {a : Addr} {v : Value} (h : w.cell? (a.add 0) = some v) : a.spot = none := by
  have e : a.add 0 = a := by simp [Addr.add]
  rw [e] at h
  unfold World.cell? at h
  split at h
  · split at h
    · cases h
    · rename_i hs
      cases hq : a.spot with
      | none => rfl
      | some q => rw [hq] at hs; exact absurd rfl hs
  · cases h
theorem cmpF (a b : List Int) (A B : Option Addr) (ca cb : Nat) (w : World) (ha : a.length ≤ lim) (hb : b.length ≤ lim) (h1 : RdI w A a) (h2 : RdI w B b) :
    Calls Tryz.prog 41 #[.slice A a.length ca, .slice B b.length cb] w fun e w' => e = .returned (.int .i64 (cmpZ a b)) ∧ ∃ q os, w' = grow (w.drewN q) os := by
  have fin : ∀ {r : Int}, cmpZ a b = r → (Calls Tryz.prog 41 #[.slice A a.length ca, .slice B b.length cb] w fun e w' => e = .returned (.int .i64 r) ∧ w' = w) → Calls Tryz.prog 41 #[.slice A a.length ca, .slice B b.length cb] w fun e w' => e = .returned (.int .i64 (cmpZ a b)) ∧ ∃ q os, w' = grow (w.drewN q) os := by
    intro r hr hc
    rw [hr]
    exact hc.mono fun e w' ⟨he, hw⟩ => ⟨he, 0, #[], by rw [hw, grow_empty]; rfl⟩
  unfold lim at ha hb
  by_cases hl : a.length = b.length
  · have hz : cmpZ a b = cmpLex a b := by unfold cmpZ; rw [if_pos hl]
    rcases h1 with h1 | ⟨ad, rfl, h1⟩
    · subst h1
      have hb0 : b = [] := List.eq_nil_of_length_eq_zero hl.symm
      subst hb0
      exact fin hz (cmpEq _ _ 0 _ _ _ _ (compareW0 _ _ _ _ _))
    · rcases h2 with h2 | ⟨ad2, rfl, h2⟩
      · subst h2
        have hb0 : a = [] := List.eq_nil_of_length_eq_zero hl
        subst hb0
        exact fin hz (cmpEq _ _ 0 _ _ _ _ (compareW0 _ _ _ _ _))
      · cases a with
        | nil =>
          have hb0 : b = [] := List.eq_nil_of_length_eq_zero hl.symm
          subst hb0
          exact fin hz (cmpEq _ _ 0 _ _ _ _ (compareW0 _ _ _ _ _))
        | cons x a =>
          cases b with
          | nil => cases hl
          | cons y b =>
            have hs1 := spot_none (h1 0 x rfl)
            have hs2 := spot_none (h2 0 y rfl)
            obtain ⟨b1, o1, s1⟩ := ad
            obtain ⟨b2, o2, s2⟩ := ad2
            have e1 : s1 = none := hs1
            have e2 : s2 = none := hs2
            subst e1 e2
            have hc := compareW b1 o1 (x :: a).length ca b2 o2 cb (x :: a) (y :: b) w rfl hl.symm (by omega) (fun j hj => by
              have := h1 j _ (List.getElem?_eq_getElem hj)
              rw [Addr.add_lit] at this
              rw [this]
              rw [List.getD_eq_getElem?_getD, List.getElem?_eq_getElem hj]
              rfl) (fun j hj => by
              have hj : j < (y :: b).length := by omega
              have := h2 j _ (List.getElem?_eq_getElem hj)
              rw [Addr.add_lit] at this
              rw [this]
              rw [List.getD_eq_getElem?_getD, List.getElem?_eq_getElem hj]
              rfl)
            have := cmpEq _ _ _ _ _ _ _ hc
            rw [← hl]
            rw [← hl] at fin
            exact fin hz this
  · have hz : cmpZ a b = (a.length : Int) - b.length := by unfold cmpZ; rw [if_neg hl]
    exact fin hz (cmpNe _ _ _ _ _ _ _ ha hb (by omega))
theorem sortF1 (enc : Nat → Value) (h1 : OneCell enc) (cf : Nat → Nat → Int) (hO : SWO (ltOf cf)) (blk off cap : Nat) (d : Array Nat) (w : World) (hc : CmpLays1 Tryz.prog 41 #[] enc cf blk off d.size w) (hH : Holds enc w blk off d) (hb : blk < w.heap.size) (hs : d.size < 4611686018427387904) :
    Calls Tryz.prog 40 #[.slice (some ⟨blk, off, none⟩) d.size cap, .func (.func 41) #[] #[]] w fun e w' => e = .returned (.tuple #[]) ∧ ∃ d' n os, PermIn 0 d.size d d' ∧ SortedIn (ltOf cf) 0 d.size d' ∧ w' = sortWorld enc w blk off n d' os :=
  Tryz.slices_SortFunc enc h1 cf hO 41 #[] blk off cap d w (fun args w => run_callFunc Tryz.func41 (by kernel_rfl) (by kernel_rfl)) hc hH hb hs
theorem sortF0 (p : Option Addr) (cap : Nat) (w : World) : Calls Tryz.prog 40 #[.slice p 0 cap, .func (.func 41) #[] #[]] w fun e w' => e = .returned (.tuple #[]) ∧ w' = w :=
  Tryz.slices_SortFunc_none (α := Nat) p cap _ w
end Go.Proofs.YtlnhommmmajllaaGreat.Ev
