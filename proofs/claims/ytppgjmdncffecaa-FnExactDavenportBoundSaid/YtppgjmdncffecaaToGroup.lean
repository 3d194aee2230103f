/-
  ToGroup: 'toGroup' by hand (its result lies in a variable): it hands back the same group in new memory.
-/
import Derived.Test.YtppgjmdncffecaaRunBase
import Derived.Test.YtppgjmdncffecaaPlain0
import Derived.ProofKit
namespace Go.Proofs.Ytppgjmdncffecaa
open Go Ev Go.RowKit
open Go.ChangeShapes Go.WideShapes Go.ChangeAt

/-- What is asked of 'toIntS'. -/
def ToIntsOk (P : Program) : Prop := ∀ (w : World) (L : List Sc) (A : Option Addr) (c : Nat), L.length ≤ c → Rd w (fun _ => False) A L → allI L = true → L.length ≤ lim →
  Calls P 10 #[.slice A L.length c] w fun e w' => ∃ v, e = .returned v ∧ w'.ownsRow w.heap.size 3 1 v L.length (L.map Sc.val) ∧ Below w.heap.size w w'

theorem toIntS_ok : ToIntsOk Try.prog := by
  intro w L A c hc hr hi hl
  have h0 : f_l_toIntS L = some L := by
    have := toIntS_eq (nums L) (by simpa [nums] using hl)
    rwa [ints_nums hi] at this
  have h1 := Base.f_l_toIntS_ok L L h0
  have h2 := (CL_sound Base.B0ok h1).2 [.slice A L.length c] w ⟨rfl, fun i v x hv hx => by
    cases i with
    | zero =>
      simp only [enc, List.getElem?_cons_zero, Option.some.injEq] at hv hx
      subst hv hx
      exact ⟨rfl, A, c, rfl, hc, hr⟩
    | succ i => simp [enc] at hv⟩
  refine h2.mono fun e w' h => ?_
  obtain ⟨xs, he, ⟨hlen, ow, _, hrv⟩, hb⟩ := h
  match xs, hlen with
  | [x], _ =>
    have := hrv 0 (.own 3 L) x rfl rfl
    exact ⟨x, he, this.1, hb⟩

theorem toGroup_calls (hP : ToIntsOk Try.prog) (w : World) (L : List Sc) (A : Option Addr) (c : Nat) (hc : L.length ≤ c) (hr : Rd w (fun _ => False) A L) (hi : allI L = true) (hl : L.length ≤ lim) :
    Calls Try.prog 15 #[.agg #[.slice A L.length c]] w fun e w' => ∃ v, e = .returned (.agg #[v]) ∧ w'.ownsRow w.heap.size 3 1 v L.length (L.map Sc.val) ∧ Below w.heap.size w w' := by
  go_enter Try.func15, Try.ntmps15
  go_wp2_with (
    refine (hP _ L A c hc (hr.keep (X := fun _ => False) (fun b hb _ => ?hk) (fun _ _ hf => hf)) hi hl).mono ?_
    case hk => rw [Below.heap_alloc _ _ _ (by simp; omega), Below.heap_alloc _ _ _ (by simp; omega), Below.heap_alloc _ _ _ hb]
    rintro e w1 ⟨v, rfl, hown, hb⟩
    obtain ⟨A', c', rfl⟩ := ownsRow_slice hown
    have hs3 : (((w.alloc (Obj.cells #[Value.slice A L.length c] 28)).alloc (Obj.cells #[Value.slice none 0 0] 31)).alloc (Obj.cells #[Value.slice none 0 0] 31)).heap.size = w.heap.size + 1 + 1 + 1 := by simp
    have c3 : w1.cell? { block := w.heap.size + 1 + 1, off := 0 } = some (.slice none 0 0) := (hb.cell (by rw [hs3]; simp)).trans (by simp [World.cell?_alloc_at, go_sem])
    have c2 : w1.cell? { block := w.heap.size + 1, off := 0 } = some (.slice none 0 0) := (hb.cell (by rw [hs3]; simp)).trans (by simp [World.cell?_alloc_past, go_sem])
    have f3 : w1.frozen? { block := w.heap.size + 1 + 1, off := 0 } = false := (hb.frozen (by rw [hs3]; simp)).trans (by simp [go_sem])
    have f2 : w1.frozen? { block := w.heap.size + 1, off := 0 } = false := (hb.frozen (by rw [hs3]; simp)).trans (by simp [go_sem])
    )
  have e1 : w.heap.size ≤ (((w.alloc (Obj.cells #[Value.slice A L.length c] 28)).alloc (Obj.cells #[Value.slice none 0 0] 31)).alloc (Obj.cells #[Value.slice none 0 0] 31)).heap.size := by rw [hs3]; omega
  have ho := ownsRow_setCell_below (ownsRow_setCell_below hown (a := { block := w.heap.size + 1 + 1, off := 0 }) (by rw [hs3]; simp) (Value.slice A' L.length c')) (a := { block := w.heap.size + 1, off := 0 }) (by rw [hs3]; simp) (Value.slice A' L.length c')
  have hB : Below w.heap.size w ((w1.setCell { block := w.heap.size + 1 + 1, off := 0 } (Value.slice A' L.length c')).setCell { block := w.heap.size + 1, off := 0 } (Value.slice A' L.length c')) :=
    ((((((Below.refl _ w).alloc (Nat.le_refl _) _).alloc (by simp) _).alloc (by simp; omega) _).trans (hb.mono e1)).setCell (by show w.heap.size ≤ w.heap.size + 1 + 1; omega) _).setCell (by show w.heap.size ≤ w.heap.size + 1; omega) _
  simp [bodyPost, results, Try.results15, go_sem, c2]
  exact ⟨ownsRow_mono ho e1, hB⟩

def f_l_toGroup_c (args : List AV) : Option (Bool × List AV) := match dec [.gr] args with
  | some [.l L] => some (grOk L, [.gr L])
  | _ => none
def extG : Calling := fun f args => match Nat.beq f 15 with
  | true => f_l_toGroup_c args
  | false => none
theorem extG_of {args rs : List AV} (h : f_l_toGroup_c args = some (true, rs)) : extG 15 args = some (true, rs) := h
theorem extG_ok : CallOk Try.prog extG := by
  intro f args rs h
  unfold extG at h
  split at h
  · rename_i hf
    rw [Nat.eq_of_beq_eq_true hf]
    refine ⟨⟨_, Try.func15, rfl⟩, fun vs w ha => ?_⟩
    unfold f_l_toGroup_c at h
    split at h
    · rename_i L hd
      have hd' := dec_enc hd
      simp only [Option.some.injEq, Prod.mk.injEq] at h
      obtain ⟨hg, rfl⟩ := h
      simp only [grOk, Bool.and_eq_true, decide_eq_true_eq] at hg
      subst hd'
      obtain ⟨hlen, hargs⟩ := ha
      match vs, hlen with
      | [v], _ =>
        obtain ⟨_, A, c, h1, h2, h3⟩ := hargs 0 (.gr L) v rfl rfl
        subst h1
        refine (toGroup_calls toIntS_ok w L A c h2 h3 hg.1 hg.2).mono fun e w' hp => ?_
        obtain ⟨v, he, ho, hb⟩ := hp
        obtain ⟨A', c', rfl⟩ := ownsRow_slice ho
        obtain ⟨_, g1, g2⟩ := Rd_of_own (X := fun b => b < w.heap.size) ho fun b hb' hx => by
          have := (ownBlock_lt ho hb').1
          omega
        refine ⟨[.agg #[.slice A' L.length c']], he, ⟨rfl, fun _ => none, (fun _ _ _ h => by cases h), fun i r x hr hx => ?_⟩, hb⟩
        cases i with
        | zero =>
          simp only [List.getElem?_cons_zero, Option.some.injEq] at hr hx
          subst hr hx
          exact ⟨A', c', rfl, g1, g2⟩
        | succ i => simp at hr
    · cases h
  · cases h
end Go.Proofs.Ytppgjmdncffecaa
