/-
  EvRel: what the evaluator's slots say of a frame and a world; how that is kept.
-/
import Derived.Test.YtppgjmdncffecaaEvDef
namespace Go.Proofs.Ytppgjmdncffecaa.Ev
open Go Go.RowKit

abbrev Own := Nat → Option Nat
def Xo (own : Own) (b : Nat) : Prop := ∃ s, own s = some b

def Rd (w : World) (X : Nat → Prop) (A : Option Addr) (L : List Sc) : Prop :=
  L = [] ∨ ∃ ad, A = some ad ∧ ¬ X ad.block ∧ ∀ j x, L[j]? = some x → w.cell? (ad.add j) = some x.val

def G (B : Nat) (w : World) (X : Nat → Prop) : AV → Value → Prop
  | .u, _ => True
  | .und, x => x = undef
  | .sc y, x => x = y.val
  | .sl L, x => ∃ A c, x = .slice A L.length c ∧ L.length ≤ c ∧ Rd w X A L
  | .gr L, x => ∃ A c, x = .agg #[.slice A L.length c] ∧ L.length ≤ c ∧ Rd w X A L
  | .bp L, x => ∃ ad A c, x = .pointer (some ad) ∧ ¬ X ad.block ∧ w.cell? ad = some (.slice A L.length c) ∧ L.length ≤ c ∧ Rd w X A L
  | .ev y, x => ∃ ad, x = .pointer (some ad) ∧ ¬ X ad.block ∧ w.cell? ad = some y.val
  | .t2 a b, x => ∃ p q, x = .tuple #[p, q] ∧ G B w X a p ∧ G B w X b q
  | .t3 a b c, x => ∃ p q r, x = .tuple #[p, q, r] ∧ G B w X a p ∧ G B w X b q ∧ G B w X c r
  | .t4 a b c d, x => ∃ p q r s, x = .tuple #[p, q, r, s] ∧ G B w X a p ∧ G B w X b q ∧ G B w X c r ∧ G B w X d s
  | .fr e L, x => w.ownsRow B e 1 x L.length (L.map Sc.val) ∧ ∀ b, x.ownBlock = some b → ¬ X b
  | .own _ _, _ => False
  | .al _, _ => False
  | .ep _ _, _ => False

theorem block_of_add (a : Addr) (n : Nat) : (a.add n).block = a.block := by unfold Addr.add; split <;> rfl

theorem cell_lt {w : World} {a : Addr} {v : Value} (h : w.cell? a = some v) : a.block < w.heap.size := World.block_lt_of_cell? w a h

/-- The worlds agree on every block of the elder one but those of X. -/
def Agree (X : Nat → Prop) (w w' : World) : Prop := ∀ b, b < w.heap.size → ¬ X b → w'.heap[b]? = w.heap[b]?

theorem Agree.cell {X : Nat → Prop} {w w' : World} (h : Agree X w w') {a : Addr} {v : Value} (hx : ¬ X a.block) (hc : w.cell? a = some v) : w'.cell? a = some v :=
  (World.cell?_of_block (h a.block (cell_lt hc) hx)).trans hc

theorem Agree.refl (X : Nat → Prop) (w : World) : Agree X w w := fun _ _ _ => rfl
theorem Agree.of_below {X : Nat → Prop} {w w' : World} (h : Below w.heap.size w w') : Agree X w w' := fun b hb _ => h.block b hb

theorem Rd.keep {X X' : Nat → Prop} {w w' : World} {A : Option Addr} {L : List Sc} (h : Rd w X A L) (hg : Agree X w w') (hX : ∀ b, b < w.heap.size → X' b → X b) : Rd w' X' A L := by
  rcases h with h | ⟨ad, hA, hx, hc⟩
  · exact .inl h
  · cases L with
    | nil => exact .inl rfl
    | cons y L =>
      have h0 := hc 0 y rfl
      have hlt : ad.block < w.heap.size := by have := cell_lt h0; rwa [block_of_add] at this
      exact .inr ⟨ad, hA, fun h => hx (hX _ hlt h), fun j x hj => hg.cell (by rw [block_of_add]; exact hx) (hc j x hj)⟩

theorem ownsRow_mono {w : World} {B B' : Nat} {e : TypeId} {v : Value} {n : Nat} {xs : List Value} (h : w.ownsRow B e 1 v n xs) (hB : B' ≤ B) : w.ownsRow B' e 1 v n xs := by
  refine ⟨h.1, ?_⟩
  rcases h.2 with h | ⟨g, cap, cur, h1, h2, r⟩
  · exact .inl h
  · exact .inr ⟨g, cap, cur, h1, Nat.le_trans hB h2, r⟩
theorem ownsRow_keep {w w' : World} {B : Nat} {e : TypeId} {v : Value} {n : Nat} {xs : List Value} (h : w.ownsRow B e 1 v n xs) (hk : ∀ b, v.ownBlock = some b → w'.heap[b]? = w.heap[b]?) : w'.ownsRow B e 1 v n xs := by
  refine ⟨h.1, ?_⟩
  rcases h.2 with h | ⟨g, cap, cur, rfl, h2, h3, r⟩
  · exact .inl h
  · exact .inr ⟨g, cap, cur, rfl, h2, (hk g rfl).trans h3, r⟩

theorem ownBlock_lt {w : World} {B : Nat} {e : TypeId} {v : Value} {n : Nat} {xs : List Value} (h : w.ownsRow B e 1 v n xs) {b : Nat} (hb : v.ownBlock = some b) : B ≤ b ∧ b < w.heap.size := h.lt b hb

theorem G.keep {B : Nat} {X X' : Nat → Prop} {w w' : World} (hg : Agree X w w') (hX : ∀ b, b < w.heap.size → X' b → X b) : ∀ {v : AV} {x : Value}, G B w X v x → G B w' X' v x
  | .u, _, _ => trivial
  | .und, _, h => h
  | .sc _, _, h => h
  | .sl _, _, ⟨A, c, h1, h2, h3⟩ => ⟨A, c, h1, h2, h3.keep hg hX⟩
  | .gr _, _, ⟨A, c, h1, h2, h3⟩ => ⟨A, c, h1, h2, h3.keep hg hX⟩
  | .bp _, _, ⟨ad, A, c, h1, h2, h3, h4, h5⟩ => ⟨ad, A, c, h1, fun h => h2 (hX _ (cell_lt h3) h), hg.cell h2 h3, h4, h5.keep hg hX⟩
  | .ev _, _, ⟨ad, h1, h2, h3⟩ => ⟨ad, h1, fun h => h2 (hX _ (cell_lt h3) h), hg.cell h2 h3⟩
  | .fr _ _, _, ⟨h1, h2⟩ => ⟨ownsRow_keep h1 fun b hb => hg b (ownBlock_lt h1 hb).2 (h2 b hb), fun b hb h => h2 b hb (hX _ (ownBlock_lt h1 hb).2 h)⟩
  | .t2 _ _, _, ⟨p, q, h1, h2, h3⟩ => ⟨p, q, h1, G.keep hg hX h2, G.keep hg hX h3⟩
  | .t3 _ _ _, _, ⟨p, q, r, h1, h2, h3, h4⟩ => ⟨p, q, r, h1, G.keep hg hX h2, G.keep hg hX h3, G.keep hg hX h4⟩
  | .t4 _ _ _ _, _, ⟨p, q, r, s, h1, h2, h3, h4, h5⟩ => ⟨p, q, r, s, h1, G.keep hg hX h2, G.keep hg hX h3, G.keep hg hX h4, G.keep hg hX h5⟩

/-- A value in a frame (not itself the owner of a row). -/
def GV (B : Nat) (own : Own) (σ : List AV) (tm : Array Value) (w : World) : AV → Value → Prop
  | .al s, x => ∃ e L, σ.getD s .u = .own e L ∧ tm.getD s undef = x
  | .ep s i, x => ∃ e L g cap, σ.getD s .u = .own e L ∧ tm.getD s undef = .slice (some ⟨g, 0, none⟩) L.length cap ∧ i < L.length ∧ x = .pointer (some ⟨g, i, none⟩)
  | v, x => G B w (Xo own) v x

/-- Slot t. -/
def GS (B : Nat) (own : Own) (σ : List AV) (tm : Array Value) (w : World) (t : Nat) : AV → Value → Prop
  | .own e L, x => w.ownsRow B e 1 x L.length (L.map Sc.val) ∧ own t = x.ownBlock
  | v, x => GV B own σ tm w v x

structure St (B : Nat) (w0 : World) (own : Own) (σ : List AV) (a : Act) (w : World) : Prop where
  bel : Below B w0 w
  base : B ≤ w.heap.size
  dfr : a.defers = []
  size : a.tmps.size = σ.length
  inj : ∀ s t b, own s = some b → own t = some b → s = t
  old : ∀ s b, own s = some b → B ≤ b ∧ b < w.heap.size
  slot : ∀ t, t < σ.length → GS B own σ a.tmps w t (σ.getD t .u) (a.tmps.getD t undef)

theorem GV_plain {B : Nat} {own : Own} {σ : List AV} {tm : Array Value} {w : World} {v : AV} {x : Value} (h : G B w (Xo own) v x) : GV B own σ tm w v x := by
  cases v <;> first | exact h | exact h.elim

theorem GS_of_GV {B : Nat} {own : Own} {σ : List AV} {tm : Array Value} {w : World} {t : Nat} {v : AV} {x : Value} (h : GV B own σ tm w v x) : GS B own σ tm w t v x := by
  cases v <;> first | exact h | exact h.elim

/-- What an operand is. -/
theorem St.eval {B : Nat} {w0 w : World} {own : Own} {σ : List AV} {a : Act} (h : St B w0 own σ a w) (x : Operand) : GV B own σ a.tmps w (evalO σ x) (a.eval x) := by
  cases x with
  | tmp t =>
    simp only [evalO, Act.eval]
    by_cases ht : t < σ.length
    · have := h.slot t ht
      cases hv : σ.getD t .u with
      | own e L => exact ⟨e, L, hv, rfl⟩
      | _ => rw [hv] at this; exact this
    · have : σ.getD t .u = .u := by simp [List.getD, List.getElem?_eq_none (Nat.le_of_not_lt ht)]
      rw [this]
      trivial
  | const v =>
    simp only [evalO, Act.eval]
    unfold constAV
    split
    · rfl
    · rfl
    · rfl
    · exact ⟨none, 0, rfl, Nat.le_refl _, .inl rfl⟩
    · trivial
  | global g => trivial
  | func f => trivial

theorem getD_set_same {α : Type} (l : List α) (d : Nat) (v x : α) (h : d < l.length) : (l.set d v).getD d x = v := by
  simp [List.getD, h]
theorem getD_set_other {α : Type} (l : List α) (d t : Nat) (v x : α) (h : d ≠ t) : (l.set d v).getD t x = l.getD t x := by
  simp [List.getD, List.getElem?_set_ne h]
theorem agetD_set_same (l : Array Value) (d : Nat) (v x : Value) (h : d < l.size) : (l.setIfInBounds d v).getD d x = v := by
  simp [Array.getD, h]
theorem agetD_set_other (l : Array Value) (d t : Nat) (v x : Value) (h : d ≠ t) : (l.setIfInBounds d v).getD t x = l.getD t x := by
  rw [Array.getD_eq_getD_getElem?, Array.getD_eq_getD_getElem?, Array.getElem?_setIfInBounds_ne h]
theorem getD_map (σ : List AV) (f : AV → AV) (hf : f .u = .u) (t : Nat) : (σ.map f).getD t .u = f (σ.getD t .u) := by
  simp only [List.getD, List.getElem?_map]
  cases σ[t]? <;> simp [hf]
theorem kill_length (d : Nat) (σ : List AV) : (kill d σ).length = σ.length := by unfold kill; split <;> simp
theorem setA_length (σ : List AV) (d : Nat) (v : AV) : (setA σ d v).length = σ.length := by simp [setA, kill_length]


theorem drop1_own (d : Nat) (e : TypeId) (L : List Sc) : drop1 d (.own e L) = .own e L := rfl
theorem drop1_al_ne {d s : Nat} (h : s ≠ d) : drop1 d (.al s) = .al s := by
  have : Nat.beq s d = false := by cases hb : Nat.beq s d with | false => rfl | true => exact absurd (Nat.eq_of_beq_eq_true hb) h
  simp [drop1, this]
theorem drop1_al (d : Nat) : drop1 d (.al d) = .u := by
  simp [drop1]
theorem drop1_ep_ne {d s i : Nat} (h : s ≠ d) : drop1 d (.ep s i) = .ep s i := by
  have : Nat.beq s d = false := by cases hb : Nat.beq s d with | false => rfl | true => exact absurd (Nat.eq_of_beq_eq_true hb) h
  simp [drop1, this]
theorem drop1_ep (d i : Nat) : drop1 d (.ep d i) = .u := by
  simp [drop1]

theorem St.kill {B : Nat} {w0 w : World} {own : Own} {σ : List AV} {a : Act} (h : St B w0 own σ a w) (d t : Nat) : (kill d σ).getD t .u = drop1 d (σ.getD t .u) := by
  unfold Ev.kill
  split
  · exact getD_map σ (drop1 d) rfl t
  · rename_i hno
    by_cases ht : t < σ.length
    · have hs := h.slot t ht
      cases hv : σ.getD t .u with
      | al s =>
        rw [hv] at hs
        obtain ⟨e, L, h1, _⟩ := hs
        by_cases hsd : s = d
        · subst hsd; exact absurd h1 (hno e L)
        · exact (drop1_al_ne hsd).symm
      | ep s i =>
        rw [hv] at hs
        obtain ⟨e, L, g, cap, h1, _⟩ := hs
        by_cases hsd : s = d
        · subst hsd; exact absurd h1 (hno e L)
        · exact (drop1_ep_ne hsd).symm
      | _ => rfl
    · have : σ.getD t .u = .u := by simp [List.getD, List.getElem?_eq_none (Nat.le_of_not_lt ht)]
      rw [this]; rfl

/-- What is known of a value that has just been made, in the world w', ahead of its being laid into a slot. -/
def NV (B : Nat) (own : Own) (σ : List AV) (tm : Array Value) (w w' : World) (v : AV) (x : Value) : Prop :=
  match v with
  | .own e L => w'.ownsRow w.heap.size e 1 x L.length (L.map Sc.val)
  | v => GV B own σ tm w' v x

def newBlock : AV → Value → Option Nat
  | .own _ _, x => x.ownBlock
  | _, _ => none
def ownSet (own : Own) (d : Nat) (nb : Option Nat) : Own := fun s => if s = d then nb else own s


/-- A new value is laid into a slot, in a world that has only grown. -/
theorem St.set {B : Nat} {w0 w w' : World} {own : Own} {σ : List AV} {a : Act} {v : AV} {x : Value} (h : St B w0 own σ a w) (hg : Below w.heap.size w w') (hv : NV B own σ a.tmps w w' v x) (d : Nat) :
    St B w0 (ownSet own d (newBlock v x)) (setA σ d v) (a.put (some d) x) w' := by
  have hnb : ∀ b, newBlock v x = some b → w.heap.size ≤ b ∧ b < w'.heap.size := by
    intro b hb
    cases v with
    | own e L => exact ownBlock_lt hv hb
    | _ => simp [newBlock] at hb
  have hX : ∀ b, b < w.heap.size → Xo (ownSet own d (newBlock v x)) b → Xo own b := by
    rintro b hb ⟨s, hs⟩
    unfold ownSet at hs
    split at hs
    · exact absurd (hnb b hs).1 (by omega)
    · exact ⟨s, hs⟩
  have hag : Agree (Xo own) w w' := Agree.of_below hg
  have look : ∀ t, t ≠ d → (setA σ d v).getD t .u = drop1 d (σ.getD t .u) := fun t ht => by
    unfold setA
    rw [getD_set_other _ _ _ _ _ (Ne.symm ht), h.kill d t]
  have lookv : ∀ t, t ≠ d → (a.put (some d) x).tmps.getD t undef = a.tmps.getD t undef := fun t ht => agetD_set_other _ _ _ _ _ (Ne.symm ht)
  have ownAt : ∀ s e L, s ≠ d → σ.getD s .u = .own e L → (setA σ d v).getD s .u = .own e L := fun s e L hs hL => by rw [look s hs, hL]; rfl
  refine ⟨h.bel.trans (hg.mono h.base), Nat.le_trans h.base hg.size, h.dfr, ?_, ?_, ?_, ?_⟩
  · simp [Act.put, setA_length, h.size]
  · intro s t b hs ht
    unfold ownSet at hs ht
    split at hs <;> split at ht
    · simp_all
    · have := (h.old t b ht).2; have := (hnb b hs).1; omega
    · have := (h.old s b hs).2; have := (hnb b ht).1; omega
    · exact h.inj s t b hs ht
  · intro s b hs
    unfold ownSet at hs
    split at hs
    · have := hnb b hs; exact ⟨Nat.le_trans h.base this.1, this.2⟩
    · have := h.old s b hs; exact ⟨this.1, Nat.lt_of_lt_of_le this.2 hg.size⟩
  · intro t ht
    rw [setA_length] at ht
    by_cases htd : t = d
    · subst htd
      have e1 : (setA σ t v).getD t .u = drop1 t v := by unfold setA; exact getD_set_same _ _ _ _ (by rw [kill_length]; exact ht)
      have e2 : (a.put (some t) x).tmps.getD t undef = x := agetD_set_same _ _ _ _ (by rw [h.size]; exact ht)
      rw [e1, e2]
      cases v with
      | own e L => exact ⟨ownsRow_mono hv h.base, by simp [ownSet, newBlock]⟩
      | al s =>
        obtain ⟨e, L, h1, h2⟩ := hv
        by_cases hs : s = t
        · subst hs; rw [drop1_al]; trivial
        · rw [drop1_al_ne hs]
          exact ⟨e, L, ownAt s e L hs h1, (lookv s hs).trans h2⟩
      | ep s i =>
        obtain ⟨e, L, g, cap, h1, h2, h3, h4⟩ := hv
        by_cases hs : s = t
        · subst hs; rw [drop1_ep]; trivial
        · rw [drop1_ep_ne hs]
          exact ⟨e, L, g, cap, ownAt s e L hs h1, (lookv s hs).trans h2, h3, h4⟩
      | _ => exact G.keep (Agree.refl (Xo own) w') (X' := Xo (ownSet own t none)) (fun b _ hb => by
          obtain ⟨s, hs⟩ := hb
          unfold ownSet at hs
          split at hs
          · cases hs
          · exact ⟨s, hs⟩) hv
    · rw [look t htd, lookv t htd]
      have hs := h.slot t ht
      cases hv' : σ.getD t .u with
      | own e L =>
        rw [hv'] at hs
        obtain ⟨h1, h2⟩ := hs
        refine ⟨ownsRow_keep h1 fun b hb => hg.block b (ownBlock_lt h1 hb).2, ?_⟩
        unfold ownSet; rw [if_neg htd]; exact h2
      | al s =>
        rw [hv'] at hs
        obtain ⟨e, L, h1, h2⟩ := hs
        by_cases hsd : s = d
        · subst hsd; rw [drop1_al]; trivial
        · rw [drop1_al_ne hsd]
          exact ⟨e, L, ownAt s e L hsd h1, (lookv s hsd).trans h2⟩
      | ep s i =>
        rw [hv'] at hs
        obtain ⟨e, L, g, cap, h1, h2, h3, h4⟩ := hs
        by_cases hsd : s = d
        · subst hsd; rw [drop1_ep]; trivial
        · rw [drop1_ep_ne hsd]
          exact ⟨e, L, g, cap, ownAt s e L hsd h1, (lookv s hsd).trans h2, h3, h4⟩
      | _ => rw [hv'] at hs; exact G.keep hag hX hs

theorem St.put {B : Nat} {w0 w w' : World} {own : Own} {σ : List AV} {a : Act} {v : AV} {x : Value} (h : St B w0 own σ a w) (hg : Below w.heap.size w w') (hv : NV B own σ a.tmps w w' v x) (d : Option Tmp) :
    ∃ own', St B w0 own' (put σ d v) (a.put d x) w' := by
  cases d with
  | some d => exact ⟨_, h.set hg hv d⟩
  | none =>
    refine ⟨own, h.bel.trans (hg.mono h.base), Nat.le_trans h.base hg.size, h.dfr, h.size, h.inj, fun s b hs => ⟨(h.old s b hs).1, Nat.lt_of_lt_of_le (h.old s b hs).2 hg.size⟩, fun t ht => ?_⟩
    have hs := h.slot t ht
    show GS B own σ a.tmps w' t (σ.getD t .u) (a.tmps.getD t undef)
    cases hv' : σ.getD t .u with
    | own e L =>
      rw [hv'] at hs
      exact ⟨ownsRow_keep hs.1 fun b hb => hg.block b (ownBlock_lt hs.1 hb).2, hs.2⟩
    | al s => rw [hv'] at hs; exact hs
    | ep s i => rw [hv'] at hs; exact hs
    | _ => rw [hv'] at hs; exact G.keep (Agree.of_below hg) (fun _ _ h => h) hs

end Go.Proofs.Ytppgjmdncffecaa.Ev
