/-
  VRel: what the evaluator's slots say of a memory; how that is kept.
-/
import Derived.Test.YtlnhommmmajllaaGreatVDef
set_option linter.unusedVariables false
namespace Go.Proofs.YtlnhommmmajllaaGreat.Ev
open Go Go.RowKit
inductive Key where
  | r (t : Nat) (p : List Nat)
  | c (k n : Nat)
structure Mem where
  tm : Nat → Value
  loc : Nat → Option Addr
  ow : Nat → Option Key
  fo : Nat → Prop
  fn : Nat → Prop
def Mem.fz (M : Mem) (b : Nat) : Prop := M.fo b ∧ M.ow b = none
def Mem.upd (M : Mem) (d : Nat) (x : Value) (ow : Nat → Option Key) : Mem := { M with tm := fun t => if t = d then x else M.tm t, ow := ow }
def rf (σ : List AV) (s : Nat) : Bool := refable (σ.getD s .u)
def Rd (w : World) (Z : Nat → Prop) (A : Option Addr) (L : List Sc) : Prop :=
  L = [] ∨ ∃ ad, A = some ad ∧ Z ad.block ∧ ∀ (j : Nat) x, L[j]? = some x → isS x = true ∧ w.cell? (ad.add j) = some x.val
mutual
def HF (w : World) (Z : Nat → Prop) : Sc → Value → Prop
  | .b x, v => v = .bool x
  | .n k x, v => v = .int k x
  | .s x, v => v = .string x
  | .l L, v => ∃ A c, v = .slice A L.length c ∧ L.length ≤ c ∧ (L = [] ∨ ∃ ad, A = some ad ∧ Z ad.block ∧ HFs w Z L ad 0)
def HFs (w : World) (Z : Nat → Prop) : List Sc → Addr → Nat → Prop
  | [], _, _ => True
  | x :: L, ad, j => (∃ v, w.cell? (ad.add j) = some v ∧ HF w Z x v) ∧ HFs w Z L ad (j + 1)
end
def RdN (w : World) (Z : Nat → Prop) (A : Option Addr) (L : List Sc) : Prop :=
  L = [] ∨ ∃ ad, A = some ad ∧ Z ad.block ∧ ∀ (j : Nat) x, L[j]? = some x → ∃ v, w.cell? (ad.add j) = some v ∧ HF w Z x v
theorem HFs_iff {w : World} {Z : Nat → Prop} {ad : Addr} : ∀ {L : List Sc} {n : Nat}, HFs w Z L ad n ↔ ∀ (j : Nat) x, L[j]? = some x → ∃ v, w.cell? (ad.add (n + j)) = some v ∧ HF w Z x v
  | [], n => by simp [HFs]
  | y :: L, n => by
    unfold HFs
    rw [HFs_iff]
    constructor
    · rintro ⟨h1, h2⟩ j x hj
      cases j with
      | zero => simp only [List.getElem?_cons_zero, Option.some.injEq] at hj; subst hj; exact h1
      | succ j => rw [List.getElem?_cons_succ] at hj; rw [show n + (j + 1) = n + 1 + j by omega]; exact h2 j x hj
    · intro h
      refine ⟨h 0 y rfl, fun j x hj => ?_⟩
      rw [show n + 1 + j = n + (j + 1) by omega]
      exact h (j + 1) x (by rw [List.getElem?_cons_succ]; exact hj)
theorem HF_l {w : World} {Z : Nat → Prop} {L : List Sc} {v : Value} : HF w Z (.l L) v ↔ ∃ A c, v = .slice A L.length c ∧ L.length ≤ c ∧ RdN w Z A L := by
  unfold HF RdN
  simp only [HFs_iff, Nat.zero_add]
theorem HF_sc {w : World} {Z : Nat → Prop} {y : Sc} {v : Value} (h : isS y = true) : HF w Z y v ↔ v = y.val := by
  cases y with
  | l L => cases h
  | _ => simp [HF, Sc.val]
theorem wfL_zero {L : List Sc} : wfL 0 L = true ↔ ∀ y ∈ L, isS y = true := by
  unfold wfL
  rw [List.all_eq_true]
  exact Iff.rfl
theorem wf_l {d : Nat} {y : Sc} (h : wfS (d + 1) y = true) : ∃ L, y = .l L ∧ wfL d L = true := by
  cases y with
  | l L => exact ⟨L, rfl, h⟩
  | _ => cases h
theorem wfL_at {d j : Nat} {L : List Sc} {y : Sc} (h : wfL d L = true) (hj : L[j]? = some y) : wfS d y = true := List.all_eq_true.1 h y (List.mem_of_getElem? hj)
theorem Rd_of {w : World} {Z : Nat → Prop} {A : Option Addr} {L : List Sc} (h : RdN w Z A L) (hw : wfL 0 L = true) : Rd w Z A L := by
  rcases h with h | ⟨ad, h1, h2, h3⟩
  · exact .inl h
  · refine .inr ⟨ad, h1, h2, fun j x hj => ?_⟩
    obtain ⟨v, h4, h5⟩ := h3 j x hj
    have hs := wfL_at hw hj
    rw [HF_sc hs] at h5
    exact ⟨hs, h5 ▸ h4⟩
theorem Rd.wide {w : World} {Z : Nat → Prop} {A : Option Addr} {L : List Sc} (h : Rd w Z A L) : RdN w Z A L ∧ wfL 0 L = true := by
  rcases h with rfl | ⟨ad, h1, h2, h3⟩
  · exact ⟨.inl rfl, rfl⟩
  · refine ⟨.inr ⟨ad, h1, h2, fun j x hj => ⟨_, (h3 j x hj).2, (HF_sc (h3 j x hj).1).2 rfl⟩⟩, wfL_zero.2 fun y hy => ?_⟩
    obtain ⟨j, hj⟩ := List.getElem?_of_mem hy
    exact (h3 j y hj).1
def HL (w : World) (Z : Nat → Prop) (L : List Sc) (vs : List Value) : Prop := vs.length = L.length ∧ ∀ (j : Nat) x v, L[j]? = some x → vs[j]? = some v → HF w Z x v
def Row (w : World) (Z : Nat → Prop) (B : Nat) (e : TypeId) (x : Value) (L : List Sc) : Prop := (∃ vs, w.ownsRow B (unF e) 1 x L.length vs ∧ HL w Z L vs) ∧ wfL (dep e) L = true
theorem HL_sc {w : World} {Z : Nat → Prop} {L : List Sc} (h : ∀ y ∈ L, isS y = true) : HL w Z L (L.map Sc.val) := by
  refine ⟨by simp, fun j x v h1 h2 => ?_⟩
  rw [List.getElem?_map, h1] at h2
  injection h2 with h2
  rw [HF_sc (h x (List.mem_of_getElem? h1))]
  exact h2.symm
theorem HL_vals {w : World} {Z : Nat → Prop} {L : List Sc} {vs : List Value} (h : ∀ y ∈ L, isS y = true) (hl : HL w Z L vs) : vs = L.map Sc.val := by
  apply List.ext_getElem?
  intro j
  rw [List.getElem?_map]
  cases hj : L[j]? with
  | none =>
    have := hl.1
    rw [List.getElem?_eq_none_iff] at hj
    rw [List.getElem?_eq_none (by omega)]
    rfl
  | some x =>
    have hlt : j < vs.length := by rw [hl.1]; exact (List.getElem?_eq_some_iff.1 hj).1
    have hv := List.getElem?_eq_getElem hlt
    have := hl.2 j x _ hj hv
    rw [HF_sc (h x (List.mem_of_getElem? hj))] at this
    rw [hv, this]
    rfl
theorem dep_zero {e : TypeId} (h : isN e = false) : dep e = 0 ∧ unF e = e := by
  have h1 : ¬ 1000000 ≤ e := fun hh => by
    have : Nat.ble 1000000 e = true := Nat.ble_eq_true_of_le hh
    unfold isN at h
    rw [this] at h
    cases h
  exact ⟨Nat.div_eq_of_lt (Nat.lt_of_not_le h1), Nat.mod_eq_of_lt (Nat.lt_of_not_le h1)⟩
theorem dep_pos {e : TypeId} (h : isN e = true) : 0 < dep e := Nat.div_pos (Nat.le_of_ble_eq_true h) (by decide)
theorem Row.sc {w : World} {Z : Nat → Prop} {B : Nat} {e : TypeId} {x : Value} {L : List Sc} (he : isN e = false) (h : Row w Z B e x L) : w.ownsRow B e 1 x L.length (L.map Sc.val) ∧ ∀ y ∈ L, isS y = true := by
  obtain ⟨⟨vs, h1, h2⟩, h3⟩ := h
  rw [(dep_zero he).1] at h3
  rw [(dep_zero he).2, HL_vals (wfL_zero.1 h3) h2] at h1
  exact ⟨h1, wfL_zero.1 h3⟩
theorem Row.ofSc {w : World} {Z : Nat → Prop} {B : Nat} {e : TypeId} {x : Value} {L : List Sc} (he : isN e = false) (h : w.ownsRow B e 1 x L.length (L.map Sc.val)) (hs : ∀ y ∈ L, isS y = true) : Row w Z B e x L := by
  refine ⟨⟨_, ?_, HL_sc hs⟩, ?_⟩
  · rw [(dep_zero he).2]; exact h
  · rw [(dep_zero he).1]; exact wfL_zero.2 hs
def RdL (w : World) (Z : Nat → Prop) (A : Option Addr) (LL : List (List Sc)) : Prop :=
  LL = [] ∨ ∃ ad, A = some ad ∧ Z ad.block ∧ ∀ j L, LL[j]? = some L → ∃ A' c, w.cell? (ad.add j) = some (.slice A' L.length c) ∧ L.length ≤ c ∧ Rd w Z A' L
def FP (w : World) (Z : Nat → Prop) : Fv → Value → Prop
  | .sc y, x => x = y.val
  | .sl L, x => ∃ A c, x = .slice A L.length c ∧ L.length ≤ c ∧ Rd w Z A L
def DO (ow : Nat → Option Key) (w : World) (t : Nat) : Nat → List Nat → TypeId → Value → List Sc → Prop
  | 0, p, e, x, L => (Row w (fun _ => False) 0 e x L ∧ isN e = false) ∧ ∀ b, x.ownBlock = some b → ow b = some (.r t p)
  | n + 1, p, e, x, L => (dp e = true ∧ ∃ vs : List Value, w.ownsRow 0 (unF e) 1 x L.length vs ∧ vs.length = L.length ∧ ∀ (i : Nat) y v, L[i]? = some y → vs[i]? = some v → ∃ K, y = .l K ∧ DO ow w t n (p ++ [i]) (inn e) v K) ∧ ∀ b, x.ownBlock = some b → ow b = some (.r t p)
def RowO (M : Mem) (w : World) (t : Nat) (e : TypeId) (x : Value) (L : List Sc) : Prop := match dp e with
  | true => DO M.ow w t (dep (ud e)) [] e x L
  | false => Row w M.fz 0 e x L ∧ ∀ b, x.ownBlock = some b → M.ow b = some (.r t [])
def GP (M : Mem) (w : World) (σ : List AV) : Pv → Value → Prop
  | .sc y, x => x = y.val
  | .sl L, x => ∃ A c, x = .slice A L.length c ∧ L.length ≤ c ∧ Rd w M.fz A L
  | .gr L, x => ∃ A c, x = .agg #[.slice A L.length c] ∧ L.length ≤ c ∧ Rd w M.fz A L
  | .ev y, x => ∃ ad, x = .pointer (some ad) ∧ M.fz ad.block ∧ w.cell? ad = some y.val
  | .el L, x => ∃ ad A c, x = .pointer (some ad) ∧ M.fz ad.block ∧ w.cell? ad = some (.slice A L.length c) ∧ L.length ≤ c ∧ Rd w M.fz A L
  | .al s, x => rf σ s = true ∧ x = M.tm s
  | .go s, x => rf σ s = true ∧ x = .agg #[M.tm s]
  | .pt k n, x => ∃ b, x = .pointer (some ⟨b, 0, none⟩) ∧ 0 < n ∧ M.ow b = some (.c k n) ∧ ∀ i, i < n → M.loc (k + i) = some ⟨b, i, none⟩
  | .fp k, x => ∃ ad, x = .pointer (some ad) ∧ M.loc k = some ad
  | .st fs, x => ∃ xs : List Value, x = .agg xs.toArray ∧ xs.length = fs.length ∧ ∀ (i : Nat) f y, fs[i]? = some f → xs[i]? = some y → FP w M.fz f y
  | .ll LL, x => ∃ A c, x = .slice A LL.length c ∧ LL.length ≤ c ∧ RdL w M.fz A LL
  | .nl d L, x => ∃ A c, x = .slice A L.length c ∧ L.length ≤ c ∧ RdN w M.fz A L ∧ wfL d L = true
  | .en d L, x => ∃ ad A c, x = .pointer (some ad) ∧ M.fz ad.block ∧ w.cell? ad = some (.slice A L.length c) ∧ L.length ≤ c ∧ RdN w M.fz A L ∧ wfL d L = true
def GPs (M : Mem) (w : World) (σ : List AV) (fs : List Pv) (xs : List Value) : Prop :=
  xs.length = fs.length ∧ ∀ (i : Nat) y z, fs[i]? = some y → xs[i]? = some z → GP M w σ y z
def GS (M : Mem) (w : World) (σ : List AV) (t : Nat) : AV → Value → Prop
  | .u, _ => True
  | .mv, _ => True
  | .und, x => x = undef
  | .own e L, x => RowO M w t e x L
  | .fr e L, x => Row w M.fz 0 e x L ∧ ∀ b, x.ownBlock = some b → M.fn b ∧ M.ow b = none
  | .p y, x => GP M w σ y x
  | .ep s i, x => rf σ s = true ∧ ∃ g n cap, M.tm s = .slice (some ⟨g, 0, none⟩) n cap ∧ i < n ∧ x = .pointer (some ⟨g, i, none⟩)
  | .tu fs, x => ∃ xs : List Value, x = .tuple xs.toArray ∧ GPs M w σ fs xs
  | .fn f cap, x => ∃ xs : List Value, x = .func (.func f) #[] xs.toArray ∧ GPs M w σ cap xs
structure Core (σ : List AV) (M : Mem) (w : World) : Prop where
  slot : ∀ t, GS M w σ t (σ.getD t .u) (M.tm t)
  cell : ∀ k ad, M.loc k = some ad → w.cell? ad = some (M.tm k) ∧ w.frozen? ad = false ∧ ad.spot = none ∧ ∃ k0 n, M.ow ad.block = some (.c k0 n) ∧ k = k0 + ad.off ∧ ad.off < n
  low : ∀ b q, M.ow b = some q → b < w.heap.size ∧ M.fn b
  sub : ∀ b, M.fn b → M.fo b
theorem block_of_add (a : Addr) (n : Nat) : (a.add n).block = a.block := by unfold Addr.add; split <;> rfl
theorem cell_lt {w : World} {a : Addr} {v : Value} (h : w.cell? a = some v) : a.block < w.heap.size := World.block_lt_of_cell? w a h
theorem cell_same {w w' : World} {a : Addr} {v : Value} (h : w.cell? a = some v) (hb : w'.heap[a.block]? = w.heap[a.block]?) : w'.cell? a = some v := (World.cell?_of_block hb).trans h
theorem Rd.keep {Z Z' : Nat → Prop} {w w' : World} {A : Option Addr} {L : List Sc} (h : Rd w Z A L) (hz : ∀ b, b < w.heap.size → Z b → w'.heap[b]? = w.heap[b]? ∧ Z' b) : Rd w' Z' A L := by
  rcases h with h | ⟨ad, hA, hx, hc⟩
  · exact .inl h
  · cases L with
    | nil => exact .inl rfl
    | cons y L =>
      have h0 := (hc 0 y rfl).2
      have hlt : ad.block < w.heap.size := by have := cell_lt h0; rwa [block_of_add] at this
      have hk := hz _ hlt hx
      exact .inr ⟨ad, hA, hk.2, fun j x hj => ⟨(hc j x hj).1, cell_same (hc j x hj).2 (by rw [block_of_add]; exact hk.1)⟩⟩
mutual
theorem HF.keep {Z Z' : Nat → Prop} {w w' : World} (hz : ∀ b, b < w.heap.size → Z b → w'.heap[b]? = w.heap[b]? ∧ Z' b) : ∀ {y : Sc} {v : Value}, HF w Z y v → HF w' Z' y v
  | .b _, _, h => by simpa [HF] using h
  | .n _ _, _, h => by simpa [HF] using h
  | .s _, _, h => by simpa [HF] using h
  | .l [], v, h => by
    unfold HF at h ⊢
    obtain ⟨A, c, h1, h2, _⟩ := h
    exact ⟨A, c, h1, h2, .inl rfl⟩
  | .l (y :: L), v, h => by
    unfold HF at h ⊢
    obtain ⟨A, c, h1, h2, h3⟩ := h
    rcases h3 with h3 | ⟨ad, hA, hx, hc⟩
    · cases h3
    · have hlt : ad.block < w.heap.size := by
        unfold HFs at hc
        obtain ⟨⟨u, h0, _⟩, _⟩ := hc
        have := cell_lt h0; rwa [block_of_add] at this
      have hk := hz _ hlt hx
      exact ⟨A, c, h1, h2, .inr ⟨ad, hA, hk.2, HFs.keep hz hk.1 hc⟩⟩
theorem HFs.keep {Z Z' : Nat → Prop} {w w' : World} (hz : ∀ b, b < w.heap.size → Z b → w'.heap[b]? = w.heap[b]? ∧ Z' b) {ad : Addr} (hb : w'.heap[ad.block]? = w.heap[ad.block]?) : ∀ {L : List Sc} {j : Nat}, HFs w Z L ad j → HFs w' Z' L ad j
  | [], _, _ => by unfold HFs; trivial
  | x :: L, j, h => by
    unfold HFs at h ⊢
    obtain ⟨⟨u, h0, h1⟩, h2⟩ := h
    exact ⟨⟨u, cell_same h0 (by rw [block_of_add]; exact hb), HF.keep hz h1⟩, HFs.keep hz hb h2⟩
end
theorem RdN.keep {Z Z' : Nat → Prop} {w w' : World} {A : Option Addr} {L : List Sc} (h : RdN w Z A L) (hz : ∀ b, b < w.heap.size → Z b → w'.heap[b]? = w.heap[b]? ∧ Z' b) : RdN w' Z' A L := by
  rcases h with h | ⟨ad, hA, hx, hc⟩
  · exact .inl h
  · cases L with
    | nil => exact .inl rfl
    | cons y L =>
      obtain ⟨u, h0, _⟩ := hc 0 y rfl
      have hlt : ad.block < w.heap.size := by have := cell_lt h0; rwa [block_of_add] at this
      have hk := hz _ hlt hx
      refine .inr ⟨ad, hA, hk.2, fun j x hj => ?_⟩
      obtain ⟨u, h1, h2⟩ := hc j x hj
      exact ⟨u, cell_same h1 (by rw [block_of_add]; exact hk.1), h2.keep hz⟩
theorem HL.keep {Z Z' : Nat → Prop} {w w' : World} {L : List Sc} {vs : List Value} (h : HL w Z L vs) (hz : ∀ b, b < w.heap.size → Z b → w'.heap[b]? = w.heap[b]? ∧ Z' b) : HL w' Z' L vs :=
  ⟨h.1, fun j x v h1 h2 => (h.2 j x v h1 h2).keep hz⟩
theorem RdL.keep {Z Z' : Nat → Prop} {w w' : World} {A : Option Addr} {LL : List (List Sc)} (h : RdL w Z A LL) (hz : ∀ b, b < w.heap.size → Z b → w'.heap[b]? = w.heap[b]? ∧ Z' b) : RdL w' Z' A LL := by
  rcases h with h | ⟨ad, hA, hx, hc⟩
  · exact .inl h
  · cases LL with
    | nil => exact .inl rfl
    | cons y LL =>
      obtain ⟨_, _, h0, _⟩ := hc 0 y rfl
      have hlt : ad.block < w.heap.size := by have := cell_lt h0; rwa [block_of_add] at this
      have hk := hz _ hlt hx
      refine .inr ⟨ad, hA, hk.2, fun j L hj => ?_⟩
      obtain ⟨A', c, h1, h2, h3⟩ := hc j L hj
      exact ⟨A', c, cell_same h1 (by rw [block_of_add]; exact hk.1), h2, h3.keep hz⟩
theorem FP.keep {Z Z' : Nat → Prop} {w w' : World} {f : Fv} {x : Value} (h : FP w Z f x) (hz : ∀ b, b < w.heap.size → Z b → w'.heap[b]? = w.heap[b]? ∧ Z' b) : FP w' Z' f x := by
  cases f with
  | sc y => exact h
  | sl L => obtain ⟨A, c, h1, h2, h3⟩ := h; exact ⟨A, c, h1, h2, h3.keep hz⟩
theorem ownsRow_mono {w : World} {B B' : Nat} {e : TypeId} {v : Value} {n : Nat} {xs : List Value} (h : w.ownsRow B e 1 v n xs) (hB : B' ≤ B) : w.ownsRow B' e 1 v n xs := by
  refine ⟨h.1, ?_⟩
  rcases h.2 with h | ⟨g, cap, cur, h1, h2, r⟩
  · exact .inl h
  · exact .inr ⟨g, cap, cur, h1, Nat.le_trans hB h2, r⟩
theorem ownsRow_keep {w w' : World} {B : Nat} {e : TypeId} {v : Value} {n : Nat} {xs : List Value} (h : w.ownsRow B e 1 v n xs) (hk : ∀ b, v.ownBlock = some b → w'.heap[b]? = w.heap[b]?) : w'.ownsRow B e 1 v n xs := by
  refine ⟨h.1, ?_⟩
  rcases h.2 with h | ⟨g, cap, cur, rfl, h2, h3, r⟩
  · exact .inl h
  · exact .inr ⟨g, cap, cur, rfl, h2, (hk g rfl).trans h3, r⟩
theorem ownBlock_lt {w : World} {B : Nat} {e : TypeId} {v : Value} {n : Nat} {xs : List Value} (h : w.ownsRow B e 1 v n xs) {b : Nat} (hb : v.ownBlock = some b) : B ≤ b ∧ b < w.heap.size := h.lt b hb
theorem ownsRow_slice {w : World} {B : Nat} {e : TypeId} {v : Value} {n : Nat} {xs : List Value} (h : w.ownsRow B e 1 v n xs) : ∃ A c, v = .slice A n c := by
  rcases h.2 with ⟨h1, h2⟩ | ⟨g, cap, cur, h1, _⟩
  · exact ⟨none, 0, by rw [h1, h2]⟩
  · exact ⟨_, _, h1⟩
theorem Row.mono {w : World} {Z : Nat → Prop} {B B' : Nat} {e : TypeId} {v : Value} {L : List Sc} (h : Row w Z B e v L) (hB : B' ≤ B) : Row w Z B' e v L := by
  obtain ⟨⟨vs, h1, h2⟩, h3⟩ := h
  exact ⟨⟨vs, ownsRow_mono h1 hB, h2⟩, h3⟩
theorem Row.keep {w w' : World} {Z Z' : Nat → Prop} {B : Nat} {e : TypeId} {v : Value} {L : List Sc} (h : Row w Z B e v L) (hk : ∀ b, v.ownBlock = some b → w'.heap[b]? = w.heap[b]?) (hz : isN e = true → ∀ b, b < w.heap.size → Z b → w'.heap[b]? = w.heap[b]? ∧ Z' b) : Row w' Z' B e v L := by
  cases he : isN e with
  | false =>
    have h1 := h.sc he
    exact Row.ofSc he (ownsRow_keep h1.1 hk) h1.2
  | true =>
    obtain ⟨⟨vs, h1, h2⟩, h3⟩ := h
    exact ⟨⟨vs, ownsRow_keep h1 hk, h2.keep (hz he)⟩, h3⟩
theorem Row.lt {w : World} {Z : Nat → Prop} {B : Nat} {e : TypeId} {v : Value} {L : List Sc} (h : Row w Z B e v L) {b : Nat} (hb : v.ownBlock = some b) : B ≤ b ∧ b < w.heap.size := by
  obtain ⟨⟨vs, h1, _⟩, _⟩ := h
  exact ownBlock_lt h1 hb
theorem Row.slice {w : World} {Z : Nat → Prop} {B : Nat} {e : TypeId} {v : Value} {L : List Sc} (h : Row w Z B e v L) : ∃ A c, v = .slice A L.length c := by
  obtain ⟨⟨vs, h1, _⟩, _⟩ := h
  exact ownsRow_slice h1
theorem Row.read {w : World} {B : Nat} {e : TypeId} {L : List Sc} {Z Z' : Nat → Prop} {A : Option Addr} {n c : Nat} (h : Row w Z' B e (.slice A n c) L) (hZ : isN e = true → ∀ b, b < w.heap.size → Z' b → Z b) (hX : ∀ b, (Value.slice A n c).ownBlock = some b → Z b) : n = L.length ∧ L.length ≤ c ∧ RdN w Z A L ∧ wfL (dep e) L = true := by
  cases he : isN e with
  | false =>
    obtain ⟨h0, hs⟩ := h.sc he
    have hcells := fun g => h0.cells (g := g)
    rw [(dep_zero he).1]
    rcases h0.2 with ⟨h1, h2⟩ | ⟨g, cap, cur, h1, h2, h3, h4, _⟩
    · simp only [Value.slice.injEq] at h1
      obtain ⟨rfl, rfl, rfl⟩ := h1
      have : L = [] := List.eq_nil_of_length_eq_zero h2
      subst this
      exact ⟨rfl, Nat.le_refl _, .inl rfl, rfl⟩
    · simp only [Value.slice.injEq] at h1
      obtain ⟨rfl, rfl, rfl⟩ := h1
      refine ⟨rfl, h4, .inr ⟨⟨g, 0, none⟩, rfl, hX g rfl, fun j x hj => ?_⟩, wfL_zero.2 hs⟩
      exact ⟨_, hcells g rfl j x.val (by simp [hj]), (HF_sc (hs x (List.mem_of_getElem? hj))).2 rfl⟩
  | true =>
    obtain ⟨⟨vs, h, hl⟩, hw⟩ := h
    have hcells := fun g => h.cells (g := g)
    rcases h.2 with ⟨h1, h2⟩ | ⟨g, cap, cur, h1, h2, h3, h4, _⟩
    · simp only [Value.slice.injEq] at h1
      obtain ⟨rfl, rfl, rfl⟩ := h1
      have : L = [] := List.eq_nil_of_length_eq_zero h2
      subst this
      exact ⟨rfl, Nat.le_refl _, .inl rfl, hw⟩
    · simp only [Value.slice.injEq] at h1
      obtain ⟨rfl, rfl, rfl⟩ := h1
      refine ⟨rfl, h4, .inr ⟨⟨g, 0, none⟩, rfl, hX g rfl, fun j x hj => ?_⟩, hw⟩
      have hlt : j < vs.length := by rw [hl.1]; exact (List.getElem?_eq_some_iff.1 hj).1
      have hv := List.getElem?_eq_getElem hlt
      exact ⟨_, hcells g rfl j _ hv, (hl.2 j x _ hj hv).keep fun b hb hz => ⟨rfl, hZ he b hb hz⟩⟩
theorem Rd_of_own {w : World} {B : Nat} {e : TypeId} {L : List Sc} {Z Z' : Nat → Prop} {A : Option Addr} {n c : Nat} (he : isN e = false) (h : Row w Z' B e (.slice A n c) L) (hX : ∀ b, (Value.slice A n c).ownBlock = some b → Z b) : n = L.length ∧ L.length ≤ c ∧ Rd w Z A L := by
  obtain ⟨h1, h2, h3, h4⟩ := h.read (Z := Z) (fun hn => by rw [he] at hn; cases hn) hX
  rw [(dep_zero he).1] at h4
  exact ⟨h1, h2, Rd_of h3 h4⟩
theorem DO.keys {ow : Nat → Option Key} {w : World} {t n : Nat} {p : List Nat} {e : TypeId} {x : Value} {L : List Sc} (h : DO ow w t n p e x L) : ∀ b, x.ownBlock = some b → ow b = some (.r t p) := by
  cases n <;> exact h.2
theorem DO.owns {ow : Nat → Option Key} {w : World} {t n : Nat} {p : List Nat} {e : TypeId} {x : Value} {L : List Sc} (h : DO ow w t n p e x L) : ∃ vs, w.ownsRow 0 (unF e) 1 x L.length vs ∧ vs.length = L.length := by
  cases n with
  | zero => obtain ⟨⟨⟨⟨vs, h1, h2⟩, _⟩, _⟩, _⟩ := h; exact ⟨vs, h1, h2.1⟩
  | succ n => obtain ⟨⟨_, vs, h1, h2, _⟩, _⟩ := h; exact ⟨vs, h1, h2⟩
theorem DO.keep {ow ow' : Nat → Option Key} {w w' : World} {t t' : Nat} : ∀ {n : Nat} {p p' : List Nat} {e : TypeId} {x : Value} {L : List Sc}, (∀ b q, b < w.heap.size → ow b = some (.r t (p ++ q)) → w'.heap[b]? = w.heap[b]? ∧ ow' b = some (.r t' (p' ++ q))) → DO ow w t n p e x L → DO ow' w' t' n p' e x L
  | 0, p, p', e, x, L, hk, h => by
    obtain ⟨⟨h1, h2⟩, h3⟩ := h
    have key : ∀ b, x.ownBlock = some b → w'.heap[b]? = w.heap[b]? ∧ ow' b = some (.r t' p') := fun b hb => by
      have := hk b [] (h1.lt hb).2 (by rw [List.append_nil]; exact h3 b hb)
      rwa [List.append_nil] at this
    exact ⟨⟨h1.keep (fun b hb => (key b hb).1) (fun _ _ _ hf => hf.elim), h2⟩, fun b hb => (key b hb).2⟩
  | n + 1, p, p', e, x, L, hk, h => by
    obtain ⟨⟨h0, vs, h1, h2, h3⟩, h4⟩ := h
    have key : ∀ b, x.ownBlock = some b → w'.heap[b]? = w.heap[b]? ∧ ow' b = some (.r t' p') := fun b hb => by
      have := hk b [] (ownBlock_lt h1 hb).2 (by rw [List.append_nil]; exact h4 b hb)
      rwa [List.append_nil] at this
    refine ⟨⟨h0, vs, ownsRow_keep h1 (fun b hb => (key b hb).1), h2, fun i y v hy hv => ?_⟩, fun b hb => (key b hb).2⟩
    obtain ⟨K, h5, h6⟩ := h3 i y v hy hv
    refine ⟨K, h5, h6.keep fun b q hb hq => ?_⟩
    have := hk b (i :: q) hb (by rw [hq, List.append_assoc]; rfl)
    exact ⟨this.1, by rw [this.2, List.append_assoc]; rfl⟩
theorem DO.read {ow : Nat → Option Key} {w : World} {t : Nat} {Z : Nat → Prop} : ∀ {n : Nat} {p : List Nat} {e : TypeId} {x : Value} {L : List Sc}, (∀ b q, ow b = some (.r t q) → Z b) → DO ow w t n p e x L → ∃ A c, x = .slice A L.length c ∧ L.length ≤ c ∧ RdN w Z A L ∧ wfL n L = true
  | 0, p, e, x, L, hZ, h => by
    obtain ⟨⟨h1, h2⟩, h3⟩ := h
    obtain ⟨A, c, rfl⟩ := h1.slice
    obtain ⟨_, h4, h5, h6⟩ := h1.read (Z := Z) (fun _ _ _ hf => hf.elim) fun b hb => hZ b p (h3 b hb)
    rw [(dep_zero h2).1] at h6
    exact ⟨A, c, rfl, h4, h5, h6⟩
  | n + 1, p, e, x, L, hZ, h => by
    obtain ⟨⟨h0, vs, h1, h2, h3⟩, h4⟩ := h
    have inner : ∀ j (y : Sc) v, L[j]? = some y → vs[j]? = some v → HF w Z y v ∧ wfS (n + 1) y = true := fun j y v hy hv => by
      obtain ⟨K, rfl, h5⟩ := h3 j y v hy hv
      obtain ⟨A, c, h6, h7, h8, h9⟩ := h5.read hZ
      exact ⟨HF_l.2 ⟨A, c, h6, h7, h8⟩, h9⟩
    have hw : wfL (n + 1) L = true := by
      unfold wfL
      rw [List.all_eq_true]
      intro y hy
      obtain ⟨j, hj⟩ := List.getElem?_of_mem hy
      have hlt : j < vs.length := by rw [h2]; exact (List.getElem?_eq_some_iff.1 hj).1
      exact (inner j y _ hj (List.getElem?_eq_getElem hlt)).2
    have hcells := fun g => h1.cells (g := g)
    rcases h1.2 with ⟨g1, g2⟩ | ⟨g, cap, cur, g1, g2, g3, g5, _⟩
    · have : L = [] := List.eq_nil_of_length_eq_zero g2
      subst this
      exact ⟨none, 0, g1, Nat.le_refl _, .inl rfl, hw⟩
    · refine ⟨_, cap, g1, g5, .inr ⟨⟨g, 0, none⟩, rfl, hZ g p (h4 g (by rw [g1]; rfl)), fun j y hj => ?_⟩, hw⟩
      have hlt : j < vs.length := by rw [h2]; exact (List.getElem?_eq_some_iff.1 hj).1
      have hv := List.getElem?_eq_getElem hlt
      exact ⟨_, hcells g (by rw [g1]; rfl) j _ hv, (inner j y _ hj hv).1⟩
theorem dp_isN {e : TypeId} (h : dp e = true) : isN e = true := Nat.ble_eq_true_of_le (Nat.le_trans (by decide) (Nat.le_of_ble_eq_true h))
section
variable {M M' : Mem} {w w' : World} {t t' : Nat} {e : TypeId} {x : Value} {L : List Sc}
theorem RowO.flat (hd : dp e = false) : RowO M w t e x L ↔ (Row w M.fz 0 e x L ∧ ∀ b, x.ownBlock = some b → M.ow b = some (.r t [])) := by
  unfold RowO; rw [hd]
theorem RowO.deep (hd : dp e = true) : RowO M w t e x L ↔ DO M.ow w t (dep (ud e)) [] e x L := by
  unfold RowO; rw [hd]
theorem RowO.keys (h : RowO M w t e x L) : ∀ b, x.ownBlock = some b → M.ow b = some (.r t []) := by
  cases hd : dp e with
  | true => exact ((RowO.deep hd).1 h).keys
  | false => exact ((RowO.flat hd).1 h).2
theorem RowO.owns (h : RowO M w t e x L) : ∃ vs, w.ownsRow 0 (unF e) 1 x L.length vs ∧ vs.length = L.length := by
  cases hd : dp e with
  | true => exact ((RowO.deep hd).1 h).owns
  | false => obtain ⟨⟨⟨vs, h1, h2⟩, _⟩, _⟩ := (RowO.flat hd).1 h; exact ⟨vs, h1, h2.1⟩
theorem RowO.slice (h : RowO M w t e x L) : ∃ A c, x = .slice A L.length c := by obtain ⟨vs, h1, _⟩ := h.owns; exact ownsRow_slice h1
theorem RowO.lt (h : RowO M w t e x L) {b : Nat} (hb : x.ownBlock = some b) : b < w.heap.size := by obtain ⟨vs, h1, _⟩ := h.owns; exact (ownBlock_lt h1 hb).2
theorem RowO.keep (h : RowO M w t e x L) (ho : ∀ b p, b < w.heap.size → M.ow b = some (.r t p) → w'.heap[b]? = w.heap[b]? ∧ M'.ow b = some (.r t' p)) (hz : (isN e && !dp e) = true → ∀ b, b < w.heap.size → M.fz b → w'.heap[b]? = w.heap[b]? ∧ M'.fz b) : RowO M' w' t' e x L := by
  cases hd : dp e with
  | true => exact (RowO.deep hd).2 (((RowO.deep hd).1 h).keep fun b q hb hq => ho b q hb hq)
  | false =>
    obtain ⟨h1, h2⟩ := (RowO.flat hd).1 h
    exact (RowO.flat hd).2 ⟨h1.keep (fun b hb => (ho b [] (h1.lt hb).2 (h2 b hb)).1) (fun he => hz (by rw [he, hd]; rfl)), fun b hb => (ho b [] (h1.lt hb).2 (h2 b hb)).2⟩
end
theorem getD_set_same {α : Type} (l : List α) (d : Nat) (v x : α) (h : d < l.length) : (l.set d v).getD d x = v := by
  simp [List.getD, h]
theorem getD_set_other {α : Type} (l : List α) (d t : Nat) (v x : α) (h : d ≠ t) : (l.set d v).getD t x = l.getD t x := by
  simp [List.getD, List.getElem?_set_ne h]
theorem getD_ge {σ : List AV} {t : Nat} (h : σ.length ≤ t) : σ.getD t .u = .u := by simp [List.getD, List.getElem?_eq_none h]
theorem getD_set (σ : List AV) (d t : Nat) (v : AV) : (σ.set d v).getD t .u = if t = d ∧ d < σ.length then v else σ.getD t .u := by
  by_cases h : t = d
  · subst h
    by_cases hl : t < σ.length
    · rw [getD_set_same _ _ _ _ hl, if_pos ⟨rfl, hl⟩]
    · rw [if_neg (fun h => hl h.2), getD_ge (by simpa using hl), getD_ge (by simpa using hl)]
  · rw [getD_set_other _ _ _ _ _ (Ne.symm h), if_neg (fun h' => h h'.1)]
theorem agetD_set_same (l : Array Value) (d : Nat) (v x : Value) (h : d < l.size) : (l.setIfInBounds d v).getD d x = v := by
  simp [Array.getD, h]
theorem agetD_set_other (l : Array Value) (d t : Nat) (v x : Value) (h : d ≠ t) : (l.setIfInBounds d v).getD t x = l.getD t x := by
  rw [Array.getD_eq_getD_getElem?, Array.getD_eq_getD_getElem?, Array.getElem?_setIfInBounds_ne h]
theorem getD_map (σ : List AV) (f : AV → AV) (hf : f .u = .u) (t : Nat) : (σ.map f).getD t .u = f (σ.getD t .u) := by
  simp only [List.getD, List.getElem?_map]
  cases σ[t]? <;> simp [hf]
theorem lt_of_getD {σ : List AV} {t : Nat} {v : AV} (h : σ.getD t .u = v) (hv : v ≠ .u) : t < σ.length := by
  rcases Nat.lt_or_ge t σ.length with hl | hl
  · exact hl
  · rw [getD_ge hl] at h; exact absurd h.symm hv
theorem nbeq {a b : Nat} : Nat.beq a b = true ↔ a = b := ⟨Nat.eq_of_beq_eq_true, fun h => h ▸ Nat.beq_refl _⟩
theorem nbeq_ne {a b : Nat} (h : a ≠ b) : Nat.beq a b = false := by
  cases hb : Nat.beq a b with
  | false => rfl
  | true => exact absurd (nbeq.1 hb) h
theorem dropV_eq {d : Nat} {v : AV} (h : hasVA d v = false) : dropV d v = v := by simp [dropV, h]
theorem dropV_cases (d : Nat) (v : AV) : (dropV d v = v ∧ hasVA d v = false) ∨ dropV d v = .u := by
  unfold dropV
  cases hasVA d v <;> simp
theorem killV_length (d : Nat) (σ : List AV) : (killV d σ).length = σ.length := by unfold killV; split <;> simp
theorem setA_length (σ : List AV) (d : Nat) (v : AV) : (setA σ d v).length = σ.length := by simp [setA, killV_length]
section
variable {M M' : Mem} {w w' : World} {σ σ' : List AV}
theorem GP.refs {y : Pv} {x : Value} {d : Nat} (h : GP M w σ y x) (hd : hasV d y = true) : rf σ d = true := by
  cases y <;> simp only [hasV, Bool.false_eq_true] at hd
  · rw [nbeq] at hd; subst hd; exact h.1
  · rw [nbeq] at hd; subst hd; exact h.1
theorem GPs.refs {fs : List Pv} {xs : List Value} {d : Nat} (h : GPs M w σ fs xs) (hd : fs.any (hasV d) = true) : rf σ d = true := by
  obtain ⟨y, hy, h1⟩ := List.any_eq_true.1 hd
  obtain ⟨i, hi⟩ := List.getElem?_of_mem hy
  have hlt : i < xs.length := by rw [h.1]; exact (List.getElem?_eq_some_iff.1 hi).1
  exact (h.2 i y _ hi (List.getElem?_eq_getElem hlt)).refs h1
theorem GS.refs {t : Nat} {v : AV} {x : Value} {d : Nat} (h : GS M w σ t v x) (hd : hasVA d v = true) : rf σ d = true := by
  cases v with
  | p y => exact GP.refs h hd
  | ep s i => simp only [hasVA, nbeq] at hd; subst hd; exact h.1
  | tu fs => obtain ⟨xs, _, h2⟩ := h; exact h2.refs hd
  | fn f cap => obtain ⟨xs, _, h2⟩ := h; exact h2.refs hd
  | _ => simp [hasVA] at hd
theorem Core.killV (h : Core σ M w) (d t : Nat) : (Ev.killV d σ).getD t .u = dropV d (σ.getD t .u) := by
  unfold Ev.killV
  have key : rf σ d = false → σ.getD t .u = dropV d (σ.getD t .u) := fun hr => by
    rcases dropV_cases d (σ.getD t .u) with ⟨h1, _⟩ | h1
    · exact h1.symm
    · by_cases hv : hasVA d (σ.getD t .u) = true
      · have := (h.slot t).refs hv; rw [hr] at this; cases this
      · rw [dropV_eq (by simpa using hv)]
  split
  · exact getD_map σ _ rfl t
  · exact getD_map σ _ rfl t
  · rename_i h1 h2
    apply key
    unfold rf
    cases hv : σ.getD d .u <;> simp_all [refable]
theorem Core.setA_getD (h : Core σ M w) (d t : Nat) (v : AV) : (setA σ d v).getD t .u = if t = d ∧ d < σ.length then dropV d v else dropV d (σ.getD t .u) := by
  unfold setA
  rw [getD_set, killV_length, h.killV d t]
theorem GP.keep {y : Pv} {x : Value} (hv : ∀ s, hasV s y = true → rf σ s = true → rf σ' s = true ∧ M'.tm s = M.tm s) (hp : ∀ k ad, hasP k y = true → M.loc k = some ad → M'.loc k = some ad ∧ M'.ow ad.block = M.ow ad.block)
    (hz : ∀ b, b < w.heap.size → M.fz b → w'.heap[b]? = w.heap[b]? ∧ M'.fz b) (h : GP M w σ y x) : GP M' w' σ' y x := by
  cases y with
  | sc y => exact h
  | sl L => obtain ⟨A, c, h1, h2, h3⟩ := h; exact ⟨A, c, h1, h2, h3.keep hz⟩
  | gr L => obtain ⟨A, c, h1, h2, h3⟩ := h; exact ⟨A, c, h1, h2, h3.keep hz⟩
  | ev y => obtain ⟨ad, h1, h2, h3⟩ := h; have := hz _ (cell_lt h3) h2; exact ⟨ad, h1, this.2, cell_same h3 this.1⟩
  | el L => obtain ⟨ad, A, c, h1, h2, h3, h4, h5⟩ := h; have := hz _ (cell_lt h3) h2; exact ⟨ad, A, c, h1, this.2, cell_same h3 this.1, h4, h5.keep hz⟩
  | al s => have := hv s (by simp [hasV]) h.1; exact ⟨this.1, h.2.trans this.2.symm⟩
  | go s => have := hv s (by simp [hasV]) h.1; exact ⟨this.1, by rw [h.2, this.2]⟩
  | pt k n =>
    obtain ⟨b, h1, h2, h3, h4⟩ := h
    have hin : ∀ i, i < n → hasP (k + i) (.pt k n) = true := fun i hi => by
      simp only [hasP, Bool.and_eq_true]
      exact ⟨by rw [Nat.ble_eq]; omega, by rw [Nat.blt_eq]; omega⟩
    exact ⟨b, h1, h2, ((hp _ _ (hin 0 h2) (h4 0 h2)).2).trans h3, fun i hi => (hp _ _ (hin i hi) (h4 i hi)).1⟩
  | fp k => obtain ⟨ad, h1, h2⟩ := h; exact ⟨ad, h1, (hp k ad (by simp [hasP]) h2).1⟩
  | st fs => obtain ⟨xs, h1, h2, h3⟩ := h; exact ⟨xs, h1, h2, fun i f y hf hy => (h3 i f y hf hy).keep hz⟩
  | ll LL => obtain ⟨A, c, h1, h2, h3⟩ := h; exact ⟨A, c, h1, h2, h3.keep hz⟩
  | nl d L => obtain ⟨A, c, h1, h2, h3, h4⟩ := h; exact ⟨A, c, h1, h2, h3.keep hz, h4⟩
  | en d L => obtain ⟨ad, A, c, h1, h2, h3, h4, h5, h6⟩ := h; have := hz _ (cell_lt h3) h2; exact ⟨ad, A, c, h1, this.2, cell_same h3 this.1, h4, h5.keep hz, h6⟩
theorem GPs.keep {fs : List Pv} {xs : List Value} (hv : ∀ s, fs.any (hasV s) = true → rf σ s = true → rf σ' s = true ∧ M'.tm s = M.tm s) (hp : ∀ k ad, fs.any (hasP k) = true → M.loc k = some ad → M'.loc k = some ad ∧ M'.ow ad.block = M.ow ad.block)
    (hz : ∀ b, b < w.heap.size → M.fz b → w'.heap[b]? = w.heap[b]? ∧ M'.fz b) (h : GPs M w σ fs xs) : GPs M' w' σ' fs xs :=
  ⟨h.1, fun i y z hy hz' => (h.2 i y z hy hz').keep (fun s hs => hv s (List.any_eq_true.2 ⟨y, List.mem_of_getElem? hy, hs⟩)) (fun k ad hk => hp k ad (List.any_eq_true.2 ⟨y, List.mem_of_getElem? hy, hk⟩)) hz⟩
theorem GS.keep {t t' : Nat} {v : AV} {x : Value} (hv : ∀ s, hasVA s v = true → rf σ s = true → rf σ' s = true ∧ M'.tm s = M.tm s) (hp : ∀ k ad, hasPA k v = true → M.loc k = some ad → M'.loc k = some ad ∧ M'.ow ad.block = M.ow ad.block)
    (hz : ∀ b, b < w.heap.size → M.fz b → w'.heap[b]? = w.heap[b]? ∧ M'.fz b) (ho : ∀ b p, b < w.heap.size → M.ow b = some (.r t p) → w'.heap[b]? = w.heap[b]? ∧ M'.ow b = some (.r t' p))
    (hn : ∀ b, M.fn b → M'.fn b) (hsub : ∀ b, M.fn b → M.fo b) (h : GS M w σ t v x) : GS M' w' σ' t' v x := by
  cases v with
  | u => trivial
  | mv => trivial
  | und => exact h
  | own e L => exact RowO.keep h ho (fun _ => hz)
  | fr e L =>
    have key : ∀ b, x.ownBlock = some b → w'.heap[b]? = w.heap[b]? ∧ M'.fz b := fun b hb => hz b (h.1.lt hb).2 ⟨hsub b (h.2 b hb).1, (h.2 b hb).2⟩
    exact ⟨h.1.keep (fun b hb => (key b hb).1) (fun _ => hz), fun b hb => ⟨hn b (h.2 b hb).1, (key b hb).2.2⟩⟩
  | p y => exact GP.keep hv hp hz h
  | ep s i => obtain ⟨h1, g, n, cap, h2, h3, h4⟩ := h; have := hv s (by simp [hasVA]) h1; exact ⟨this.1, g, n, cap, this.2.trans h2, h3, h4⟩
  | tu fs => obtain ⟨xs, h1, h2⟩ := h; exact ⟨xs, h1, h2.keep hv hp hz⟩
  | fn f cap => obtain ⟨xs, h1, h2⟩ := h; exact ⟨xs, h1, h2.keep hv hp hz⟩
theorem Core.locinj (h : Core σ M w) {k k' : Nat} {ad ad' : Addr} (hk : M.loc k = some ad) (hk' : M.loc k' = some ad') (hb : ad.block = ad'.block) (ho : ad.off = ad'.off) : k = k' := by
  obtain ⟨_, _, _, k0, n0, h1, h2, _⟩ := h.cell k ad hk
  obtain ⟨_, _, _, k1, n1, h3, h4, _⟩ := h.cell k' ad' hk'
  rw [hb, h3] at h1
  injection h1 with h1
  injection h1 with h1
  omega
theorem Core.gen (h : Core σ M w) (S : Nat → Prop)
    (hrest : ∀ t, ¬ S t → (σ'.getD t .u = σ.getD t .u ∨ σ'.getD t .u = .u) ∧ (σ'.getD t .u = .u ∨ M'.tm t = M.tm t))
    (href : ∀ t s, ¬ S t → hasVA s (σ'.getD t .u) = true → rf σ s = true → rf σ' s = true ∧ M'.tm s = M.tm s)
    (hloc : ∀ t k ad, ¬ S t → hasPA k (σ'.getD t .u) = true → M.loc k = some ad → M'.loc k = some ad ∧ M'.ow ad.block = M.ow ad.block)
    (hz : ∀ b, b < w.heap.size → M.fz b → w'.heap[b]? = w.heap[b]? ∧ M'.fz b)
    (ho : ∀ b t p, b < w.heap.size → ¬ S t → M.ow b = some (.r t p) → w'.heap[b]? = w.heap[b]? ∧ M'.ow b = some (.r t p))
    (hn : ∀ b, M.fn b → M'.fn b)
    (hS : ∀ t, S t → GS M' w' σ' t (σ'.getD t .u) (M'.tm t))
    (hc : ∀ k ad, M'.loc k = some ad → w'.cell? ad = some (M'.tm k) ∧ w'.frozen? ad = false ∧ ad.spot = none ∧ ∃ k0 n, M'.ow ad.block = some (.c k0 n) ∧ k = k0 + ad.off ∧ ad.off < n)
    (hl : ∀ b q, M'.ow b = some q → b < w'.heap.size ∧ M'.fn b) (hs : ∀ b, M'.fn b → M'.fo b) : Core σ' M' w' := by
  refine ⟨fun t => ?_, hc, hl, hs⟩
  by_cases ht : S t
  · exact hS t ht
  · obtain ⟨h1, h2⟩ := hrest t ht
    rcases h2 with h2 | h2
    · rw [h2]; trivial
    · rcases h1 with h1 | h1
      · have := h.slot t
        rw [h2]
        refine GS.keep (M := M) (w := w) (σ := σ) (t := t) (href t · ht) (hloc t · · ht) hz (fun b p hb hp => ho b t p hb ht hp) hn h.sub ?_
        rw [h1]; exact this
      · rw [h1]; trivial
theorem Core.put (h : Core σ M w) (d : Nat) (v : AV) (x : Value) (ow' : Nat → Option Key)
    (hz : ∀ b, b < w.heap.size → M.fz b → w'.heap[b]? = w.heap[b]? ∧ ow' b = none)
    (ho : ∀ b t p, b < w.heap.size → t ≠ d → M.ow b = some (.r t p) → w'.heap[b]? = w.heap[b]? ∧ ow' b = some (.r t p))
    (hc : ∀ k ad, M.loc k = some ad → w'.cell? ad = some (if k = d then x else M.tm k) ∧ w'.frozen? ad = false ∧ ow' ad.block = M.ow ad.block)
    (hl : ∀ b q, ow' b = some q → b < w'.heap.size ∧ M.fn b)
    (hv : hasVA d v = false → GS (M.upd d x ow') w' (setA σ d v) d v x) : Core (setA σ d v) (M.upd d x ow') w' := by
  have hrfd : ∀ s, s ≠ d → rf σ s = true → rf (setA σ d v) s = true := fun s hs hr => by
    unfold rf
    rw [h.setA_getD, if_neg (fun h => hs h.1)]
    rcases dropV_cases d (σ.getD s .u) with ⟨h1, _⟩ | h1
    · rw [h1]; exact hr
    · unfold rf at hr
      cases hq : σ.getD s .u <;> rw [hq] at hr h1 <;> simp_all [refable, dropV, hasVA]
  refine Core.gen h (fun t => t = d) (fun t ht => ?_) (fun t s ht hs hr => ?_) (fun t k ad _ _ hk => ⟨hk, (hc k ad hk).2.2⟩) (fun b hb hf => ⟨(hz b hb hf).1, hf.1, (hz b hb hf).2⟩) (fun b t p hb ht hp => ho b t p hb ht hp)
    (fun b hb => hb) (fun t ht => ?_) (fun k ad hk => ?_) hl h.sub
  · refine ⟨?_, .inr (by simp [Mem.upd, ht])⟩
    rw [h.setA_getD, if_neg (fun h => ht h.1)]
    rcases dropV_cases d (σ.getD t .u) with ⟨h1, _⟩ | h1
    · exact .inl h1
    · exact .inr h1
  · have hsd : s ≠ d := fun e => by
      subst e
      rw [h.setA_getD, if_neg (fun h => ht h.1)] at hs
      unfold dropV at hs
      split at hs
      · simp [hasVA] at hs
      · rename_i hx; rw [hx] at hs; cases hs
    exact ⟨hrfd s hsd hr, by simp [Mem.upd, hsd]⟩
  · subst ht
    rw [h.setA_getD]
    show GS _ _ _ _ _ (if t = t then x else M.tm t)
    rw [if_pos rfl]
    by_cases hl' : t < σ.length
    · rw [if_pos ⟨rfl, hl'⟩]
      rcases dropV_cases t v with ⟨h1, h2⟩ | h1
      · rw [h1]; exact hv h2
      · rw [h1]; trivial
    · rw [if_neg (fun h => hl' h.2), getD_ge (Nat.le_of_not_lt hl')]; trivial
  · obtain ⟨h1, h2, h3⟩ := hc k ad hk
    obtain ⟨_, _, h6, k0, n0, h4, h5⟩ := h.cell k ad hk
    exact ⟨h1, h2, h6, k0, n0, h3.trans h4, h5⟩
theorem GS.put {v : AV} {x x' : Value} {d t : Nat} {ow' : Nat → Option Key} (h : Core σ M w) (hg : GS M w σ t v x) (hv : hasVA d v = false) (hno : ∀ e L, v ≠ .own e L)
    (hz : ∀ b, b < w.heap.size → M.fz b → w'.heap[b]? = w.heap[b]? ∧ ow' b = none) (how : ∀ k ad, M.loc k = some ad → ow' ad.block = M.ow ad.block) : GS (M.upd d x' ow') w' (setA σ d v) d v x := by
  have hrfd : ∀ s, s ≠ d → rf σ s = true → rf (setA σ d v) s = true := fun s hs hr => by
    unfold rf
    rw [h.setA_getD, if_neg (fun h => hs h.1)]
    rcases dropV_cases d (σ.getD s .u) with ⟨h1, _⟩ | h1
    · rw [h1]; exact hr
    · unfold rf at hr
      cases hq : σ.getD s .u <;> rw [hq] at hr h1 <;> simp_all [refable, dropV, hasVA]
  have key : ∀ s, hasVA s v = true → rf σ s = true → rf (setA σ d v) s = true ∧ (M.upd d x' ow').tm s = M.tm s := fun s hs hr => by
    have hsd : s ≠ d := fun e => by subst e; rw [hs] at hv; cases hv
    exact ⟨hrfd s hsd hr, by simp [Mem.upd, hsd]⟩
  have hz' : ∀ b, b < w.heap.size → M.fz b → w'.heap[b]? = w.heap[b]? ∧ (M.upd d x' ow').fz b := fun b hb hf => ⟨(hz b hb hf).1, hf.1, (hz b hb hf).2⟩
  cases v with
  | own e L => exact absurd rfl (hno e L)
  | fr e L =>
    have k2 : ∀ b, x.ownBlock = some b → w'.heap[b]? = w.heap[b]? ∧ ow' b = none := fun b hb => hz b (hg.1.lt hb).2 ⟨h.sub b (hg.2 b hb).1, (hg.2 b hb).2⟩
    exact ⟨hg.1.keep (fun b hb => (k2 b hb).1) (fun _ => hz'), fun b hb => ⟨(hg.2 b hb).1, (k2 b hb).2⟩⟩
  | u => trivial
  | mv => trivial
  | und => exact hg
  | p y => exact GP.keep key (fun k ad _ h => ⟨h, how k ad h⟩) hz' hg
  | ep s i => obtain ⟨h1, g, n, cap, h2, h3, h4⟩ := hg; have := key s (by simp [hasVA]) h1; exact ⟨this.1, g, n, cap, this.2.trans h2, h3, h4⟩
  | tu fs => obtain ⟨xs, h1, h2⟩ := hg; exact ⟨xs, h1, h2.keep key (fun k ad _ h => ⟨h, how k ad h⟩) hz'⟩
  | fn f cap => obtain ⟨xs, h1, h2⟩ := hg; exact ⟨xs, h1, h2.keep key (fun k ad _ h => ⟨h, how k ad h⟩) hz'⟩
end
end Go.Proofs.YtlnhommmmajllaaGreat.Ev
