/-
  PlainJ: IsFreimanMap, IsFreimanIso.
-/
import Derived.Test.YtdlofeehgkijhaaPlainI
set_option linter.unusedVariables false
set_option linter.unusedSimpArgs false
namespace Go.Proofs.Ytdlofeehgkijhaa
open Go Ev

def fmCond (G H L M : List Int) : Bool := !M.any (fun x => !hasG H x) && ((setRes G L).2 && (isG H && (decide (L.length = M.length) && inB (L.length : Int) 1 6)))
theorem VM_of {G H L M : List Int} (h : fmCond G H L M = true) : ∃ g h l m, G = natsI g ∧ H = natsI h ∧ L = natsI l ∧ M = natsI m ∧ VM g h l m := by
  unfold fmCond at h
  simp only [Bool.and_eq_true, Bool.not_eq_true', decide_eq_true_eq] at h
  obtain ⟨h1, h2, h3, h4, h5⟩ := h
  unfold setRes at h2
  cases hs : setR G 0 L with
  | none => rw [hs] at h2; cases h2
  | some a =>
    rw [hs] at h2
    have hG : isG G = true := h2
    obtain ⟨g, hg, vg⟩ := nat_of_isG hG
    obtain ⟨h', hh', vh⟩ := nat_of_isG h3
    have hLany : L.any (fun x => !hasG G x) = false := by
      rw [List.any_eq_false]
      intro x hx
      simp [setR_all hs x hx]
    obtain ⟨l, hl, hle⟩ := nats_of_has hg vg hLany
    obtain ⟨m, hm, hme⟩ := nats_of_has hh' vh h1
    refine ⟨g, h', l, m, hg, hh', hl, hm, vg, vh, hle, hme, ?_, ?_⟩
    · rw [hl, hm, natsI_length, natsI_length] at h4
      exact h4
    · rw [hl] at h5
      simp only [inB, Bool.and_eq_true, decide_eq_true_eq, natsI_length] at h5
      omega
theorem s_l15Fine_eq (G H L M : List Int) (hg : G.length ≤ lim) (hh : H.length ≤ lim) (hl : L.length ≤ lim) (hm : M.length ≤ lim) : f_s_l15Fine (ints G) (ints H) (ints L) (ints M) = some (fmCond G H L M) := by
  have hml := lim_lt hm
  have key := loop_any (rd := f_s_l15Fine_r0 (ints L) (ints M) (ints H) (setRes G L).2) (fun k => (k : Int)) M.length (fun k => !hasG H (M.getD k 0)) (a := ()) (b := ()) (fun k hk => by
    simp only [f_s_l15Fine_r0, f_s_l15Fine_k0, ints_length, lt_dec hk, ok_nat hk, at_nat, br_true, w64_nat (by omega : k < 9223372036854775807), s_l2Is_eq H _ hh, bo_some]
    cases hasG H (M.getD k 0) <;> rfl)
    (by simp only [f_s_l15Fine_r0, f_s_l15Fine_k0, ints_length, lt_dec_self, br_false])
  rw [show (((0 : Nat)) : Int) = 0 from rfl, range_any M (fun x => !hasG H x)] at key
  simp only [f_s_l15Fine, f_s_l15Fine_k, s_SetOf_eq G L hg hl, bo_some, key, s_IsGroup_eq H hh, s_l1In_eq, ints_length, eq_nat_dec]
  unfold fmCond
  cases M.any (fun x => !hasG H x) <;> cases (setRes G L).2 <;> cases isG H <;> cases decide (L.length = M.length) <;> rfl
theorem s_IsFreimanMap_eq (G H L M : List Int) (hg : G.length ≤ lim) (hh : H.length ≤ lim) (hl : L.length ≤ lim) (hm : M.length ≤ lim) :
    (fmCond G H L M = false → f_s_IsFreimanMap (ints G) (ints H) (ints L) (ints M) = some false) ∧
    (∀ g h l m, VM g h l m → fmCond (natsI g) (natsI h) (natsI l) (natsI m) = true → G = natsI g → H = natsI h → L = natsI l → M = natsI m → f_s_IsFreimanMap (ints G) (ints H) (ints L) (ints M) = some (!skp0 g h l m)) := by
  constructor
  · intro h
    simp only [f_s_IsFreimanMap, f_s_IsFreimanMap_k, s_l15Fine_eq G H L M hg hh hl hm, bo_some, h]
    rfl
  · intro g h l m v hc e1 e2 e3 e4
    subst e1 e2 e3 e4
    simp only [f_s_IsFreimanMap, f_s_IsFreimanMap_k, s_l15Fine_eq _ _ _ _ hg hh hl hm, bo_some, hc, s_keeps_eq v]
    rfl
theorem sz_next {G : List Int} {n : Nat} (hn : n ≤ 1048576) (hb : G.length ≤ 9223372036854775807) : f_l_szGroup (ints G) (n : Int) = some (if G.length ≤ n then ((n - G.length : Nat) : Int) else -1) := szGroup_eq G n hn hb
end Go.Proofs.Ytdlofeehgkijhaa
