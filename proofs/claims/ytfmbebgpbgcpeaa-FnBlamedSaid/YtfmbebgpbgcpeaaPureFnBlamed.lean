/- Plain Lean over the printed functions: a span that says another phase, or another partition, is the first one told, so the law's function answers true. -/
import Derived.Test.YtfmbebgpbgcpeaaD5
set_option linter.unusedVariables false
set_option linter.unusedSimpArgs false
set_option linter.unusedSectionVars false
namespace Go.Proofs.Ytfmbebgpbgcpeaa.PDr
open Go Go.RowKit Go.Proofs.Ytfmbebgpbgcpeaa.V Go.Proofs.Ytfmbebgpbgcpeaa.C

theorem idx_app {α : Type} (p : α → Bool) (x : α) (hx : p x = true) (b : List α) : ∀ (a : List α) (k : Int), (∀ y ∈ a, p y = false) → idxOf p (a ++ x :: b) k = k + (a.length : Int)
  | [], k, _ => by simp [idxOf, hx]
  | y :: a, k, h => by
    rw [List.cons_append, idxOf, if_neg (by rw [h y (by simp)]; simp), idx_app p x hx b a (k + 1) (fun z hz => h z (by simp [hz]))]
    simp only [List.length_cons]
    omega
theorem idx_first {α : Type} (p : α → Bool) (l : List α) (i : Nat) (x : α) (hi : i < l.length) (hx : p x = true) (hl : ∀ y ∈ l, p y = false) : idxOf p (l.set i x) 0 = (i : Int) := by
  rw [List.set_eq_take_append_cons_drop, if_pos hi, idx_app p x hx _ _ _ (fun y hy => hl y (List.mem_of_mem_take hy)), List.length_take, Nat.min_eq_left (by omega)]
  omega
theorem set_ne {α : Type} (z : α) {l : List α} {i : Nat} {x : α} (hi : i < l.length) (h : x ≠ l.getD i z) : l ≠ l.set i x := by
  intro e
  have : l.getD i z = (l.set i x).getD i z := by rw [← e]
  rw [List.getD_eq_getElem?_getD (l := l.set i x), List.getElem?_set_self hi] at this
  exact h this.symm

theorem pure_FnBlamed : ∀ (x0 : (Ty.sl (.int .u8)).den), Fits (.sl (.int .u8)) x0 → ∃ k, laws_FnBlamed.c.fn k (x0, ()) () = some true := by
  intro code hf
  refine Ev.get (g := fun k => laws_FnBlamed.f k code) ?_
  unfold laws_FnBlamed.f laws_big.f
  simp only [Option.bind_some]
  refine Ev.ite_both (fun _ => Ev.ret _) fun hbig => ?_
  have hlen : code.length ≤ 1048576 := by
    have : ¬ (code.length : Int) > 1048576 := by simpa using hbig
    omega
  obtain ⟨⟨t, a, b⟩, hd, hany⟩ := drawSpans_out code hlen
  have hany : Any t := hany
  obtain ⟨x, hx, hx0, hx1⟩ := at_some code (bytes_in hf) hlen 1 (by omega)
  have hsm := hany.small
  have hnm := hany.names
  refine Ev.bind hd (Ev.bind (specSpans_ev t hsm hnm a b) ?_)
  simp only [hx, Option.bind_some]
  have hL := spansV_len t a b
  by_cases he : spansV t a b = []
  · rw [he]
    exact Ev.ite_pos rfl (Ev.bind (blame_no hsm hnm) (Ev.ret _))
  obtain ⟨hb, ha0, hab, hb5, hba, hch⟩ := spans_chain he
  have hsp := specSpans_ev t hsm hnm a b
  have hok := fun l => implSpansOk_ev t hsm hnm a b l
  generalize hLL : spansV t a b = L at *
  have hpos : 0 < L.length := List.length_pos_iff.2 he
  have hi0 : 0 ≤ x.tmod (L.length : Int) := Int.tmod_nonneg _ hx0
  have hi1 : x.tmod (L.length : Int) < (L.length : Int) := Int.tmod_lt_of_pos _ (by omega)
  generalize x.tmod (L.length : Int) = i at hi0 hi1
  have hil : i.toNat < L.length := by omega
  have hm := getD_mem (z := z73) hil
  have hr : rd_T73 L i = L.getD i.toNat z73 := rfl
  obtain ⟨k1, k2, k3⟩ := ChainS.mem hch _ hm
  have hall : ∀ s ∈ L, wrongB t s = false := fun s hs => by
    obtain ⟨q1, q2, q3⟩ := ChainS.mem hch s hs
    exact right_not q1 (by omega) (by omega)
  have hlead : ∀ s' : S73, s'.f0 = (L.getD i.toNat z73).f0 → s'.f1 = (L.getD i.toNat z73).f1 → ¬ ((L.getD i.toNat z73).f3 = s'.f3 ∧ (L.getD i.toNat z73).f2 = s'.f2) → Ev (fun k => impl_Blame.f k t (L.set i.toNat s')) i := by
    intro s' e0 e1 hne
    refine Ev.cast (blame_ev hsm hnm hb (L.set i.toNat s') (by rw [List.length_set]; exact hL)) ?_
    rw [idx_first (wrongB t) L i.toNat s' hil (other_wrong k1 (by omega) (by omega) e0 e1 hne) hall]
    omega
  have hwho := k1.2 _ (Int.le_refl _) k1.1
  have hph : 0 ≤ (L.getD i.toNat z73).f3 ∧ (L.getD i.toNat z73).f3 ≤ 3 ∧ -1 ≤ (L.getD i.toNat z73).f2 ∧ (L.getD i.toNat z73).f2 ≤ 10 := by
    obtain ⟨h1, h2, h3, h4⟩ := sound_spans hb
    have e3 : (L.getD i.toNat z73).f3 = (whoV t ((L.getD i.toNat z73).f0.tmod t.f6)).1 := by rw [hwho]
    have e2 : (L.getD i.toNat z73).f2 = (whoV t ((L.getD i.toNat z73).f0.tmod t.f6)).2 := by rw [hwho]
    rw [e3, e2]
    generalize (L.getD i.toNat z73).f0.tmod t.f6 = c
    unfold whoV
    by_cases hc : slotB t.f10 c < 0
    · rw [if_pos hc]; exact ⟨by decide, by decide, by decide, by decide⟩
    · rw [if_neg hc]
      have hbd := slotB_bound t.f10 _ hc
      have hin := slotsL_all h1 t.f10 0 h2 _ (getD_mem (z := z61) (l := t.f10) (i := (slotB t.f10 c).toNat) (by omega))
      have hpt := in_iff.1 hin.part
      have hpl := hany.parts
      rw [wrap_of (by omega) (by omega)] at hpt
      refine ⟨?_, ?_, by show -1 ≤ (t.f10.getD _ _).f0; omega, by show (t.f10.getD _ _).f0 ≤ 10; omega⟩
      · show 0 ≤ phaseV t c
        unfold phaseV; repeat' split
        all_goals omega
      · show phaseV t c ≤ 3
        unfold phaseV; repeat' split
        all_goals omega
  refine Ev.ite_neg (by omega) (Ev.ite_neg (by omega) (Ev.ite_pos hi0 (Ev.ite_pos hi1 (Ev.ite_pos hi0 (Ev.ite_pos hi1 ?_)))))
  rw [hr]
  generalize hs : L.getD i.toNat z73 = s at *
  rw [wrap_of (a := s.f3 + 1) (by omega) (by omega)]
  have hne : (s.f3 + 1).tmod 4 ≠ s.f3 := by rw [Int.tmod_eq_emod_of_nonneg (by omega)]; omega
  refine Ev.bind (hlead _ rfl rfl (fun h => hne h.1.symm)) (Ev.ite_pos rfl (Ev.bind (a := false) (Ev.cast (hok _) ?_) (Ev.ite_neg (by simp) ?_)))
  · show okB L _ = false
    unfold okB
    rw [Bool.and_eq_false_iff]
    right
    rw [decide_eq_false_iff_not]
    refine set_ne z73 hil ?_
    rw [hs]
    intro e
    exact hne (congrArg (fun q : S73 => q.f3) e)
  · refine Ev.bind hsp (Ev.ite_pos hi0 (Ev.ite_pos hi1 (Ev.ite_pos hi0 (Ev.ite_pos hi1 ?_))))
    rw [hr, wrap_of (a := s.f2 + 1) (by omega) (by omega)]
    exact Ev.bind (hlead _ rfl rfl (fun h => by have h2 : s.f2 = s.f2 + 1 := h.2; omega)) (Ev.cast (Ev.ret _) (by simp))
end Go.Proofs.Ytfmbebgpbgcpeaa.PDr
