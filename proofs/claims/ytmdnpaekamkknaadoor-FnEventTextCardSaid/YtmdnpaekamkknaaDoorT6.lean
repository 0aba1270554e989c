/- Plain Lean: the text of an event read back: both models tell the same. -/
import Derived.Test.YtmdnpaekamkknaaDoorT5
set_option linter.unusedVariables false
set_option linter.unusedSimpArgs false
set_option linter.unusedSectionVars false
namespace Go.Proofs.YtmdnpaekamkknaaDoor.PEo
open Go Go.RowKit Go.Proofs.YtmdnpaekamkknaaDoor.V Go.Proofs.YtmdnpaekamkknaaDoor.C

abbrev SEv : Type := S26
def zEv : SEv := (0, 0, 0, 0, 0, 0, 0)
def evR (q : List Int) (pc op sm : Int) : SEv := (q.getD 0 0, q.getD 1 0, pc, op, q.getD 2 0, q.getD 3 0, sm)
/-- What an event's text, cut into words, reads as. -/
def evI (W : List ByteArray) : SEv × Bool :=
  if W.length = 7 then
    (if (numsI [] [W.getD 0 ByteArray.empty, W.getD 1 ByteArray.empty, W.getD 4 ByteArray.empty, W.getD 5 ByteArray.empty]).2 = true then
      (if (hexR (W.getD 2 ByteArray.empty)).2 = true then
        (if (hexR (W.getD 6 ByteArray.empty)).2 = true then
          (if opV (W.getD 3 ByteArray.empty) < 0 then
            (if W.getD 3 ByteArray.empty = ByteArray.mk #[45] then (evR (numsI [] [W.getD 0 ByteArray.empty, W.getD 1 ByteArray.empty, W.getD 4 ByteArray.empty, W.getD 5 ByteArray.empty]).1 (hexR (W.getD 2 ByteArray.empty)).1 (opV (W.getD 3 ByteArray.empty)) (hexR (W.getD 6 ByteArray.empty)).1, true) else (zEv, false))
          else (evR (numsI [] [W.getD 0 ByteArray.empty, W.getD 1 ByteArray.empty, W.getD 4 ByteArray.empty, W.getD 5 ByteArray.empty]).1 (hexR (W.getD 2 ByteArray.empty)).1 (opV (W.getD 3 ByteArray.empty)) (hexR (W.getD 6 ByteArray.empty)).1, true))
        else (zEv, false)) else (zEv, false)) else (zEv, false))
  else (zEv, false)
theorem seven {α : Type} {l : List α} (h : l.length = 7) : ∃ a b c d e f g, l = [a, b, c, d, e, f, g] := by
  match l, h with
  | [a, b, c, d, e, f, g], _ => exact ⟨a, b, c, d, e, f, g, rfl⟩

theorem mem_le_sum {α : Type} (f : α → Nat) : ∀ {l : List α} {x : α}, x ∈ l → f x ≤ (l.map f).sum
  | y :: l, x, h => by
    rw [List.map_cons, List.sum_cons]
    rcases List.mem_cons.1 h with rfl | h
    · omega
    · have := mem_le_sum f h
      omega
theorem eventI_ev (s : ByteArray) (hs : s.size ≤ 1048576) : Ev (fun k => impl_EventOf.f k s) (evI ((spl 32 s.data.toList).map ba)) := by
  have hsz : ∀ w, w ∈ (spl 32 s.data.toList).map ba → w.size ≤ 281474976710656 := by
    intro w hw
    obtain ⟨x, hx, rfl⟩ := List.mem_map.1 hw
    have h1 := spl_sum 32 s.data.toList
    have h2 : x.length + 1 ≤ ((spl 32 s.data.toList).map fun w => w.length + 1).sum := mem_le_sum (fun w : List UInt8 => w.length + 1) hx
    rw [ba_size]
    rw [Lib.size_eq] at hs
    omega
  unfold impl_EventOf.f strings_Split.f
  rw [split_eq s (by omega)]
  generalize (spl 32 s.data.toList).map ba = W at hsz ⊢
  simp only [Option.bind_some]
  unfold evI
  by_cases h7 : W.length = 7
  · rw [if_pos h7]
    obtain ⟨w0, w1, w2, w3, w4, w5, w6, rfl⟩ := seven h7
    have hn := numsI_ev [w0, w1, w4, w5] (by simp) (fun w hw => hsz w (by simp at hw ⊢; rcases hw with h | h | h | h <;> simp [h]))
    have hq := (nums_same [w0, w1, w4, w5] []).2
    have hq0 := (nums_same [w0, w1, w4, w5] []).1
    refine Ev.ite_pos (by omega) (Ev.ite_pos (by omega) (Ev.ite_pos (by omega) (Ev.ite_pos (by omega) (Ev.ite_pos (by omega) (Ev.bind hn (Ev.ite_pos (by omega) (Ev.bind (hexIR_ev w2) (Ev.ite_pos (by omega) (Ev.bind (hexIR_ev w6) (Ev.ite_pos (by omega) ?_))))))))))
    simp only [opI_eq, Option.bind_some, List.getD_cons_zero, List.getD_cons_succ]
    refine Ev.ite_both (fun a => ?_) fun a => ?_
    · rw [if_pos a]
      have hl : (numsI [] [w0, w1, w4, w5]).1.length = 4 := by
        obtain ⟨k1, k2, _⟩ := hq (hq0.trans a)
        rw [k1, k2]; simp
      refine Ev.ite_both (fun a => ?_) fun a => ?_
      · rw [if_pos a]
        refine Ev.ite_both (fun a => ?_) fun a => ?_
        · rw [if_pos a]
          refine Ev.ite_both (fun a => ?_) fun a => ?_
          · rw [if_pos a]
            refine Ev.ite_pos (by omega) (Ev.ite_both (fun a => ?_) fun a => ?_)
            · rw [if_pos a]
              exact Ev.ite_pos (by omega) (Ev.ite_pos (by omega) (Ev.ite_pos (by omega) (Ev.ite_pos (by omega) (Ev.ret _))))
            · rw [if_neg a]; exact Ev.ret _
          · rw [if_neg a]
            exact Ev.ite_pos (by omega) (Ev.ite_pos (by omega) (Ev.ite_pos (by omega) (Ev.ite_pos (by omega) (Ev.ret _))))
        · rw [if_neg a]; exact Ev.ret _
      · rw [if_neg a]; exact Ev.ret _
    · rw [if_neg a]; exact Ev.ret _
  · rw [if_neg h7]
    exact Ev.ite_neg (by omega) (Ev.ret _)

theorem opV_mem (s : ByteArray) (h : ¬ opV s < 0) : s.size ≤ 5 := by
  have key : ∀ (ns : List ByteArray) (i : Nat), ¬ Lib.idxFromS ns s i < 0 → s ∈ ns := by
    intro ns
    induction ns with
    | nil => intro i h; exact absurd (by simp [Lib.idxFromS]) h
    | cons z zs ih =>
      intro i h
      by_cases e : z = s
      · rw [e]; exact List.mem_cons_self
      · rw [Lib.idxFromS] at h
        simp [e] at h
        exact List.mem_cons_of_mem _ (ih (i + 1) (by omega))
  have hm := key opNs 0 h
  have hall : opNs.all (fun x => decide (x.size ≤ 5)) = true := by decide +kernel
  exact of_decide_eq_true (List.all_eq_true.1 hall s hm)
theorem decR_size (w : ByteArray) (h : (decR w 1000000).2 = true) : w.size ≤ 8 := by
  rcases decR_cases w 1000000 (by omega) (by omega) with ⟨v, a, b, e, _⟩ | ⟨_, e⟩
  · have := itoa_len v 7 (by omega) (by omega)
    rw [e, ba_size]
    exact this
  · rw [e] at h; cases h
theorem hexR_size (w : ByteArray) (h : (hexR w).2 = true) : w.size = 8 := by
  unfold hexR at h
  split at h
  · assumption
  · cases h

/-- Either nothing is read, or the words are short. -/
theorem evI_short (l : List UInt8) : evI ((spl 32 l).map ba) = (zEv, false) ∨ l.length ≤ 100 := by
  by_cases h7 : ((spl 32 l).map ba).length = 7
  · have h7' := h7
    rw [List.length_map] at h7'
    have hsum := spl_sum 32 l
    obtain ⟨a0, a1, a2, a3, a4, a5, a6, e⟩ := seven h7'
    rw [e] at hsum ⊢
    simp only [List.map_cons, List.map_nil, List.sum_cons, List.sum_nil] at hsum ⊢
    unfold evI
    rw [if_pos (show [ba a0, ba a1, ba a2, ba a3, ba a4, ba a5, ba a6].length = 7 from rfl)]
    simp only [List.getD_cons_zero, List.getD_cons_succ]
    obtain ⟨q0, hq⟩ := nums_same [ba a0, ba a1, ba a4, ba a5] []
    by_cases a : (numsI [] [ba a0, ba a1, ba a4, ba a5]).2 = true
    · have hd := (hq (q0.trans a)).2.2
      have s0 := decR_size _ (hd (ba a0) (by simp))
      have s1 := decR_size _ (hd (ba a1) (by simp))
      have s4 := decR_size _ (hd (ba a4) (by simp))
      have s5 := decR_size _ (hd (ba a5) (by simp))
      rw [if_pos a]
      by_cases b : (hexR (ba a2)).2 = true
      · rw [if_pos b]
        have s2 := hexR_size _ b
        by_cases c : (hexR (ba a6)).2 = true
        · rw [if_pos c]
          have s6 := hexR_size _ c
          simp only [ba_size] at s0 s1 s2 s4 s5 s6
          by_cases d : opV (ba a3) < 0
          · rw [if_pos d]
            by_cases f : ba a3 = ByteArray.mk #[45]
            · have s3 : a3.length = 1 := by rw [← ba_size, f]; rfl
              exact .inr (by omega)
            · rw [if_neg f]; exact .inl rfl
          · have s3 := opV_mem _ d
            rw [ba_size] at s3
            exact .inr (by omega)
        · rw [if_neg c]; exact .inl rfl
      · rw [if_neg b]; exact .inl rfl
    · rw [if_neg a]; exact .inl rfl
  · unfold evI
    rw [if_neg h7]
    exact .inl rfl

theorem eventS_ev (s : ByteArray) : Ev (fun k => spec_EventOf.f k s) (evI ((spl 32 s.data.toList).map ba)) := by
  unfold spec_EventOf.f
  refine Ev.ite_both (fun h => ?_) fun hs => ?_
  · rcases evI_short s.data.toList with e | e
    · rw [e]; exact Ev.ret _
    · rw [← Lib.size_eq] at e; omega
  refine Ev.bind (splitS_ev s (by omega)) ?_
  generalize (spl 32 s.data.toList).map ba = W
  unfold evI
  by_cases h7 : W.length = 7
  · rw [if_pos h7]
    obtain ⟨w0, w1, w2, w3, w4, w5, w6, rfl⟩ := seven h7
    have hn := numsS_ev [w0, w1, w4, w5] (by simp)
    obtain ⟨hq0, hq⟩ := nums_same [w0, w1, w4, w5] []
    refine Ev.ite_pos (by omega) (Ev.ite_pos (by omega) (Ev.ite_pos (by omega) (Ev.ite_pos (by omega) (Ev.ite_pos (by omega) (Ev.bind hn (Ev.ite_pos (by omega) (Ev.bind (hexSR_ev w2) (Ev.ite_pos (by omega) (Ev.bind (hexSR_ev w6) (Ev.ite_pos (by omega) (Ev.bind (opS_ev w3) ?_)))))))))))
    simp only [List.getD_cons_zero, List.getD_cons_succ]
    rw [← hq0]
    refine Ev.ite_both (fun a => ?_) fun a => ?_
    · rw [if_pos a]
      obtain ⟨k1, k2, _⟩ := hq a
      have hl : (numsS [] [w0, w1, w4, w5]).1.length = 4 := by rw [k2]; simp
      rw [k1]
      refine Ev.ite_both (fun a => ?_) fun a => ?_
      · rw [if_pos a]
        refine Ev.ite_both (fun a => ?_) fun a => ?_
        · rw [if_pos a]
          refine Ev.ite_both (fun a => ?_) fun a => ?_
          · rw [if_pos a]
            refine Ev.ite_pos (by omega) (Ev.ite_both (fun a => ?_) fun a => ?_)
            · rw [if_pos a]
              exact Ev.ite_pos (by omega) (Ev.ite_pos (by omega) (Ev.ite_pos (by omega) (Ev.ite_pos (by omega) (Ev.ret _))))
            · rw [if_neg a]; exact Ev.ret _
          · rw [if_neg a]
            exact Ev.ite_pos (by omega) (Ev.ite_pos (by omega) (Ev.ite_pos (by omega) (Ev.ite_pos (by omega) (Ev.ret _))))
        · rw [if_neg a]; exact Ev.ret _
      · rw [if_neg a]; exact Ev.ret _
    · rw [if_neg a]; exact Ev.ret _
  · rw [if_neg h7]
    exact Ev.ite_neg (by omega) (Ev.ret _)
end Go.Proofs.YtmdnpaekamkknaaDoor.PEo
