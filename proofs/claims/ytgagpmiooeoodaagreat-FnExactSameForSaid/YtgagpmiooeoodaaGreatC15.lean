/- Plain Lean over the printed functions: the commands that matter, both ways. -/
import Derived.Test.YtgagpmiooeoodaaGreatC9
import Derived.Test.YtgagpmiooeoodaaGreatC12
set_option linter.unusedVariables false
set_option linter.unusedSimpArgs false
namespace Go.Proofs.YtgagpmiooeoodaaGreat.PTwo
open Go Go.RowKit Go.Proofs.YtgagpmiooeoodaaGreat.V Go.Proofs.YtgagpmiooeoodaaGreat.C

/-! ### Conversions, marks -/
theorem toCmdS_ev (l : List S146) (hl : l.length ≤ 1048576) : Ev (fun k => laws_toCmdS.f k l) l := by
  unfold laws_toCmdS.f
  refine Ev.ite_pos (by omega) (Ev.ite_pos (by omega) (Ev.ite_pos (by omega) ?_))
  have := Ev.maploop l z146 z144 (fun x => x) (fun k i h => laws_toCmdS.l6 k l i h) (fun h hh => Ev.step (by
    simp only [laws_toCmdS.l6]; exact Ev.ite_neg (by omega) (Ev.ret _))) fun i hi h hh v hv => Ev.step (by
    simp only [laws_toCmdS.l6, laws_toCmd.f, Option.bind_some, wrap_succ hi (by omega)]
    exact Ev.ite_pos (lt_in hi) (Ev.ite_pos ge_0 (Ev.ite_pos (lt_in hi) (Ev.ite_pos ge_0 (Ev.ite_pos (by omega) hv)))))
  simpa using this
theorem eqCmdS_ev (l : List S144) (hl : l.length ≤ 1048576) : Ev (fun k => laws_eqCmdS.f k l l) true := by
  unfold laws_eqCmdS.f
  have := Ev.all l z144 (fun _ => true) (fun k i => laws_eqCmdS.l8 k l l i) true (fun _ => Ev.step (by simp only [laws_eqCmdS.l8]; exact Ev.ite_neg (by omega) (Ev.ret _))) (fun i hi v hv => Ev.step (by
    simp only [laws_eqCmdS.l8, laws_eqCmd.f, Option.bind_some, wrap_succ hi (by omega), if_true, Bool.true_and]
    exact Ev.ite_pos (lt_in hi) (Ev.ite_pos ge_0 (Ev.ite_pos (lt_in hi) (Ev.ite_pos ge_0 (Ev.ite_pos (lt_in hi) hv)))))) (fun _ _ h => by cases h)
  exact Ev.ite_pos rfl (Ev.cast this (by simp [List.all_eq_true]))
def fCm (x : Int) (a : S144) : S144 := (x, x + 1, IntKind.wrap .u32 (x + 1 + 1))
theorem markCmdS_ev (l : List S144) (hl : l.length ≤ 1048576) (x : Int) (hx : 0 ≤ x) (hB : x + mks (fun _ => 3) l ≤ BB) : Ev (fun k => laws_markCmdS_o1.f k x l) (x + mks (fun _ => 3) l, mkl fCm (fun _ => 3) x l) := by
  have := marks_ev (fun _ => 3) (by simp) fCm BB laws_markCmdS_o1.l4 (fun x l => Ev.step (by simp only [laws_markCmdS_o1.l4]; exact Ev.ite_neg (by omega) (Ev.ret _))) (fun pre a suf x h0 h1 h2 v hv => Ev.step (by
    simp only [laws_markCmdS_o1.l4, rd_T144, get_mid, set_mid, succ_mid h0, wrap_in (show 0 ≤ x + 1 by omega) (by omega), wrap_in (show 0 ≤ x + 1 + 1 by omega) (by omega), wrap_in (show 0 ≤ x + 1 + 1 + 1 by omega) (by omega)]
    rw [show x + 3 = x + 1 + 1 + 1 by omega] at hv
    exact Ev.ite_pos (lt_mid ..) (Ev.ite_pos ge_0 (Ev.ite_pos (lt_mid ..) (Ev.ite_pos ge_0 (Ev.ite_pos (lt_mid ..) (Ev.ite_pos ge_0 (Ev.ite_pos (lt_mid ..) hv)))))))) l [] x (by simpa using hl) hx hB
  simpa [laws_markCmdS_o1.f] using this
theorem heldCmdS_ev (l : List S144) (hl : l.length ≤ 1048576) (x : Int) (hx : 0 ≤ x) (hB : x + mks (fun _ => 3) l ≤ BB) : Ev (fun k => laws_heldCmdS.f k (mkl fCm (fun _ => 3) x l) x) (x + mks (fun _ => 3) l) := by
  have := held_ev (fun _ => 3) (by simp) fCm BB laws_heldCmdS.l4 (fun x l => Ev.step (by simp only [laws_heldCmdS.l4]; exact Ev.ite_neg (by omega) (Ev.ret _))) (fun pre a suf x h0 h1 h2 v hv => Ev.step (by
    simp only [laws_heldCmdS.l4, rd_T144, get_mid, succ_mid h0, wrap_in (show 0 ≤ x + 1 by omega) (by omega), wrap_in (show 0 ≤ x + 1 + 1 by omega) (by omega), wrap_in (show 0 ≤ x + 1 + 1 + 1 by omega) (by omega)]
    rw [show x + 3 = x + 1 + 1 + 1 by omega] at hv
    exact Ev.ite_pos (lt_mid ..) (Ev.ite_pos ge_0 (Ev.ite_pos (lt_mid ..) (Ev.ite_pos rfl (Ev.ite_pos ge_0 (Ev.ite_pos (lt_mid ..) (Ev.ite_pos rfl (Ev.ite_pos ge_0 (Ev.ite_pos (lt_mid ..) (Ev.ite_pos rfl hv))))))))))) l [] x (by simpa using hl) hx hB
  simpa [laws_heldCmdS.f] using this

/-! ### Who reaches -/
theorem contains_ev (s : List Int) (hs : s.length ≤ 1048576) (x : Int) : Ev (fun k => slices_Contains_167.f k s x) (decide (x ∈ s)) := by
  unfold slices_Contains_167.f slices_Index_203.f
  refine Ev.bind (a := idxOf (fun y => decide (x = y)) s 0) ?_ (Ev.cast (Ev.ret _) ?_)
  · refine Ev.idx s 0 _ (fun k i => slices_Index_203.l4 k s x (s.length : Int) i) (Ev.step ?_) (fun i hi hp => Ev.step ?_) (fun i hi hp v hv => Ev.step ?_)
    · simp only [slices_Index_203.l4]; exact Ev.ite_neg (by omega) (Ev.ret _)
    all_goals
      have hr : rd s (i : Int) = s.getD i 0 := rfl
      simp only [slices_Index_203.l4, hr, wrap_succ hi (by omega)]
      refine Ev.ite_pos (lt_in hi) (Ev.ite_pos ge_0 (Ev.ite_pos (lt_in hi) ?_))
    · exact Ev.ite_pos (of_decide_eq_true hp) (Ev.ret _)
    · exact Ev.ite_neg (of_decide_eq_false hp) hv
  · rw [decide_eq_decide, idxOf_ge _ _ _ (Int.le_refl 0), List.any_eq_true]
    constructor
    · rintro ⟨y, hy, e⟩
      rw [decide_eq_true_eq] at e
      rw [e]; exact hy
    · intro h
      exact ⟨x, h, by simp⟩
theorem iter_cnt {C : List S119} : ∀ (n : Nat) (A : List Bool), (∀ r ∈ C, ChanIn A.length r) → A.count true ≤ (iterF C n A).count true
  | 0, A, _ => Nat.le_refl _
  | n + 1, A, h => by
    obtain ⟨h1, h2⟩ := sweep_or h
    have := iter_cnt n (sweepF C A) (by rw [h1]; exact h)
    rw [iterF]
    rcases h2 with h2 | h2
    · rw [h2] at this ⊢; exact this
    · omega
theorem closure_ne {t : S42} (h : soundB t = true) (p : Int) (hp : 0 ≤ p ∧ p < (t.f7.length : Int)) : closure t p ≠ [] := by
  obtain ⟨h1, h2, h3, h4⟩ := sound_chans h
  have hl := start_len t.f7.length p
  have hc := iter_cnt (C := t.f9) t.f7.length (start t.f7.length p) (by rw [hl]; exact h4)
  have h0 : 0 < (start t.f7.length p).count true := by
    rw [List.count_pos_iff]
    unfold start
    refine List.mem_of_getElem? (i := p.toNat) ?_
    rw [List.getElem?_set_self (by simp; omega)]
  have : 0 < (iterF t.f9 t.f7.length (start t.f7.length p)).count true := by omega
  rw [List.count_pos_iff] at this
  obtain ⟨j, hj⟩ := List.getElem?_of_mem this
  intro e
  have hm : ((j : Nat) : Int) ∈ closure t p := by
    unfold closure bits
    rw [mem_bitsFrom]
    exact ⟨j, rfl, Nat.zero_le _, by have := (List.getElem?_eq_some_iff.1 hj).1; omega, by rw [List.getD_eq_getElem?_getD, hj]; rfl⟩
  rw [e] at hm
  cases hm

/-! ### Commands -/
def keepV (t : S42) (set : List Int) (c : S144) : Option S144 :=
  if c.f0 = 0 then some (c.f0, c.f1, 0) else if c.f0 = 1 then (if inB c.f1 0 ((t.f8.length : Int) - 1) = true then (if rd t.f8 c.f1 ∈ set then some c else none) else none) else if c.f0 = 2 then (if c.f1 ∈ set then some (c.f0, c.f1, 0) else none) else none
section
variable (t : S42) (hD : t.f8.length ≤ 1048576) (set : List Int) (hset : set.length ≤ 1048576) (l : List S144) (hl : l.length ≤ 300)
include hD hset hl
theorem specCmds_l12 : Ev (fun k => spec_CmdsFor.l12 k l 0 t [] set) (l.filterMap (keepV t set)) := by
  have := Ev.list l z144 (fun r (s : List S144) => s ++ r.filterMap (keepV t set)) (fun i s => s.length ≤ i) (fun k i s => spec_CmdsFor.l12 k l i t s set) (fun s _ => Ev.step (by
    simp only [spec_CmdsFor.l12, List.filterMap_nil, List.append_nil]; exact Ev.ite_neg (by omega) (Ev.ret _))) (fun i hi s hs hrec => Ev.step ?_) l.length 0 (by omega) [] (by simp)
  · simpa using this
  have hr : rd_T144 l (i : Int) = l.getD i z144 := rfl
  have hd : wrap64 ((t.f8.length : Int) - 1) = (t.f8.length : Int) - 1 := wrap_of (by omega) (by omega)
  simp only [spec_CmdsFor.l12, hr, wrap_succ hi (by omega), l01In_some, Option.bind_some, hd]
  generalize l.getD i z144 = c
  have yes : ∀ b, keepV t set c = some b → Ev (fun k => if s.length + ([b] : List S144).length < 5864062014805 then spec_CmdsFor.l12 k l ((i + 1 : Nat) : Int) t (s ++ [b]) set else none) (s ++ (c :: l.drop (i + 1)).filterMap (keepV t set)) := by
    intro b e
    refine Ev.ite_pos (by simp; omega) ?_
    have := hrec (s ++ [b]) (by simp; omega)
    rw [List.filterMap_cons, e]
    simpa using this
  have no : keepV t set c = none → Ev (fun k => spec_CmdsFor.l12 k l ((i + 1 : Nat) : Int) t s set) (s ++ (c :: l.drop (i + 1)).filterMap (keepV t set)) := by
    intro e
    rw [List.filterMap_cons, e]
    exact hrec s (by omega)
  refine Ev.ite_pos (lt_in hi) (Ev.ite_pos ge_0 (Ev.ite_pos (lt_in hi) ?_))
  by_cases c0 : c.f0 = 0
  · exact Ev.ite_pos c0 (yes _ (by unfold keepV; rw [if_pos c0]))
  refine Ev.ite_neg c0 ?_
  by_cases c1 : c.f0 = 1
  · refine Ev.ite_pos c1 ?_
    by_cases c2 : inB c.f1 0 ((t.f8.length : Int) - 1) = true
    · have d2 := in_iff.1 c2
      refine Ev.ite_pos c2 (Ev.ite_pos d2.1 (Ev.ite_pos (by omega) (Ev.bind (has_ev set hset _) ?_)))
      by_cases c3 : rd t.f8 c.f1 ∈ set
      · exact Ev.ite_pos (by simpa using c3) (yes _ (by unfold keepV; rw [if_neg c0, if_pos c1, if_pos c2, if_pos c3]))
      · exact Ev.ite_neg (by simpa using c3) (no (by unfold keepV; rw [if_neg c0, if_pos c1, if_pos c2, if_neg c3]))
    · exact Ev.ite_neg c2 (no (by unfold keepV; rw [if_neg c0, if_pos c1, if_neg c2]))
  refine Ev.ite_neg c1 ?_
  by_cases c2 : c.f0 = 2
  · refine Ev.ite_pos c2 (Ev.bind (has_ev set hset _) ?_)
    by_cases c3 : c.f1 ∈ set
    · exact Ev.ite_pos (by simpa using c3) (yes _ (by unfold keepV; rw [if_neg c0, if_neg c1, if_pos c2, if_pos c3]))
    · exact Ev.ite_neg (by simpa using c3) (no (by unfold keepV; rw [if_neg c0, if_neg c1, if_pos c2, if_neg c3]))
  · exact Ev.ite_neg c2 (no (by unfold keepV; rw [if_neg c0, if_neg c1, if_neg c2]))
theorem implCmds_l8 : Ev (fun k => impl_cmdsFor.l8 k l (l.length : Int) 0 t set []) (l.filterMap (keepV t set)) := by
  have := Ev.list l z144 (fun r (s : List S144) => s ++ r.filterMap (keepV t set)) (fun i s => s.length ≤ i) (fun k i s => impl_cmdsFor.l8 k l (l.length : Int) i t set s) (fun s _ => Ev.step (by
    simp only [impl_cmdsFor.l8, List.filterMap_nil, List.append_nil]; exact Ev.ite_neg (by omega) (Ev.ret _))) (fun i hi s hs hrec => Ev.step ?_) l.length 0 (by omega) [] (by simp)
  · simpa using this
  have hr : rd_T144 l (i : Int) = l.getD i z144 := rfl
  have hd : wrap64 ((t.f8.length : Int) - 1) = (t.f8.length : Int) - 1 := wrap_of (by omega) (by omega)
  simp only [impl_cmdsFor.l8, hr, wrap_succ hi (by omega), within_some, Option.bind_some, hd]
  generalize l.getD i z144 = c
  have yes : ∀ b, keepV t set c = some b → Ev (fun k => if s.length + ([b] : List S144).length < 5864062014805 then impl_cmdsFor.l8 k l (l.length : Int) ((i + 1 : Nat) : Int) t set (s ++ [b]) else none) (s ++ (c :: l.drop (i + 1)).filterMap (keepV t set)) := by
    intro b e
    refine Ev.ite_pos (by simp; omega) ?_
    have := hrec (s ++ [b]) (by simp; omega)
    rw [List.filterMap_cons, e]
    simpa using this
  have no : keepV t set c = none → Ev (fun k => impl_cmdsFor.l8 k l (l.length : Int) ((i + 1 : Nat) : Int) t set s) (s ++ (c :: l.drop (i + 1)).filterMap (keepV t set)) := by
    intro e
    rw [List.filterMap_cons, e]
    exact hrec s (by omega)
  refine Ev.ite_pos (lt_in hi) (Ev.ite_pos ge_0 (Ev.ite_pos (lt_in hi) ?_))
  by_cases c0 : c.f0 = 0
  · exact Ev.ite_pos c0 (Ev.ite_pos c0 (yes _ (by unfold keepV; rw [if_pos c0])))
  refine Ev.ite_neg c0 ?_
  by_cases c2 : c.f0 = 2
  · have c1 : ¬ c.f0 = 1 := by omega
    refine Ev.ite_pos c2 (Ev.bind (contains_ev set hset _) ?_)
    by_cases c3 : c.f1 ∈ set
    · exact Ev.ite_pos (by simpa using c3) (yes _ (by unfold keepV; rw [if_neg c0, if_neg c1, if_pos c2, if_pos c3]))
    · exact Ev.ite_neg (by simpa using c3) (Ev.ite_neg c1 (no (by unfold keepV; rw [if_neg c0, if_neg c1, if_pos c2, if_neg c3])))
  refine Ev.ite_neg c2 ?_
  by_cases c1 : c.f0 = 1
  · refine Ev.ite_pos c1 ?_
    by_cases c4 : inB c.f1 0 ((t.f8.length : Int) - 1) = true
    · have d2 := in_iff.1 c4
      refine Ev.ite_pos c4 (Ev.ite_pos d2.1 (Ev.ite_pos (by omega) (Ev.bind (contains_ev set hset _) ?_)))
      by_cases c3 : rd t.f8 c.f1 ∈ set
      · exact Ev.ite_pos (by simpa using c3) (yes _ (by unfold keepV; rw [if_neg c0, if_pos c1, if_pos c4, if_pos c3]))
      · exact Ev.ite_neg (by simpa using c3) (no (by unfold keepV; rw [if_neg c0, if_pos c1, if_pos c4, if_neg c3]))
    · exact Ev.ite_neg c4 (no (by unfold keepV; rw [if_neg c0, if_pos c1, if_neg c4]))
  · exact Ev.ite_neg c1 (no (by unfold keepV; rw [if_neg c0, if_neg c1, if_neg c2]))
end

theorem joinedV_len (t : S42) (p : Int) : (joinedV t p).length ≤ 6 := by
  unfold joinedV
  split
  · rename_i h
    split
    · exact closure_len h p
    · simp
  · simp
def cmdsV (t : S42) (p : Int) (l : List S144) : List S144 := if joinedV t p = [] then [] else if (l.length : Int) > 300 then [] else l.filterMap (keepV t (joinedV t p))
theorem cmdsV_len (t : S42) (p : Int) (l : List S144) : (cmdsV t p l).length ≤ 300 := by
  unfold cmdsV
  split
  · simp
  · split
    · simp
    · have := List.length_filterMap_le (keepV t (joinedV t p)) l
      omega
theorem specCmds_ev (t : S42) (hs : Small t) (hnm : ∀ x ∈ t.f7, x.f0.size ≤ 9223372036854775807) (p : Int) (l : List S144) : Ev (fun k => spec_CmdsFor.f k t p l) (cmdsV t p l) := by
  unfold spec_CmdsFor.f cmdsV
  refine Ev.bind (specJoined t hs hnm p) ?_
  have hj := joinedV_len t p
  by_cases c0 : joinedV t p = []
  · exact Ev.ite_pos (by simp [c0]) (Ev.cast (Ev.ret _) (by rw [if_pos c0]))
  have hp : 0 < (joinedV t p).length := List.length_pos_iff.2 c0
  refine Ev.ite_neg (by omega) ?_
  rw [if_neg c0]
  by_cases c1 : (l.length : Int) > 300
  · exact Ev.ite_pos c1 (Ev.cast (Ev.ret _) (by rw [if_pos c1]))
  · refine Ev.ite_neg c1 ?_
    rw [if_neg c1]
    exact specCmds_l12 t hs.devs _ (by omega) l (by omega)
theorem implcmds_ev {t : S42} (hs : Small t) (hb : soundB t = true) (p : Int) (hp : inB p 0 ((t.f7.length : Int) - 1) = true) (l : List S144) (hl : l.length ≤ 300) : Ev (fun k => impl_cmdsFor.f k t p l) (cmdsV t p l) := by
  have hp' := in_iff.1 hp
  have hne := closure_ne hb p (by omega)
  have hcl := closure_len hb p
  have hj : joinedV t p = closure t p := by unfold joinedV; rw [if_pos hb, if_pos hp]
  unfold impl_cmdsFor.f cmdsV
  rw [hj, if_neg hne, if_neg (by omega : ¬ (l.length : Int) > 300)]
  exact Ev.bind (implJoined hb p (by omega)) (implCmds_l8 t hs.devs _ (by omega) l hl)
theorem implCmds_ev (t : S42) (hs : Small t) (hnm : ∀ x ∈ t.f7, x.f0.size ≤ 9223372036854775807) (p : Int) (l : List S144) : Ev (fun k => impl_CmdsFor.f k t p l) (cmdsV t p l) := by
  unfold impl_CmdsFor.f
  refine Ev.bind (implSound t hs hnm) ?_
  by_cases c0 : soundB t = true
  · obtain ⟨h1, h2, h3, h4⟩ := sound_chans c0
    refine Ev.ite_pos c0 ?_
    rw [wrap_of (by omega) (by omega)]
    simp only [within_some, Option.bind_some]
    by_cases c1 : inB p 0 ((t.f7.length : Int) - 1) = true
    · refine Ev.ite_pos c1 ?_
      by_cases c2 : (l.length : Int) > 300
      · refine Ev.ite_pos c2 (Ev.cast (Ev.ret _) ?_)
        unfold cmdsV
        rw [if_pos c2, ite_self]
      · exact Ev.ite_neg c2 (Ev.bind (implcmds_ev hs c0 p c1 l (by omega)) (Ev.ret _))
    · exact Ev.ite_neg c1 (Ev.cast (Ev.ret _) (by unfold cmdsV joinedV; rw [if_pos c0, if_neg c1, if_pos rfl]))
  · exact Ev.ite_neg c0 (Ev.cast (Ev.ret _) (by unfold cmdsV joinedV; rw [if_neg c0, if_pos rfl]))
end Go.Proofs.YtgagpmiooeoodaaGreat.PTwo
