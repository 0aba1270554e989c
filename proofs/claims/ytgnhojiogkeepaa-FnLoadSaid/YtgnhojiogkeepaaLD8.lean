/- Plain Lean over the printed functions: guests that are right, fetching, images, booting. -/
import Derived.Test.YtgnhojiogkeepaaLD7
set_option linter.unusedVariables false
set_option linter.unusedSimpArgs false
set_option linter.unusedSectionVars false
namespace Go.Proofs.Ytgnhojiogkeepaa.PLo
open Go Go.RowKit Go.Proofs.Ytgnhojiogkeepaa.V Go.Proofs.Ytgnhojiogkeepaa.C

theorem same_self {R : Type} (x : Option R) : sameO x x = x := by simp [sameO]

theorem idx_apart2 (l : List S40) (x : S40) (hl : l.length ≤ 1048576) : Ev (fun k => slices_IndexFunc_118_78.f k l x) (idxOf (fun v => !apartB v x) l 0) := by
  unfold slices_IndexFunc_118_78.f
  refine Ev.idx l z40 _ (fun k i => slices_IndexFunc_118_78.l4 k l x (l.length : Int) i) (Ev.step ?_) (fun i hi hp => Ev.step ?_) (fun i hi hp v hv => Ev.step ?_)
  · simp only [slices_IndexFunc_118_78.l4]; exact Ev.ite_neg (by omega) (Ev.ret _)
  all_goals
    simp only [slices_IndexFunc_118_78.l4, impl_areWindows_1.f, apart_some, Option.bind_some, wrap_succ hi (by omega)]
    refine Ev.ite_pos (lt_in hi) (Ev.ite_pos ge_0 (Ev.ite_pos (lt_in hi) ?_))
  · exact Ev.ite_pos hp (Ev.ret _)
  · exact Ev.ite_neg (fun h => by rw [show (!apartB (rd_T40 l (i : Int)) x) = false from hp] at h; cases h) hv
theorem areWindows_ev (l : List S40) (h : WinsOk l) : Ev (fun k => impl_areWindows.f k l) true := by
  have hl := h.len
  have e0 : (0 : Int).toNat = 0 := rfl
  have key : ∀ (m i : Nat), i + m = l.length → Ev (fun k => impl_areWindows.l8 k l l (l.length : Int) (i : Int)) true := by
    intro m
    induction m with
    | zero =>
      intro i hi
      refine Ev.step ?_
      simp only [impl_areWindows.l8]
      exact Ev.ite_neg (by omega) (Ev.ret _)
    | succ m ih =>
      intro i hi
      have hlt : i < l.length := by omega
      refine Ev.step ?_
      simp only [impl_areWindows.l8, rd_T40, Int.toNat_natCast, e0, List.drop_zero, implWindow, Option.bind_some, wrap_succ hlt (by omega)]
      have hcon : Ev (fun k => slices_ContainsFunc_77_78.f k (l.take i) (l.getD i z40)) false := by
        unfold slices_ContainsFunc_77_78.f
        refine Ev.bind (idx_apart2 (l.take i) _ (by rw [List.length_take]; omega)) (Ev.cast (Ev.ret _) ?_)
        rw [decide_eq_false_iff_not, idxOf_ge _ _ _ (Int.le_refl 0)]
        intro h'
        obtain ⟨v, hv, hv2⟩ := List.any_eq_true.1 h'
        rw [h.apart i hlt v hv] at hv2
        cases hv2
      exact Ev.ite_pos (lt_in hlt) (Ev.ite_pos ge_0 (Ev.ite_pos (lt_in hlt) (Ev.ite_pos (h.win i hlt) (Ev.ite_pos ge_0 (Ev.ite_pos (by omega) (Ev.bind hcon (Ev.ite_neg (by simp) (ih (i + 1) (by omega)))))))))
  unfold impl_areWindows.f
  exact Ev.ite_neg (by omega) (key l.length 0 (by omega))

structure GuestIn (ws : List S40) (g : S29) : Prop where
  regs : g.f0.length = 16
  zero : g.f0.getD 0 0 = 0
  len : g.f2.length = ws.length
  row : ∀ i, i < ws.length → ((g.f2.getD i []).length : Int) = (ws.getD i z40).f1
theorem isGuest_ev (ws : List S40) (h : WinsOk ws) (g : S29) (hg : GuestIn ws g) : Ev (fun k => impl_isGuest.f k ws g) true := by
  have hl := h.len
  have hlen := hg.len
  have key : ∀ (m i : Nat), i + m = ws.length → Ev (fun k => impl_isGuest.l8 k ws (ws.length : Int) (i : Int) g) true := by
    intro m
    induction m with
    | zero =>
      intro i hi
      refine Ev.step ?_
      simp only [impl_isGuest.l8]
      exact Ev.ite_neg (by omega) (Ev.ret _)
    | succ m ih =>
      intro i hi
      have hlt : i < ws.length := by omega
      refine Ev.step ?_
      simp only [impl_isGuest.l8, rd_T40, rd_ListInt, Int.toNat_natCast, wrap_succ hlt (by omega)]
      exact Ev.ite_pos (lt_in hlt) (Ev.ite_pos ge_0 (Ev.ite_pos (lt_in hlt) (Ev.ite_pos ge_0 (Ev.ite_pos (by omega) (Ev.ite_pos (hg.row i hlt) (ih (i + 1) (by omega)))))))
  have hr := hg.regs
  unfold impl_isGuest.f
  simp only [lenZ_eq]
  exact Ev.bind (areWindows_ev ws h) (Ev.ite_pos rfl (Ev.ite_pos (by omega) (Ev.ite_pos (by omega) (Ev.ite_pos hg.zero (Ev.ite_pos (by omega) (key ws.length 0 (by omega)))))))

theorem windowAt_ev (ws : List S40) (a : Int) (hl : ws.length ≤ 1048576) : Ev (fun k => impl_windowAt.f k ws a) (idxOf (fun v => hasB v a) ws 0) := by
  unfold impl_windowAt.f
  exact Ev.bind (idx_window _ _ hl) (Ev.ret _)
/-- The window that has an address, where the windows stand apart. -/
theorem at_only (ws : List S40) (h : WinsOk ws) {hm : Nat} (hlt : hm < ws.length) {a : Int} (ha : hasB (ws.getD hm z40) a = true) : idxOf (fun v => hasB v a) ws 0 = (hm : Int) := by
  have range : ∀ i, i < ws.length → 0 ≤ (ws.getD i z40).f0 ∧ (ws.getD i z40).f0 + (ws.getD i z40).f1 ≤ 2048 ∧ 4 ≤ (ws.getD i z40).f1 := fun i hi => by
    have := window_in.1 (h.win i hi)
    omega
  have two : ∀ i j, i < j → j < ws.length → hasB (ws.getD i z40) a = true → hasB (ws.getD j z40) a = true → False := by
    intro i j hij hj h1 h2
    have r1 := range i (by omega)
    have r2 := range j hj
    have hm1 : ws.getD i z40 ∈ ws.take j := by
      rw [List.getD_eq_getElem?_getD, List.getElem?_eq_getElem (by omega : i < ws.length)]
      rw [List.mem_take_iff_getElem]
      exact ⟨i, by omega, rfl⟩
    have h3 := h.apart j hj _ hm1
    simp only [hasB, apartB, decide_eq_true_eq] at h1 h2 h3
    rw [wrap_of (by omega) (by omega)] at h1 h2
    rw [wrap_of (by omega) (by omega), wrap_of (by omega) (by omega)] at h3
    omega
  rcases idxOf_find (fun v => hasB v a) z40 ws 0 with ⟨_, h5⟩ | ⟨j, h5, h6, h7, h8⟩
  · have := List.any_eq_false.1 h5 (ws.getD hm z40) (getD_mem hlt)
    rw [ha] at this
    cases this rfl
  · rcases Nat.lt_trichotomy j hm with h9 | h9 | h9
    · exact (two j hm h9 hlt h7 ha).elim
    · simpa [h9] using h6
    · have := h8 hm h9
      rw [ha] at this
      cases this

theorem fault_ev (ws : List S40) (h : WinsOk ws) {hm : Nat} (hlt : hm < ws.length) {a : Int} (h0 : 0 ≤ a ∧ a ≤ 4294967295) (h4 : a.tmod 4 = 0) (ha : hasB (ws.getD hm z40) a = true) (hx : execB (ws.getD hm z40).f2 = true) : Ev (fun k => impl_faultAt.f k ws a 4 4) 0 := by
  have hl := h.len
  have hw := windowAt_ev ws a (by omega)
  rw [at_only ws h hlt ha] at hw
  have hx' : ¬ bitAnd .i64 (ws.getD hm z40).f2 4 = 0 := by
    unfold execB at hx
    simpa using hx
  unfold impl_faultAt.f
  rw [wrap_of (a := a) (by omega) (by omega)]
  simp only [rd_T40]
  refine Ev.ite_neg (by decide) (Ev.ite_pos (by trivial) (Ev.ite_neg (by decide) (Ev.ite_neg (by decide) (Ev.ite_pos (by trivial) (Ev.ite_neg (by decide) (Ev.ite_pos h4 (Ev.bind hw (Ev.ite_neg (by omega) (Ev.ite_pos (by omega) (Ev.ite_pos (by omega) (Ev.ite_neg ?_ (Ev.ret _))))))))))))
  rw [Int.toNat_natCast]
  exact hx'

theorem fetch_ev (ws : List S40) (h : WinsOk ws) (g : S29) (hg : GuestIn ws g) {hm : Nat} (hlt : hm < ws.length) (h0 : 0 ≤ g.f1 ∧ g.f1 ≤ 4294967295) (h4 : g.f1.tmod 4 = 0) (hlo : (ws.getD hm z40).f0 ≤ g.f1) (hhi : g.f1 + 4 ≤ (ws.getD hm z40).f0 + (ws.getD hm z40).f1)
    (hx : execB (ws.getD hm z40).f2 = true) {x : Int} (hxr : 0 ≤ x ∧ x ≤ 4294967295) (hb : ((g.f2.getD hm []).drop (g.f1 - (ws.getD hm z40).f0).toNat).take 4 = bts x) : Ev (fun k => impl_Fetch.f k ws g) (x, 0) := by
  have hl := h.len
  have hr := window_in.1 (h.win hm hlt)
  have hgl := hg.len
  have hgr := hg.row hm hlt
  have ha : hasB (ws.getD hm z40) g.f1 = true := by
    simp only [hasB, decide_eq_true_eq]
    rw [wrap_of (by omega) (by omega)]
    omega
  have hw := windowAt_ev ws g.f1 (by omega)
  rw [at_only ws h hlt ha] at hw
  have e4 : (4 : Int).toNat = 4 := rfl
  have e0 : (0 : Int).toNat = 0 := rfl
  have w1 : wrap64 (g.f1 - (ws.getD hm z40).f0) = g.f1 - (ws.getD hm z40).f0 := wrap_of (by omega) (by omega)
  unfold impl_Fetch.f impl_Guest__load_o1.f
  refine Ev.bind (isGuest_ev ws h g hg) (Ev.ite_pos rfl (Ev.bind (a := (x, 0, g)) ?_ (Ev.ret _)))
  rw [wrap_of (a := g.f1) (by omega) (by omega)]
  refine Ev.bind (fault_ev ws h hlt h0 h4 ha hx) (Ev.ite_pos rfl (Ev.bind hw ?_))
  simp only [rd_T40, rd_ListInt, Int.toNat_natCast, w1, List.take_length, e4, e0, List.drop_zero, hb, word_some x hxr, Option.bind_some]
  refine Ev.ite_pos (by omega) (Ev.ite_pos (by omega) (Ev.ite_pos (by omega) (Ev.ite_pos (by omega) (Ev.ite_pos (by omega) (Ev.ite_pos (by omega) (Ev.ite_pos (by omega) (Ev.ite_neg (by decide) (Ev.ite_pos (by decide) (Ev.ite_pos ?_ (Ev.ret _))))))))))
  rw [List.length_drop]
  omega

/-! ### Images -/
theorem isImage_ev (t : S50) (ht : t.f7.length ≤ 1048576) (n : Nat) (hn : n < t.f7.length) (hl : (t.f7.getD n z75).f3.length ≤ 4) (im : List (List Int)) (h1 : im.length = (t.f7.getD n z75).f3.length) (h2 : ∀ i, i < (t.f7.getD n z75).f3.length → ((im.getD i []).length : Int) = ((t.f7.getD n z75).f3.getD i z40).f1) : Ev (fun k => impl_isImage.f k t (n : Int) im) true := by
  have key : ∀ (m i : Nat), i + m = (t.f7.getD n z75).f3.length → Ev (fun k => impl_isImage.l8 k im (t.f7.getD n z75).f3 ((t.f7.getD n z75).f3.length : Int) (i : Int)) true := by
    intro m
    induction m with
    | zero =>
      intro i hi
      refine Ev.step ?_
      simp only [impl_isImage.l8]
      exact Ev.ite_neg (by omega) (Ev.ret _)
    | succ m ih =>
      intro i hi
      have hlt : i < (t.f7.getD n z75).f3.length := by omega
      refine Ev.step ?_
      simp only [impl_isImage.l8, rd_T40, rd_ListInt, Int.toNat_natCast, wrap_succ hlt (by omega)]
      exact Ev.ite_pos (lt_in hlt) (Ev.ite_pos ge_0 (Ev.ite_pos (lt_in hlt) (Ev.ite_pos ge_0 (Ev.ite_pos (by omega) (Ev.ite_pos (h2 i hlt) (ih (i + 1) (by omega)))))))
  unfold impl_isImage.f
  simp only [within_some, Option.bind_some, rd_T75, Int.toNat_natCast]
  rw [wrap_of (a := (t.f7.length : Int) - 1) (by omega) (by omega)]
  exact Ev.ite_pos (in_iff.2 (by omega)) (Ev.ite_pos (by omega) (Ev.ite_pos (by omega) (Ev.ite_pos (by omega) (Ev.ite_pos (by omega) (Ev.ite_pos (by omega) (key (t.f7.getD n z75).f3.length 0 (by omega)))))))

theorem cloneBs (l : List Int) (h : l.length ≤ 1048576) : slices_Clone_73.f l = some l := by
  unfold slices_Clone_73.f
  by_cases hl : l.length = 0
  · obtain rfl := List.eq_nil_of_length_eq_zero hl; simp [sameO]
  · rw [if_neg hl]; simp; omega
theorem cloneBytes_ev (im : List (List Int)) (hl : im.length ≤ 1048576) (hr : ∀ x ∈ im, x.length ≤ 1048576) : Ev (fun k => impl_cloneBytes.f k im) im := by
  have key : ∀ (m i : Nat), i + m = im.length → Ev (fun k => impl_cloneBytes.l6 k im (im.length : Int) (i : Int) (im.take i)) im := by
    intro m
    induction m with
    | zero =>
      intro i hi
      refine Ev.step ?_
      simp only [impl_cloneBytes.l6]
      have e : im.take i = im := List.take_of_length_le (by omega)
      rw [e]
      exact Ev.ite_neg (by omega) (Ev.ret _)
    | succ m ih =>
      intro i hi
      have hlt : i < im.length := by omega
      have hmem := getD_mem (z := ([] : List Int)) hlt
      refine Ev.step ?_
      simp only [impl_cloneBytes.l6, rd_ListInt, Int.toNat_natCast, cloneBs _ (hr _ hmem), Option.bind_some, wrap_succ hlt (by omega)]
      refine Ev.ite_pos (lt_in hlt) (Ev.ite_pos ge_0 (Ev.ite_pos (lt_in hlt) (Ev.ite_pos (by simp only [List.length_take, List.length_cons, List.length_nil]; omega) ?_)))
      have e : im.take i ++ [im.getD i []] = im.take (i + 1) := by
        rw [List.take_succ_eq_append_getElem hlt, List.getD_eq_getElem?_getD, List.getElem?_eq_getElem hlt]
        rfl
      rw [e]
      exact ih (i + 1) (by omega)
  unfold impl_cloneBytes.f
  have := key im.length 0 (by omega)
  simpa using this

theorem bootGuest_ev (t : S50) (n : Nat) (hn : n < t.f7.length) (im : List (List Int)) (hl : im.length ≤ 1048576) (hr : ∀ x ∈ im, x.length ≤ 1048576) : Ev (fun k => impl_bootGuest.f k t (n : Int) im) (List.replicate 16 0, IntKind.wrap .u32 (t.f7.getD n z75).f1, im) := by
  unfold impl_bootGuest.f
  simp only [rd_T75, Int.toNat_natCast]
  refine Ev.ite_pos (by omega) (Ev.ite_pos (by omega) (Ev.bind (a := (List.replicate 16 0, IntKind.wrap .u32 (t.f7.getD n z75).f1, [])) ?_ (Ev.bind (cloneBytes_ev im hl hr) (Ev.ret _))))
  unfold impl_newGuest.f
  refine Ev.step ?_
  simp only [impl_newGuest.l6]
  exact Ev.ite_neg (by simp) (Ev.ret _)
theorem partBoot_ev (t : S50) (h : Small t) (hs : soundB t = true) (n : Nat) (hn : n < t.f7.length) (im : List (List Int)) (hl : im.length ≤ 1048576) (hr : ∀ x ∈ im, x.length ≤ 1048576) : ∃ s : S68, Ev (fun k => impl_partBoot.f k t (n : Int) im) s ∧ s.f0 = (List.replicate 16 0, IntKind.wrap .u32 (t.f7.getD n z75).f1, im) := by
  obtain ⟨k0, h0⟩ := bootGuest_ev t n hn im hl hr
  obtain ⟨k1, h1⟩ := cloneBytes_ev im hl hr
  have hd := h.devs
  have hc := h.chans
  have hh : shapeB t.f1 = true := (head_in (by unfold soundB at hs; rw [Bool.and_eq_true] at hs; exact hs.1)).2.1
  have h2 : ∃ c, impl_newCache.f t.f1 = some c := by
    simp only [shapeB, decide_eq_true_eq] at hh
    have : 0 ≤ t.f1.f0 ∧ t.f1.f0 ≤ 16 := by omega
    unfold impl_newCache.f
    rw [if_pos this.1, if_pos (Int.le_refl _), if_pos (by omega)]
    exact ⟨_, rfl⟩
  obtain ⟨c, h2⟩ := h2
  have c1 : 0 ≤ (t.f9.length : Int) := by omega
  have c2 : 0 ≤ (t.f8.length : Int) := by omega
  have c3 : t.f9.length ≤ 8796093022208 := by omega
  have c4 : t.f9.length ≤ 11728124029610 := by omega
  have c5 : t.f8.length ≤ 5864062014805 := by omega
  have h0' : ∀ k, k0 ≤ k → impl_bootGuest.f k t (n : Int) im = some (List.replicate 16 0, IntKind.wrap .u32 (t.f7.getD n z75).f1, im) := h0
  have h1' : ∀ k, k1 ≤ k → impl_cloneBytes.f k im = some im := h1
  refine ⟨((List.replicate 16 0, IntKind.wrap .u32 (t.f7.getD n z75).f1, im), (false, 0, 0, 0, 0, false, false, 0), (0, 0, 0, false), c, (t.f2, []), 0, true, im, List.replicate t.f9.length z204, List.replicate t.f9.length z206, List.replicate t.f8.length z208), ⟨max k0 k1, fun k hk => ?_⟩, rfl⟩
  show impl_partBoot.f k t (n : Int) im = some _
  unfold impl_partBoot.f
  simp only [h0' k (by omega), h1' k (by omega), h2, Option.bind_some, Int.toNat_natCast, c1, c2, c3, c4, c5, Int.le_refl, if_true, same_self]
end Go.Proofs.Ytgnhojiogkeepaa.PLo
