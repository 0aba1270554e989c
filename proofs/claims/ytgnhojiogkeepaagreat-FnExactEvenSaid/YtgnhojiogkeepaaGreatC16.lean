/- Plain Lean over the printed functions: marked tables are held; tables in new memory with other slots (both ways). -/
import Derived.Test.YtgnhojiogkeepaaGreatC6
import Derived.Test.YtgnhojiogkeepaaGreatC12
set_option linter.unusedVariables false
set_option linter.unusedSimpArgs false
namespace Go.Proofs.YtgnhojiogkeepaaGreat.PMe
open Go Go.RowKit Go.Proofs.YtgnhojiogkeepaaGreat.V Go.Proofs.YtgnhojiogkeepaaGreat.C

theorem heldIntS_ev (l : List Int) (hl : l.length ≤ 1048576) (x : Int) (hx : 0 ≤ x) (hB : x + mks (fun _ => 1) l ≤ BB) : Ev (fun k => laws_heldIntS.f k (mkl fI (fun _ => 1) x l) x) (x + mks (fun _ => 1) l) := by
  have := held_ev (fun _ => 1) (by simp) fI BB laws_heldIntS.l4 (fun x l => Ev.step (by simp only [laws_heldIntS.l4]; exact Ev.ite_neg (by omega) (Ev.ret _))) (fun pre a suf x h0 h1 h2 v hv => Ev.step (by
    simp only [laws_heldIntS.l4, rd, get_mid, succ_mid h0, wrap_in (show 0 ≤ x + 1 by omega) (by omega)]
    exact Ev.ite_pos (lt_mid ..) (Ev.ite_pos ge_0 (Ev.ite_pos (lt_mid ..) (Ev.ite_pos rfl hv))))) l [] x (by simpa using hl) hx hB
  simpa [laws_heldIntS.f] using this

theorem heldWindowS_ev (l : List S104) (hl : l.length ≤ 1048576) (x : Int) (hx : 0 ≤ x) (hB : x + mks (fun _ => 3) l ≤ BB) : Ev (fun k => laws_heldWindowS.f k (mkl fW (fun _ => 3) x l) x) (x + mks (fun _ => 3) l) := by
  have := held_ev (fun _ => 3) (by simp) fW BB laws_heldWindowS.l4 (fun x l => Ev.step (by simp only [laws_heldWindowS.l4]; exact Ev.ite_neg (by omega) (Ev.ret _))) (fun pre a suf x h0 h1 h2 v hv => Ev.step (by
    simp only [laws_heldWindowS.l4, rd_T104, get_mid, succ_mid h0, wrap_in (show 0 ≤ x + 1 by omega) (by omega), wrap_in (show 0 ≤ x + 1 + 1 by omega) (by omega), wrap_in (show 0 ≤ x + 1 + 1 + 1 by omega) (by omega)]
    rw [show x + 3 = x + 1 + 1 + 1 by omega] at hv
    exact Ev.ite_pos (lt_mid ..) (Ev.ite_pos ge_0 (Ev.ite_pos (lt_mid ..) (Ev.ite_pos rfl (Ev.ite_pos ge_0 (Ev.ite_pos (lt_mid ..) (Ev.ite_pos rfl (Ev.ite_pos ge_0 (Ev.ite_pos (lt_mid ..) (Ev.ite_pos rfl hv))))))))))) l [] x (by simpa using hl) hx hB
  simpa [laws_heldWindowS.f] using this
theorem heldSlotS_ev (l : List S55) (hl : l.length ≤ 1048576) (x : Int) (hx : 0 ≤ x) (hB : x + mks (fun _ => 3) l ≤ BB) : Ev (fun k => laws_heldSlotS.f k (mkl fS (fun _ => 3) x l) x) (x + mks (fun _ => 3) l) := by
  have := held_ev (fun _ => 3) (by simp) fS BB laws_heldSlotS.l4 (fun x l => Ev.step (by simp only [laws_heldSlotS.l4]; exact Ev.ite_neg (by omega) (Ev.ret _))) (fun pre a suf x h0 h1 h2 v hv => Ev.step (by
    simp only [laws_heldSlotS.l4, rd_T55, get_mid, succ_mid h0, wrap_in (show 0 ≤ x + 1 by omega) (by omega), wrap_in (show 0 ≤ x + 1 + 1 by omega) (by omega), wrap_in (show 0 ≤ x + 1 + 1 + 1 by omega) (by omega)]
    rw [show x + 3 = x + 1 + 1 + 1 by omega] at hv
    exact Ev.ite_pos (lt_mid ..) (Ev.ite_pos ge_0 (Ev.ite_pos (lt_mid ..) (Ev.ite_pos rfl (Ev.ite_pos ge_0 (Ev.ite_pos (lt_mid ..) (Ev.ite_pos rfl (Ev.ite_pos ge_0 (Ev.ite_pos (lt_mid ..) (Ev.ite_pos rfl hv))))))))))) l [] x (by simpa using hl) hx hB
  simpa [laws_heldSlotS.f] using this
theorem heldChanRowS_ev (l : List S88) (hl : l.length ≤ 1048576) (x : Int) (hx : 0 ≤ x) (hB : x + mks (fun _ => 4) l ≤ BB) : Ev (fun k => laws_heldChanRowS.f k (mkl fC (fun _ => 4) x l) x) (x + mks (fun _ => 4) l) := by
  have := held_ev (fun _ => 4) (by simp) fC BB laws_heldChanRowS.l4 (fun x l => Ev.step (by simp only [laws_heldChanRowS.l4]; exact Ev.ite_neg (by omega) (Ev.ret _))) (fun pre a suf x h0 h1 h2 v hv => Ev.step (by
    simp only [laws_heldChanRowS.l4, rd_T88, get_mid, succ_mid h0, wrap_in (show 0 ≤ x + 1 by omega) (by omega), wrap_in (show 0 ≤ x + 1 + 1 by omega) (by omega), wrap_in (show 0 ≤ x + 1 + 1 + 1 by omega) (by omega), wrap_in (show 0 ≤ x + 1 + 1 + 1 + 1 by omega) (by omega)]
    rw [show x + 4 = x + 1 + 1 + 1 + 1 by omega] at hv
    exact Ev.ite_pos (lt_mid ..) (Ev.ite_pos ge_0 (Ev.ite_pos (lt_mid ..) (Ev.ite_pos rfl (Ev.ite_pos ge_0 (Ev.ite_pos (lt_mid ..) (Ev.ite_pos rfl (Ev.ite_pos ge_0 (Ev.ite_pos (lt_mid ..) (Ev.ite_pos rfl (Ev.ite_pos ge_0 (Ev.ite_pos (lt_mid ..) (Ev.ite_pos rfl hv)))))))))))))) l [] x (by simpa using hl) hx hB
  simpa [laws_heldChanRowS.f] using this

theorem heldPartRowS_ev (l : List S85) (hl : l.length ≤ 1048576) (hw : ∀ a ∈ l, a.f3.length ≤ 1048576) (x : Int) (hx : 0 ≤ x) (hB : x + mks wP l ≤ BB) : Ev (fun k => laws_heldPartRowS.f k (mkl fP wP x l) x) (x + mks wP l) := by
  have key : ∀ (suf pre : List S85) (x : Int), (pre ++ suf).length ≤ 1048576 → (∀ a ∈ suf, a.f3.length ≤ 1048576) → 0 ≤ x → x + mks wP suf ≤ BB → Ev (fun k => laws_heldPartRowS.l4 k (pre ++ mkl fP wP x suf) x (pre.length : Int)) (x + mks wP suf) := by
    intro suf
    induction suf with
    | nil =>
      intro pre x _ _ _ _
      refine Ev.step ?_
      simp only [laws_heldPartRowS.l4, List.append_nil, mks, mkl, Int.add_zero]
      exact Ev.ite_neg (by omega) (Ev.ret _)
    | cons a suf ih =>
      intro pre x h0 hws h1 h2
      have q1 := mks_nn wP_nn suf
      have q2 := mks_nn (w := fun _ : S104 => 3) (by simp) a.f3
      simp only [mks] at h2
      have h3 : x + wP a ≤ BB := by omega
      unfold wP at h3
      have hrec := ih (pre ++ [fP x a]) (x + wP a) (by simpa using h0) (fun b hb => hws b (by simp [hb])) (by have := wP_nn a; omega) (by omega)
      have e : x + wP a = x + 1 + 1 + 1 + 1 + mks (fun _ => 3) a.f3 := by unfold wP; omega
      have h0' : (pre ++ fP x a :: mkl fP wP (x + wP a) suf).length ≤ 1048576 := by simpa [mkl_len] using h0
      have hrec' : Ev (fun k => laws_heldPartRowS.l4 k (pre ++ fP x a :: mkl fP wP (x + wP a) suf) (x + 1 + 1 + 1 + 1 + mks (fun _ => 3) a.f3) ((pre.length + 1 : Nat) : Int)) (x + mks wP (a :: suf)) := by
        rw [← e]
        simp only [mks, List.append_assoc, List.singleton_append, List.length_append, List.length_cons, List.length_nil] at hrec ⊢
        rw [← Int.add_assoc]
        exact hrec
      have hh := heldWindowS_ev a.f3 (hws a (by simp)) (x + 1 + 1 + 1 + 1) (by omega) (by omega)
      refine Ev.step ?_
      simp only [laws_heldPartRowS.l4, mkl, rd_T85, get_mid, succ_mid h0', wrap_in (show 0 ≤ x + 1 by omega) (by omega), wrap_in (show 0 ≤ x + 1 + 1 by omega) (by omega), wrap_in (show 0 ≤ x + 1 + 1 + 1 by omega) (by omega), wrap_in (show 0 ≤ x + 1 + 1 + 1 + 1 by omega) (by omega)]
      refine Ev.ite_pos (lt_mid ..) (Ev.ite_pos ge_0 (Ev.ite_pos (lt_mid ..) (Ev.bind (txt_ev x (by omega)) (Ev.ite_pos rfl (Ev.ite_pos ge_0 (Ev.ite_pos (lt_mid ..) (Ev.ite_pos rfl (Ev.ite_pos ge_0 (Ev.ite_pos (lt_mid ..) (Ev.ite_pos rfl (Ev.ite_pos ge_0 (Ev.ite_pos (lt_mid ..) (Ev.ite_pos rfl (Ev.ite_pos ge_0 (Ev.ite_pos (lt_mid ..) (Ev.bind hh (Ev.ite_neg (by omega) hrec')))))))))))))))))
  have := key l [] x (by simpa using hl) hw hx hB
  simpa [laws_heldPartRowS.f] using this

/-- Tables that are marked are held. -/
theorem marked_ev (t : S39) (h : Small t) : ∃ v, Ev (fun k => laws_markTables_o1.f k t.f0 t.f1.f0 t.f1.f1 t.f1.f2 t.f2 t.f3.f0 t.f3.f1 t.f3.f2 t.f3.f3 t.f3.f4 t.f3.f5 t.f3.f6 t.f4 t.f5 t.f6 1 t.f7 t.f8 t.f9 t.f10) v ∧ 0 ≤ v.1 ∧ v.1 ≤ 8796093022208 ∧
    Ev (fun k => laws_heldTables.f k (⟨t.f0, t.f1, t.f2, t.f3, t.f4, t.f5, t.f6, v.2.1, v.2.2.1, v.2.2.2.1, v.2.2.2.2⟩ : S39) 1) v.1 := by
  have hp := parts_sum t.f7 h.parts h.windows
  have hp0 := mks_nn wP_nn t.f7
  have h1 := h.parts
  have h2 := h.devs
  have h3 := h.chans
  have h4 := h.slots
  have b1 : 1 + mks wP t.f7 ≤ BB := by unfold BB; omega
  have b2 : 1 + mks wP t.f7 + mks (fun _ => 1) t.f8 ≤ BB := by rw [mks_const]; unfold BB; omega
  have b3 : 1 + mks wP t.f7 + mks (fun _ => 1) t.f8 + mks (fun _ => 4) t.f9 ≤ BB := by rw [mks_const, mks_const]; unfold BB; omega
  have b4 : 1 + mks wP t.f7 + mks (fun _ => 1) t.f8 + mks (fun _ => 4) t.f9 + mks (fun _ => 3) t.f10 ≤ BB := by rw [mks_const, mks_const, mks_const]; unfold BB; omega
  have c2 : 0 ≤ 1 + mks wP t.f7 + mks (fun _ => 1) t.f8 := by rw [mks_const]; omega
  have c3 : 0 ≤ 1 + mks wP t.f7 + mks (fun _ => 1) t.f8 + mks (fun _ => 4) t.f9 := by rw [mks_const, mks_const]; omega
  have c4 : 0 ≤ 1 + mks wP t.f7 + mks (fun _ => 1) t.f8 + mks (fun _ => 4) t.f9 + mks (fun _ => 3) t.f10 := by rw [mks_const, mks_const, mks_const]; omega
  have e1 := markPartRowS_eq t.f7 h.parts h.windows 1 (by omega) b1
  have e2 := markIntS_ev t.f8 h.devs (1 + mks wP t.f7) (by omega) b2
  have e3 := markChanRowS_ev t.f9 h.chans (1 + mks wP t.f7 + mks (fun _ => 1) t.f8) c2 b3
  have e4 := markSlotS_ev t.f10 h.slots (1 + mks wP t.f7 + mks (fun _ => 1) t.f8 + mks (fun _ => 4) t.f9) c3 b4
  have g1 := heldPartRowS_ev t.f7 h.parts h.windows 1 (by omega) b1
  have g2 := heldIntS_ev t.f8 h.devs (1 + mks wP t.f7) (by omega) b2
  have g3 := heldChanRowS_ev t.f9 h.chans (1 + mks wP t.f7 + mks (fun _ => 1) t.f8) c2 b3
  have g4 := heldSlotS_ev t.f10 h.slots (1 + mks wP t.f7 + mks (fun _ => 1) t.f8 + mks (fun _ => 4) t.f9) c3 b4
  unfold laws_markTables_o1.f laws_heldTables.f
  refine ⟨_, Ev.bind e1 (Ev.bind e2 (Ev.bind e3 (Ev.bind e4 (Ev.ret _)))), c4, ?_, Ev.bind g1 (Ev.ite_neg (by omega) (Ev.bind g2 (Ev.ite_neg (by omega) (Ev.bind g3 (Ev.ite_neg (by omega) (Ev.bind g4 (Ev.ite_neg (by omega) (Ev.ret _))))))))⟩
  simp only [mks_const]
  omega

/-! ### Tables with other slots -/
def setSl (t : S39) (sl : List S55) : S39 := (t.f0, t.f1, t.f2, t.f3, t.f4, t.f5, t.f6, t.f7, t.f8, t.f9, sl)
theorem setSl_small {t : S39} (h : Small t) {sl : List S55} (hl : sl.length ≤ 1048576) : Small (setSl t sl) := ⟨h.parts, h.windows, h.devs, h.chans, hl⟩

theorem cloneP (l : List S85) (h : l.length ≤ 1048576) : slices_Clone_71.f l = some l := by
  unfold slices_Clone_71.f
  by_cases hl : l.length = 0
  · obtain rfl := List.eq_nil_of_length_eq_zero hl; simp [sameO]
  · rw [if_neg hl]; simp; omega
theorem cloneW (l : List S104) (h : l.length ≤ 1048576) : slices_Clone_72.f l = some l := by
  unfold slices_Clone_72.f
  by_cases hl : l.length = 0
  · obtain rfl := List.eq_nil_of_length_eq_zero hl; simp [sameO]
  · rw [if_neg hl]; simp; omega
theorem cloneI (l : List Int) (h : l.length ≤ 1048576) : slices_Clone_73.f l = some l := by
  unfold slices_Clone_73.f
  by_cases hl : l.length = 0
  · obtain rfl := List.eq_nil_of_length_eq_zero hl; simp [sameO]
  · rw [if_neg hl]; simp; omega
theorem cloneC (l : List S88) (h : l.length ≤ 1048576) : slices_Clone_74.f l = some l := by
  unfold slices_Clone_74.f
  by_cases hl : l.length = 0
  · obtain rfl := List.eq_nil_of_length_eq_zero hl; simp [sameO]
  · rw [if_neg hl]; simp; omega
theorem cloneS (l : List S55) (h : l.length ≤ 1048576) : slices_Clone_34.f l = some l := by
  unfold slices_Clone_34.f
  by_cases hl : l.length = 0
  · obtain rfl := List.eq_nil_of_length_eq_zero hl; simp [sameO]
  · rw [if_neg hl]; simp; omega

theorem set_self {α : Type} (l : List α) (i : Nat) (z : α) (h : i < l.length) : l.set i (l.getD i z) = l := by
  rw [List.getD_eq_getElem?_getD, List.getElem?_eq_getElem h]
  exact List.set_getElem_self h
theorem withSlots_ev (t : S39) (h : Small t) (sl : List S55) (hs : sl.length ≤ 1048576) : Ev (fun k => impl_withSlots.f k t sl) (setSl t sl) := by
  have key : ∀ (m i : Nat) (y : S39), i + m = t.f7.length → Ev (fun k => impl_withSlots.l6 k sl (t.f7.length : Int) (i : Int) t y (t.f7, i)) (setSl t sl) := by
    intro m
    induction m with
    | zero =>
      intro i y hi
      refine Ev.step ?_
      simp only [impl_withSlots.l6, cloneI _ h.devs, cloneC _ h.chans, cloneS _ hs, Option.bind_some]
      exact Ev.ite_neg (by omega) (Ev.ite_pos (by omega) (Ev.ret _))
    | succ m ih =>
      intro i y hi
      have hlt : i < t.f7.length := by omega
      have hmem := getD_mem (z := z85) hlt
      refine Ev.step ?_
      simp only [impl_withSlots.l6, rd_T85, Int.toNat_natCast, cloneW _ (h.windows _ hmem), Option.bind_some, wrap_succ hlt (by have := h.parts; omega)]
      refine Ev.ite_pos (lt_in hlt) (Ev.ite_pos ge_0 (Ev.ite_pos (lt_in hlt) (Ev.ite_pos (Nat.le_refl _) (Ev.ite_pos ge_0 (Ev.ite_pos (lt_in hlt) (Ev.ite_pos trivial ?_))))))
      have e : t.f7.set i (((t.f7.getD i z85).f0, (t.f7.getD i z85).f1, (t.f7.getD i z85).f2, (t.f7.getD i z85).f3) : S85) = t.f7 := set_self _ _ _ hlt
      rw [e]
      exact ih (i + 1) _ (by omega)
  unfold impl_withSlots.f
  simp only [cloneP _ h.parts, Option.bind_some]
  exact key t.f7.length 0 _ (by omega)
theorem copy_ev (t : S39) (h : Small t) (sl : List S55) (hs : sl.length ≤ 1048576) : Ev (fun k => spec_l23Copy.f k t sl) (setSl t sl) := by
  have key : ∀ (m i : Nat) (y : S39), i + m = t.f7.length → Ev (fun k => spec_l23Copy.l14 k (i : Int) t y ((t.f0, t.f1, t.f2, t.f3, t.f4, t.f5, t.f6, t.f7.take i, t.f8, t.f9, sl) : S39)) (setSl t sl) := by
    intro m
    induction m with
    | zero =>
      intro i y hi
      refine Ev.step ?_
      simp only [spec_l23Copy.l14]
      refine Ev.ite_neg (by omega) ?_
      rw [List.take_of_length_le (by omega)]
      exact Ev.ret _
    | succ m ih =>
      intro i y hi
      have hlt : i < t.f7.length := by omega
      have hp := h.parts
      have hmem := getD_mem (z := z85) hlt
      have hw := h.windows _ hmem
      have hrec := ih (i + 1) (y.f0, y.f1, y.f2, y.f3, y.f4, y.f5, y.f6, [], [], [], []) (by omega)
      have e : t.f7.take (i + 1) = t.f7.take i ++ [t.f7.getD i z85] := by
        rw [List.getD_eq_getElem?_getD, List.getElem?_eq_getElem hlt]
        exact List.take_succ_eq_append_getElem hlt
      rw [e] at hrec
      refine Ev.step ?_
      simp only [spec_l23Copy.l14, rd_T85, Int.toNat_natCast, wrap_succ hlt (by omega), List.nil_append, List.length_nil, Nat.zero_add, List.length_cons, List.length_take]
      exact Ev.ite_pos (lt_in hlt) (Ev.ite_pos ge_0 (Ev.ite_pos (lt_in hlt) (Ev.ite_pos ge_0 (Ev.ite_pos (lt_in hlt) (Ev.ite_pos (by omega) (Ev.ite_pos (by show (t.f7.take i).length + 1 < _; rw [List.length_take]; omega) hrec))))))
  have h1 := h.devs
  have h2 := h.chans
  unfold spec_l23Copy.f
  simp only [List.nil_append, List.length_nil, Nat.zero_add]
  exact Ev.ite_pos (by omega) (Ev.ite_pos (by omega) (Ev.ite_pos (by omega) (key t.f7.length 0 _ (by omega))))
end Go.Proofs.YtgnhojiogkeepaaGreat.PMe
