/- Plain Lean over the printed functions: both SameFor come to the same, and so the law's function answers true. -/
import Derived.Test.YtgagpmiooeoodaaGreatC11
import Derived.Test.YtgagpmiooeoodaaGreatC10
import Derived.Test.YtgagpmiooeoodaaGreatC15
set_option linter.unusedVariables false
set_option linter.unusedSimpArgs false
set_option linter.unusedSectionVars false
namespace Go.Proofs.YtgagpmiooeoodaaGreat.PTwo
open Go Go.RowKit Go.Proofs.YtgagpmiooeoodaaGreat.V Go.Proofs.YtgagpmiooeoodaaGreat.C

/-- A loop that compares two lists of one length. -/
theorem eqloop {α : Type} [DecidableEq α] (z : α) (a b : List α) (hab : a.length = b.length) (L : Nat → Int → Option Bool) (hend : Ev (fun k => L k (a.length : Int)) true)
    (hyes : ∀ i, i < a.length → a.getD i z = b.getD i z → ∀ v, Ev (fun k => L k ((i + 1 : Nat) : Int)) v → Ev (fun k => L k (i : Int)) v) (hno : ∀ i, i < a.length → ¬ a.getD i z = b.getD i z → Ev (fun k => L k (i : Int)) false) : Ev (fun k => L k 0) (decide (a = b)) := by
  have key : ∀ (m i : Nat), i + m = a.length → Ev (fun k => L k (i : Int)) (decide (a.drop i = b.drop i)) := by
    intro m
    induction m with
    | zero =>
      intro i hi
      obtain rfl : i = a.length := by omega
      rw [List.drop_of_length_le (Nat.le_refl _), List.drop_of_length_le (by omega)]
      simpa using hend
    | succ m ih =>
      intro i hi
      rw [Ev.drop_getD a z i (by omega), Ev.drop_getD b z i (by omega)]
      by_cases e : a.getD i z = b.getD i z
      · refine Ev.cast (hyes i (by omega) e _ (ih (i + 1) (by omega))) ?_
        simp only [decide_eq_decide, List.cons.injEq, e, true_and]
      · refine Ev.cast (hno i (by omega) e) ?_
        simp only [List.cons.injEq, e, false_and, decide_false]
  have := key a.length 0 (by omega)
  simpa using this

/-! ### Bytes -/
def Byt (l : List Int) : Prop := ∀ n ∈ l, 0 ≤ n ∧ n ≤ 255
theorem strOf_inj {a b : List Int} (ha : Byt a) (hb : Byt b) (h : strOf a = strOf b) : a = b := by
  have h1 : a.map (fun n => UInt8.ofNat n.toNat) = b.map (fun n => UInt8.ofNat n.toNat) := by
    unfold strOf at h
    have := congrArg (fun s : ByteArray => s.data.toList) h
    simpa using this
  clear h
  induction a generalizing b with
  | nil => cases b with
    | nil => rfl
    | cons y b => simp at h1
  | cons x a ih => cases b with
    | nil => simp at h1
    | cons y b =>
      simp only [List.map_cons, List.cons.injEq] at h1
      have hx := ha x (by simp)
      have hy := hb y (by simp)
      have e : x = y := by
        have := congrArg UInt8.toNat h1.1
        simp only [UInt8.toNat_ofNat'] at this
        omega
      rw [e, ih (fun n hn => ha n (by simp [hn])) (fun n hn => hb n (by simp [hn])) h1.2]
theorem fit_byt {l : List Int} (h : Fits (.sl (.int .u8)) l) : Byt l := fun n hn => by
  have := h.2 n hn
  have h1 : (Lit.int .u8 n).wf = true := this
  simp only [Lit.wf, Bool.and_eq_true, decide_eq_true_eq] at h1
  have e1 : IntKind.min .u8 = 0 := rfl
  have e2 : IntKind.max .u8 = 255 := rfl
  omega

theorem equalB_ev (a b : List Int) (ha : a.length ≤ 1048576) : Ev (fun k => slices_Equal_169.f k a b) (decide (a = b)) := by
  unfold slices_Equal_169.f
  by_cases c1 : a.length = b.length
  · refine Ev.ite_pos (by omega) (eqloop 0 a b c1 (fun k i => slices_Equal_169.l8 k a b (a.length : Int) i) (Ev.step ?_) (fun i hi he v hv => Ev.step ?_) (fun i hi he => Ev.step ?_))
    · simp only [slices_Equal_169.l8]
      exact Ev.ite_neg (by omega) (Ev.ret _)
    all_goals
      simp only [slices_Equal_169.l8, wrap_succ hi (by omega), rd, Int.toNat_natCast]
      refine Ev.ite_pos (lt_in hi) (Ev.ite_pos ge_0 (Ev.ite_pos (lt_in hi) (Ev.ite_pos ge_0 (Ev.ite_pos (by omega) ?_))))
    · exact Ev.ite_pos he hv
    · exact Ev.ite_neg he (Ev.ret _)
  · exact Ev.ite_neg (by omega) (Ev.cast (Ev.ret _) (by
      have : ¬ a = b := fun e => c1 (by rw [e])
      simp [this]))
theorem sameImpl (a b : List (List Int)) (ha : Sm2 a) : Ev (fun k => impl_sameBytes.f k a b) (decide (a = b)) := by
  unfold impl_sameBytes.f
  refine Ev.bind ?_ (Ev.ret _)
  have hl := ha.1
  unfold slices_EqualFunc_168_169.f
  by_cases c1 : a.length = b.length
  · refine Ev.ite_pos (by omega) (eqloop [] a b c1 (fun k i => slices_EqualFunc_168_169.l8 k b a (a.length : Int) i) (Ev.step ?_) (fun i hi he v hv => Ev.step ?_) (fun i hi he => Ev.step ?_))
    · simp only [slices_EqualFunc_168_169.l8]
      exact Ev.ite_neg (by omega) (Ev.ret _)
    all_goals
      simp only [slices_EqualFunc_168_169.l8, wrap_succ hi (by omega), rd_ListInt, Int.toNat_natCast]
      refine Ev.ite_pos (lt_in hi) (Ev.ite_pos ge_0 (Ev.ite_pos (lt_in hi) (Ev.ite_pos ge_0 (Ev.ite_pos (by omega) (Ev.bind (equalB_ev _ _ (ha.2 _ (getD_mem hi))) ?_)))))
    · exact Ev.ite_pos (by simpa using he) hv
    · exact Ev.ite_neg (by simpa using he) (Ev.ret _)
  · exact Ev.ite_neg (by omega) (Ev.cast (Ev.ret _) (by
      have : ¬ a = b := fun e => c1 (by rw [e])
      simp [this]))
theorem sameSpec (a b : List (List Int)) (ha : Sm2 a) (hba : ∀ x ∈ a, Byt x) (hbb : ∀ x ∈ b, Byt x) : Ev (fun k => spec_l20SameBytes.f k a b) (decide (a = b)) := by
  have hl := ha.1
  unfold spec_l20SameBytes.f
  by_cases c1 : a.length = b.length
  · refine Ev.ite_pos (by omega) (eqloop [] a b c1 (fun k i => spec_l20SameBytes.l8 k a b i) (Ev.step ?_) (fun i hi he v hv => Ev.step ?_) (fun i hi he => Ev.step ?_))
    · simp only [spec_l20SameBytes.l8]
      exact Ev.ite_neg (by omega) (Ev.ret _)
    all_goals
      simp only [spec_l20SameBytes.l8, wrap_succ hi (by omega), rd_ListInt, Int.toNat_natCast]
      refine Ev.ite_pos (lt_in hi) (Ev.ite_pos ge_0 (Ev.ite_pos (lt_in hi) (Ev.ite_pos ge_0 (Ev.ite_pos (by omega) ?_))))
    · exact Ev.ite_pos (by rw [he]) hv
    · exact Ev.ite_neg (fun e => he (strOf_inj (hba _ (getD_mem hi)) (hbb _ (getD_mem (by omega))) e)) (Ev.ret _)
  · exact Ev.ite_neg (by omega) (Ev.cast (Ev.ret _) (by
      have : ¬ a = b := fun e => c1 (by rw [e])
      simp [this]))

/-! ### Images -/
def imagesB (t : S42) (l : List (List (List Int))) : Bool := decide (l.length = t.f7.length) && (List.range l.length).all fun i => fitB t (i : Int) (l.getD i [])
theorem implImages (t : S42) (l : List (List (List Int))) (hs : Small t) (hl : Sm3 l) : Ev (fun k => impl_areImages.f k t l) (imagesB t l) := by
  have hl1 := hl.1
  unfold impl_areImages.f imagesB
  by_cases e : l.length = t.f7.length
  · refine Ev.ite_pos (by omega) ?_
    rw [decide_eq_true e, Bool.true_and]
    have := Ev.allN l.length (fun i => fitB t (i : Int) (l.getD i [])) (fun k i => impl_areImages.l8 k l (l.length : Int) i t) true (Ev.step (by simp only [impl_areImages.l8]; exact Ev.ite_neg (by omega) (Ev.ret _))) (fun i hi v hv => Ev.step (by
      have h1 : rd_ListListInt l (i : Int) = l.getD i [] := rfl
      simp only [impl_areImages.l8, h1, wrap_succ hi (by omega)]
      exact Ev.ite_pos (lt_in hi) (Ev.ite_pos ge_0 (Ev.ite_pos (lt_in hi) (Ev.bind (implFits t hs _ _ (hl.2 _ (getD_mem hi)).1) (Ev.and_true fun _ => hv))))))
      l.length 0 (by omega)
    simpa using this
  · refine Ev.ite_neg (by omega) (Ev.cast (Ev.ret _) ?_)
    rw [decide_eq_false e, Bool.false_and]
theorem specImages (t : S42) (l : List (List (List Int))) (hs : Small t) (hl : Sm3 l) (hnm : ∀ x ∈ t.f7, x.f0.size ≤ 9223372036854775807) : Ev (fun k => spec_ImagesOk.f k t l) (soundB t && imagesB t l) := by
  have hl1 := hl.1
  unfold spec_ImagesOk.f imagesB
  refine Ev.bind (specSound t hs hnm) (Ev.and_true fun _ => ?_)
  by_cases e : l.length = t.f7.length
  · refine Ev.ite_pos (by omega) ?_
    rw [decide_eq_true e, Bool.true_and]
    have := Ev.allN l.length (fun i => fitB t (i : Int) (l.getD i [])) (fun k i => spec_ImagesOk.l8 k l i t) true (Ev.step (by simp only [spec_ImagesOk.l8]; exact Ev.ite_neg (by omega) (Ev.ret _))) (fun i hi v hv => Ev.step (by
      have h1 : rd_ListListInt l (i : Int) = l.getD i [] := rfl
      simp only [spec_ImagesOk.l8, h1, wrap_succ hi (by omega)]
      exact Ev.ite_pos (lt_in hi) (Ev.ite_pos ge_0 (Ev.ite_pos (lt_in hi) (Ev.bind (specFits t hs _ _ (hl.2 _ (getD_mem hi)).1) (Ev.and_true fun _ => hv))))))
      l.length 0 (by omega)
    simpa using this
  · refine Ev.ite_neg (by omega) (Ev.cast (Ev.ret _) ?_)
    rw [decide_eq_false e, Bool.false_and]

/-! ### The rounds -/
section
variable (t : S42) (hs : Small t) (hnm : ∀ x ∈ t.f7, x.f0.size ≤ 9223372036854775807) (p : Int) (a b : List (List (List Int))) (x y : List S144)
  (ha : Sm3 a) (hb : Sm3 b) (hba : ∀ z ∈ a, ∀ w ∈ z, Byt w) (hbb : ∀ z ∈ b, ∀ w ∈ z, Byt w)
include hs hnm ha hb hba hbb
def goodC (t : S42) (p : Int) (a b : List (List (List Int))) (x y : List S144) : Prop :=
  soundB t = true ∧ inB p 0 ((t.f7.length : Int) - 1) = true ∧ imagesB t a = true ∧ imagesB t b = true ∧ ¬ (x.length : Int) > 300 ∧ ¬ (y.length : Int) > 300
def coreV (t : S42) (p : Int) (a b : List (List (List Int))) (x y : List S144) : Bool :=
  ((closure t p).all fun q => decide (a.getD q.toNat [] = b.getD q.toNat [])) && decide (cmdsV t p x = cmdsV t p y)
open Classical in
noncomputable def sameV (t : S42) (p : Int) (a b : List (List (List Int))) (x y : List S144) : Bool := if goodC t p a b x y then coreV t p a b x y else false
theorem specCore (h : goodC t p a b x y) : Ev (fun k => spec_SameFor.l10 k p a x b y 0 t (closure t p)) (coreV t p a b x y) := by
  obtain ⟨g1, g2, g3, g4, g5, g6⟩ := h
  have hlen := closure_len g1 p
  have hxl := cmdsV_len t p x
  have hyl := cmdsV_len t p y
  simp only [imagesB, Bool.and_eq_true, decide_eq_true_eq] at g3 g4
  refine Ev.all (closure t p) 0 (fun q => decide (a.getD q.toNat [] = b.getD q.toNat [])) (fun k i => spec_SameFor.l10 k p a x b y i t (closure t p)) _ (fun _ => Ev.step ?_) (fun i hi v hv => Ev.step ?_) (fun i hi he => Ev.step ?_)
  · simp only [spec_SameFor.l10]
    refine Ev.ite_neg (by omega) (Ev.bind (specCmds_ev t hs hnm p x) (Ev.bind (specCmds_ev t hs hnm p y) ?_))
    by_cases c1 : (cmdsV t p x).length = (cmdsV t p y).length
    · refine Ev.ite_pos (by omega) (eqloop z144 _ _ c1 (fun k i => spec_SameFor.l26 k i (cmdsV t p x) (cmdsV t p y)) (Ev.step ?_) (fun i hi he v hv => Ev.step ?_) (fun i hi he => Ev.step ?_))
      · simp only [spec_SameFor.l26]
        exact Ev.ite_neg (by omega) (Ev.ret _)
      all_goals
        simp only [spec_SameFor.l26, wrap_succ hi (by omega), rd_T144, Int.toNat_natCast]
        refine Ev.ite_pos (lt_in hi) (Ev.ite_pos ge_0 (Ev.ite_pos (lt_in hi) (Ev.ite_pos ge_0 (Ev.ite_pos (by omega) ?_))))
      · exact Ev.ite_pos he hv
      · exact Ev.ite_neg he (Ev.ret _)
    · exact Ev.ite_neg (by omega) (Ev.cast (Ev.ret _) (by
        have : ¬ cmdsV t p x = cmdsV t p y := fun e => c1 (by rw [e])
        simp [this]))
  all_goals
    have hq := closure_mem g1 p _ (getD_mem (z := 0) hi)
    simp only [spec_SameFor.l10, wrap_succ hi (by omega), rd, rd_ListListInt, Int.toNat_natCast]
    generalize (closure t p).getD i 0 = q at *
    have hqa : q.toNat < a.length := by omega
    have hqb : q.toNat < b.length := by omega
    refine Ev.ite_pos (lt_in hi) (Ev.ite_pos ge_0 (Ev.ite_pos (lt_in hi) (Ev.ite_pos hq.1 (Ev.ite_pos (by omega) (Ev.ite_pos ge_0 (Ev.ite_pos (lt_in hi) (Ev.ite_pos hq.1 (Ev.ite_pos (by omega) (Ev.bind (sameSpec _ _ (ha.2 _ (getD_mem hqa)) (hba _ (getD_mem hqa)) (hbb _ (getD_mem hqb))) ?_)))))))))
  · exact Ev.and_true fun _ => hv
  · exact Ev.ite_neg (by simpa using he) (Ev.ret _)
theorem implCore (h : goodC t p a b x y) : Ev (fun k => impl_SameFor.l8 k p a x b y ((closure t p).length : Int) 0 t (closure t p)) (coreV t p a b x y) := by
  obtain ⟨g1, g2, g3, g4, g5, g6⟩ := h
  have hlen := closure_len g1 p
  have hxl := cmdsV_len t p x
  have hyl := cmdsV_len t p y
  simp only [imagesB, Bool.and_eq_true, decide_eq_true_eq] at g3 g4
  refine Ev.all (closure t p) 0 (fun q => decide (a.getD q.toNat [] = b.getD q.toNat [])) (fun k i => impl_SameFor.l8 k p a x b y ((closure t p).length : Int) i t (closure t p)) _ (fun _ => Ev.step ?_) (fun i hi v hv => Ev.step ?_) (fun i hi he => Ev.step ?_)
  · simp only [impl_SameFor.l8]
    refine Ev.ite_neg (by omega) (Ev.bind (implcmds_ev hs g1 p g2 x (by omega)) (Ev.bind (implcmds_ev hs g1 p g2 y (by omega)) (Ev.bind ?_ (Ev.ret _))))
    unfold slices_Equal_123.f
    by_cases c1 : (cmdsV t p x).length = (cmdsV t p y).length
    · refine Ev.ite_pos (by omega) (eqloop z144 _ _ c1 (fun k i => slices_Equal_123.l8 k (cmdsV t p x) (cmdsV t p y) ((cmdsV t p x).length : Int) i) (Ev.step ?_) (fun i hi he v hv => Ev.step ?_) (fun i hi he => Ev.step ?_))
      · simp only [slices_Equal_123.l8]
        exact Ev.ite_neg (by omega) (Ev.ret _)
      all_goals
        simp only [slices_Equal_123.l8, wrap_succ hi (by omega), rd_T144, Int.toNat_natCast]
        refine Ev.ite_pos (lt_in hi) (Ev.ite_pos ge_0 (Ev.ite_pos (lt_in hi) (Ev.ite_pos ge_0 (Ev.ite_pos (by omega) ?_))))
      · exact Ev.ite_pos he hv
      · exact Ev.ite_neg he (Ev.ret _)
    · exact Ev.ite_neg (by omega) (Ev.cast (Ev.ret _) (by
        have : ¬ cmdsV t p x = cmdsV t p y := fun e => c1 (by rw [e])
        simp [this]))
  all_goals
    have hq := closure_mem g1 p _ (getD_mem (z := 0) hi)
    simp only [impl_SameFor.l8, wrap_succ hi (by omega), rd, rd_ListListInt, Int.toNat_natCast]
    generalize (closure t p).getD i 0 = q at *
    have hqa : q.toNat < a.length := by omega
    have hqb : q.toNat < b.length := by omega
    refine Ev.ite_pos (lt_in hi) (Ev.ite_pos ge_0 (Ev.ite_pos (lt_in hi) (Ev.ite_pos hq.1 (Ev.ite_pos (by omega) (Ev.ite_pos hq.1 (Ev.ite_pos (by omega) (Ev.bind (sameImpl _ _ (ha.2 _ (getD_mem hqa))) ?_)))))))
  · exact Ev.and_true fun _ => hv
  · exact Ev.ite_neg (by simpa using he) (Ev.ret _)
theorem specSame : Ev (fun k => spec_SameFor.f k t p a x b y) (sameV t p a b x y) := by
  have hp := hs.parts
  unfold spec_SameFor.f
  rw [wrap_of (by omega) (by omega)]
  simp only [l01In_some, Option.bind_some]
  have no : ¬ goodC t p a b x y → Ev (fun _ => some false) (sameV t p a b x y) := fun h => Ev.cast (Ev.ret _) (by unfold sameV; rw [if_neg h])
  refine Ev.bind (specImages t a hs ha hnm) (Ev.ite_both (fun h1 => Ev.bind (specImages t b hs hb hnm) (Ev.ite_both (fun h2 => Ev.ite_both (fun h3 => no fun h => h.2.2.2.2.1 h3) fun h3 => Ev.ite_both (fun h4 => no fun h => h.2.2.2.2.2 h4) fun h4 => Ev.ite_both (fun h5 => ?_) fun h5 => no fun h => h5 h.2.1) fun h2 => no fun h => h2 (by rw [h.1, h.2.2.2.1]; rfl))) fun h1 => no fun h => h1 (by rw [h.1, h.2.2.1]; rfl))
  rw [Bool.and_eq_true] at h1 h2
  have hg : goodC t p a b x y := ⟨h1.1, h5, h1.2, h2.2, h3, h4⟩
  have hj : joinedV t p = closure t p := by unfold joinedV; rw [if_pos h1.1, if_pos h5]
  have := specJoined t hs hnm p
  rw [hj] at this
  refine Ev.bind this (Ev.cast (specCore t hs hnm p a b x y ha hb hba hbb hg) ?_)
  unfold sameV
  rw [if_pos hg]
theorem implSame : Ev (fun k => impl_SameFor.f k t p a x b y) (sameV t p a b x y) := by
  have hp := hs.parts
  unfold impl_SameFor.f
  rw [wrap_of (by omega) (by omega)]
  simp only [within_some, Option.bind_some]
  have no : ¬ goodC t p a b x y → Ev (fun _ => some false) (sameV t p a b x y) := fun h => Ev.cast (Ev.ret _) (by unfold sameV; rw [if_neg h])
  refine Ev.bind (implSound t hs hnm) (Ev.ite_both (fun h0 => Ev.ite_both (fun h5 => Ev.bind (implImages t a hs ha) (Ev.ite_both (fun h1 => Ev.bind (implImages t b hs hb) (Ev.ite_both (fun h2 => Ev.ite_both (fun h3 => no fun h => h.2.2.2.2.1 h3) fun h3 => Ev.ite_both (fun h4 => no fun h => h.2.2.2.2.2 h4) fun h4 => ?_) fun h2 => no fun h => h2 h.2.2.2.1)) fun h1 => no fun h => h1 h.2.2.1)) fun h5 => no fun h => h5 h.2.1) fun h0 => no fun h => h0 h.1)
  have hg : goodC t p a b x y := ⟨h0, h5, h1, h2, h3, h4⟩
  have hp' := in_iff.1 h5
  refine Ev.bind (implJoined h0 p (by omega)) (Ev.cast (implCore t hs hnm p a b x y ha hb hba hbb hg) ?_)
  unfold sameV
  rw [if_pos hg]
end

theorem fit_byt3 {l : List (List (List Int))} (h : Fits (.sl (.sl (.sl (.int .u8)))) l) : ∀ z ∈ l, ∀ w ∈ z, Byt w := fun z hz w hw => fit_byt ((h.2 z hz).2 w hw)
theorem szCmds_v (l : List S146) (hl : l.length ≤ 9223372036854775807) (u : Int) (h0 : 0 ≤ u) (h1 : u ≤ 1048576) : ∃ v, laws_szCmdS.f l u = some v ∧ v ≤ u ∧ (0 ≤ v → l.length ≤ 1048576) := by
  have e : wrap64 (u - (l.length : Int)) = u - (l.length : Int) := wrap_of (by omega) (by omega)
  unfold laws_szCmdS.f
  rw [e]
  by_cases c : u - (l.length : Int) < 0
  · exact ⟨-1, by rw [if_pos c], by omega, fun h => absurd h (by omega)⟩
  · exact ⟨_, by rw [if_neg c], by omega, fun h => by omega⟩
theorem pure_FnExactSameFor : ∀ (x0 : T31.den) (x1 : Int) (x2 : List (List (List Int))) (x3 : List S146) (x4 : List (List (List Int))) (x5 : List S146), Fits T31 x0 → Fits (.int .i64) x1 → Fits (.sl (.sl (.sl (.int .u8)))) x2 → Fits (.sl T146) x3 → Fits (.sl (.sl (.sl (.int .u8)))) x4 → Fits (.sl T146) x5 → ∃ k, laws_FnExactSameFor.c.fn k (x0, x1, x2, x3, x4, x5, ()) () = some true := by
  intro t p a x b y h _ fa fx fb fy
  refine Ev.get (g := fun k => laws_FnExactSameFor.f k t p a x b y) ?_
  have hmx : maxLen ≤ 9223372036854775807 := by unfold maxLen; omega
  obtain ⟨v, hv, hb⟩ := szTables_ev' t h
  unfold laws_FnExactSameFor.f
  refine Ev.bind hv ?_
  by_cases c : v < 0
  · exact Ev.ite_pos c (Ev.ret _)
  obtain ⟨hs, hle⟩ := hb (by omega)
  have hnm := names_fit t h
  refine Ev.ite_neg c ?_
  obtain ⟨v2, hv2, hle2, hb2⟩ := szByteSSS_v a (fit_big3 fa) v (by omega) hle
  refine Ev.bind hv2 ?_
  by_cases c2 : v2 < 0
  · exact Ev.ite_pos c2 (Ev.ret _)
  refine Ev.ite_neg c2 ?_
  have hx0 : x.length ≤ maxLen := fx.1
  obtain ⟨v3, hv3, hle3, hb3⟩ := szCmds_v x (by omega) v2 (by omega) (by omega)
  refine Ev.bind (Ev.of hv3) ?_
  by_cases c3 : v3 < 0
  · exact Ev.ite_pos c3 (Ev.ret _)
  refine Ev.ite_neg c3 ?_
  obtain ⟨v4, hv4, hle4, hb4⟩ := szByteSSS_v b (fit_big3 fb) v3 (by omega) (by omega)
  refine Ev.bind hv4 ?_
  by_cases c4 : v4 < 0
  · exact Ev.ite_pos c4 (Ev.ret _)
  refine Ev.ite_neg c4 ?_
  have hy0 : y.length ≤ maxLen := fy.1
  obtain ⟨v5, hv5, hle5, hb5⟩ := szCmds_v y (by omega) v4 (by omega) (by omega)
  refine Ev.bind (Ev.of hv5) ?_
  by_cases c5 : v5 < 0
  · exact Ev.ite_pos c5 (Ev.ret _)
  refine Ev.ite_neg c5 ?_
  have sa := hb2 (by omega)
  have sx := hb3 (by omega)
  have sb := hb4 (by omega)
  have sy := hb5 (by omega)
  have ht := toTables_ev t hs
  have ta := toByteSSS_ev a sa
  have tb := toByteSSS_ev b sb
  have tx := toCmdS_ev x sx
  have ty := toCmdS_ev y sy
  have h1 := specSame t hs hnm p a b x y sa sb (fit_byt3 fa) (fit_byt3 fb)
  have h2 := implSame t hs hnm p a b x y sa sb (fit_byt3 fa) (fit_byt3 fb)
  exact Ev.bind ht (Ev.bind ta (Ev.bind tx (Ev.bind tb (Ev.bind ty (Ev.bind h1 (Ev.bind ht (Ev.bind ta (Ev.bind tx (Ev.bind tb (Ev.bind ty (Ev.bind h2 (Ev.ite_pos (by simp) (Ev.bind ht (Ev.bind (eqTables_ev t hs) (Ev.ite_pos rfl (Ev.bind ta (Ev.bind (eqByteSSS_ev a sa) (Ev.ite_pos rfl (Ev.bind tx (Ev.bind (eqCmdS_ev x sx) (Ev.ite_pos rfl (Ev.bind tb (Ev.bind (eqByteSSS_ev b sb) (Ev.ite_pos rfl (Ev.bind ty (Ev.bind (eqCmdS_ev y sy) (Ev.ite_pos rfl (Ev.ret _))))))))))))))))))))))))))))
end Go.Proofs.YtgagpmiooeoodaaGreat.PTwo
