/- Plain Lean over the printed functions: windows and guests (reference), faults, loads and stores. -/
import Derived.Test.YtgnhojiogkeepaaKD20
set_option linter.unusedVariables false
set_option linter.unusedSimpArgs false
set_option linter.unusedSectionVars false
namespace Go.Proofs.Ytgnhojiogkeepaa.PPo
open Go Go.RowKit Go.Proofs.Ytgnhojiogkeepaa.V Go.Proofs.Ytgnhojiogkeepaa.C

theorem has_in {w : S40} (h : windowB w = true) (a : Int) : hasB w a = true ↔ w.f0 ≤ a ∧ a < w.f0 + w.f1 := by
  have := window_in.1 h
  simp only [hasB, decide_eq_true_eq]
  rw [wrap_of (by omega) (by omega)]
theorem apart_in {x y : S40} (hx : windowB x = true) (hy : windowB y = true) : apartB x y = true ↔ x.f0 + x.f1 ≤ y.f0 ∨ y.f0 + y.f1 ≤ x.f0 := by
  have h1 := window_in.1 hx
  have h2 := window_in.1 hy
  simp only [apartB, decide_eq_true_eq]
  rw [wrap_of (by omega) (by omega), wrap_of (by omega) (by omega)]
theorem tmod_4 {a : Int} (h : 0 ≤ a) : a.tmod 4 = 0 ↔ a % 4 = 0 := by rw [Int.tmod_eq_emod_of_nonneg h]

theorem apart_ev {x y : S40} (hx : windowB x = true) (hy : windowB y = true) : Ev (fun k => spec_Apart.f k x y) (apartB x y) := by
  have h1 := window_in.1 hx
  have h2 := window_in.1 hy
  have m1 := (tmod_4 h1.1).1 h1.2.2.2.1
  have m2 := (tmod_4 h2.1).1 h2.2.2.2.1
  unfold spec_Apart.f
  simp only [specWindow, Option.bind_some]
  refine Ev.ite_pos hx (Ev.ite_pos hy ?_)
  cases hb : apartB x y
  · have hn : ¬ (x.f0 + x.f1 ≤ y.f0 ∨ y.f0 + y.f1 ≤ x.f0) := fun h => by rw [(apart_in hx hy).2 h] at hb; cases hb
    obtain ⟨c, hc⟩ : ∃ c : Nat, (4 * c : Int) = (if x.f0 < y.f0 then y.f0 else x.f0) := ⟨((if x.f0 < y.f0 then y.f0 else x.f0) / 4).toNat, by split <;> omega⟩
    have key : ∀ (m j : Nat), j + m = c → Ev (fun k => spec_Apart.l8 k (4 * (j : Int)) x y) false := by
      intro m
      induction m with
      | zero =>
        intro j hj
        refine Ev.step ?_
        simp only [spec_Apart.l8, has_some, Option.bind_some]
        refine Ev.ite_pos (by split at hc <;> omega) (Ev.ite_pos ((has_in hx _).2 (by split at hc <;> omega)) (Ev.ite_pos ((has_in hy _).2 (by split at hc <;> omega)) (Ev.ret _)))
      | succ m ih =>
        intro j hj
        refine Ev.step ?_
        have hw : wrap64 (4 * (j : Int) + 4) = 4 * ((j + 1 : Nat) : Int) := by rw [wrap_of (by split at hc <;> omega) (by split at hc <;> omega)]; omega
        simp only [spec_Apart.l8, has_some, Option.bind_some, hw]
        refine Ev.ite_pos (by split at hc <;> omega) ?_
        by_cases hX : hasB x (4 * (j : Int)) = true
        · refine Ev.ite_pos hX (Ev.ite_neg (fun hY => ?_) (ih (j + 1) (by omega)))
          have e1 := (has_in hx _).1 hX
          have e2 := (has_in hy _).1 hY
          split at hc <;> omega
        · exact Ev.ite_neg hX (ih (j + 1) (by omega))
    exact key c 0 (Nat.zero_add _)
  · have hn := (apart_in hx hy).1 hb
    have key : ∀ (m j : Nat), j + m = 512 → Ev (fun k => spec_Apart.l8 k (4 * (j : Int)) x y) true := by
      intro m
      induction m with
      | zero =>
        intro j hj
        refine Ev.step ?_
        simp only [spec_Apart.l8]
        exact Ev.ite_neg (by omega) (Ev.ret _)
      | succ m ih =>
        intro j hj
        refine Ev.step ?_
        have hw : wrap64 (4 * (j : Int) + 4) = 4 * ((j + 1 : Nat) : Int) := by rw [wrap_of (by omega) (by omega)]; omega
        simp only [spec_Apart.l8, has_some, Option.bind_some, hw]
        refine Ev.ite_pos (by omega) ?_
        by_cases hX : hasB x (4 * (j : Int)) = true
        · refine Ev.ite_pos hX (Ev.ite_neg (fun hY => ?_) (ih (j + 1) (by omega)))
          have e1 := (has_in hx _).1 hX
          have e2 := (has_in hy _).1 hY
          omega
        · exact Ev.ite_neg hX (ih (j + 1) (by omega))
    exact key 512 0 (Nat.zero_add _)

theorem specWins (l : List S40) (hl : l.length ≤ 4) : ∀ (n i : Nat), i + n = l.length → (∀ j, j < i → windowB (l.getD j z40) = true ∧ ∀ v ∈ l.take j, apartB v (l.getD j z40) = true) →
    ∃ b, Ev (fun k => spec_WindowsOk.l8 k l (i : Int)) b ∧ (b = true → WinsOk l) ∧ (WinsOk l → b = true) := by
  intro n
  induction n with
  | zero =>
    intro i hi h
    refine ⟨true, Ev.step ?_, fun _ => ⟨hl, fun j hj => (h j (by omega)).1, fun j hj => (h j (by omega)).2⟩, fun _ => rfl⟩
    simp only [spec_WindowsOk.l8]
    exact Ev.ite_neg (by omega) (Ev.ret _)
  | succ n ih =>
    intro i hi h
    have hlt : i < l.length := by omega
    have inner : windowB (l.getD i z40) = true → ∀ (m j : Nat), j + m = i → (∀ v ∈ l.take j, apartB v (l.getD i z40) = true) → ∃ b, Ev (fun k => spec_WindowsOk.l18 k l (i : Int) (j : Int)) b ∧ (b = true → WinsOk l) ∧ (WinsOk l → b = true) := by
      intro hwi m
      induction m with
      | zero =>
        intro j hj hv
        obtain rfl : j = i := by omega
        obtain ⟨b, hb1, hb2⟩ := ih (j + 1) (by omega) (fun q hq => by
          rcases Nat.lt_or_ge q j with h1 | h1
          · exact h q h1
          · obtain rfl : q = j := by omega
            exact ⟨hwi, hv⟩)
        refine ⟨b, Ev.step ?_, hb2⟩
        simp only [spec_WindowsOk.l18, wrap_succ hlt (by omega)]
        exact Ev.ite_neg (by omega) hb1
      | succ m ihm =>
        intro j hj hv
        have hjl : j < l.length := by omega
        have hwj := (h j (by omega)).1
        have ha := apart_ev hwj hwi
        cases hb : apartB (l.getD j z40) (l.getD i z40)
        · refine ⟨false, Ev.step ?_, (fun e => by cases e), fun hW => ?_⟩
          rotate_left
          · have := hW.apart i hlt (l.getD j z40) (by
              rw [List.getD_eq_getElem?_getD, List.getElem?_eq_getElem hjl, List.mem_take_iff_getElem]
              exact ⟨j, by omega, rfl⟩)
            rw [hb] at this
            cases this
          simp only [spec_WindowsOk.l18, rd_T40, Int.toNat_natCast]
          rw [hb] at ha
          exact Ev.ite_pos (by omega) (Ev.ite_pos ge_0 (Ev.ite_pos (lt_in hjl) (Ev.ite_pos ge_0 (Ev.ite_pos (lt_in hlt) (Ev.bind ha (Ev.ite_neg (by simp) (Ev.ret _)))))))
        · obtain ⟨b, hb1, hb2⟩ := ihm (j + 1) (by omega) (fun v hv' => by
            rw [List.take_succ_eq_append_getElem hjl] at hv'
            rcases List.mem_append.1 hv' with h1 | h1
            · exact hv v h1
            · rw [List.mem_singleton.1 h1]
              have e : l.getD j z40 = l[j] := by rw [List.getD_eq_getElem?_getD, List.getElem?_eq_getElem hjl]; rfl
              rw [← e]
              exact hb)
          refine ⟨b, Ev.step ?_, hb2⟩
          simp only [spec_WindowsOk.l18, rd_T40, Int.toNat_natCast, wrap_succ hjl (by omega)]
          rw [hb] at ha
          exact Ev.ite_pos (by omega) (Ev.ite_pos ge_0 (Ev.ite_pos (lt_in hjl) (Ev.ite_pos ge_0 (Ev.ite_pos (lt_in hlt) (Ev.bind ha (Ev.ite_pos rfl hb1))))))
    cases hw : windowB (l.getD i z40)
    · refine ⟨false, Ev.step ?_, (fun e => by cases e), fun hW => by have := hW.win i hlt; rw [hw] at this; cases this⟩
      simp only [spec_WindowsOk.l8, rd_T40, Int.toNat_natCast, specWindow, Option.bind_some, hw]
      exact Ev.ite_pos (lt_in hlt) (Ev.ite_pos ge_0 (Ev.ite_pos (lt_in hlt) (Ev.ite_neg (by simp) (Ev.ret _))))
    · obtain ⟨b, hb1, hb2⟩ := inner hw i 0 (by omega) (by simp)
      refine ⟨b, Ev.step ?_, hb2⟩
      simp only [spec_WindowsOk.l8, rd_T40, Int.toNat_natCast, specWindow, Option.bind_some, hw]
      exact Ev.ite_pos (lt_in hlt) (Ev.ite_pos ge_0 (Ev.ite_pos (lt_in hlt) (Ev.ite_pos (by trivial) hb1)))
theorem specWins_ev (l : List S40) (hl : l.length ≤ 4) : ∃ b, Ev (fun k => spec_WindowsOk.f k l) b ∧ (b = true → WinsOk l) ∧ (WinsOk l → b = true) := by
  obtain ⟨b, h1, h2⟩ := specWins l hl l.length 0 (by omega) (fun j hj => absurd hj (by omega))
  refine ⟨b, ?_, h2⟩
  unfold spec_WindowsOk.f
  exact Ev.ite_neg (by omega) h1
theorem specGuest_ev (l : List S40) (hl : l.length ≤ 4) (g : S29) : ∃ b, Ev (fun k => spec_GuestOk.f k l g) b ∧ (b = true → Ev (fun k => spec_WindowsOk.f k l) true ∧ WinsOk l ∧ GuestIn l g) := by
  obtain ⟨b, h1, h2, _⟩ := specWins_ev l hl
  unfold spec_GuestOk.f
  simp only [lenZ_eq]
  cases b
  · exact ⟨false, Ev.bind h1 (Ev.ite_neg (by simp) (Ev.ret _)), fun e => by cases e⟩
  have hW := h2 rfl
  by_cases c1 : (g.f0.length : Int) = 16
  case neg => exact ⟨false, Ev.bind h1 (Ev.ite_pos rfl (Ev.ite_neg c1 (Ev.ret _))), fun e => by cases e⟩
  by_cases c2 : g.f0.getD 0 0 = 0
  case neg => exact ⟨false, Ev.bind h1 (Ev.ite_pos rfl (Ev.ite_pos c1 (Ev.ite_pos (by omega) (Ev.ite_neg c2 (Ev.ret _))))), fun e => by cases e⟩
  by_cases c3 : (g.f2.length : Int) = (l.length : Int)
  case neg => exact ⟨false, Ev.bind h1 (Ev.ite_pos rfl (Ev.ite_pos c1 (Ev.ite_pos (by omega) (Ev.ite_pos c2 (Ev.ite_neg c3 (Ev.ret _)))))), fun e => by cases e⟩
  have key : ∀ (n i : Nat), i + n = l.length → (∀ j, j < i → ((g.f2.getD j []).length : Int) = (l.getD j z40).f1) → ∃ b, Ev (fun k => spec_GuestOk.l8 k l (i : Int) g) b ∧ (b = true → GuestIn l g) := by
    intro n
    induction n with
    | zero =>
      intro i hi h
      refine ⟨true, Ev.step ?_, fun _ => ⟨by omega, c2, by omega, fun j hj => h j (by omega)⟩⟩
      simp only [spec_GuestOk.l8]
      exact Ev.ite_neg (by omega) (Ev.ret _)
    | succ n ih =>
      intro i hi h
      have hlt : i < l.length := by omega
      by_cases c : ((g.f2.getD i []).length : Int) = (l.getD i z40).f1
      · obtain ⟨b, hb1, hb2⟩ := ih (i + 1) (by omega) (fun j hj => by
          rcases Nat.lt_or_ge j i with h1 | h1
          · exact h j h1
          · obtain rfl : j = i := by omega
            exact c)
        refine ⟨b, Ev.step ?_, hb2⟩
        simp only [spec_GuestOk.l8, rd_T40, rd_ListInt, Int.toNat_natCast, wrap_succ hlt (by omega)]
        exact Ev.ite_pos (lt_in hlt) (Ev.ite_pos ge_0 (Ev.ite_pos (by omega) (Ev.ite_pos ge_0 (Ev.ite_pos (lt_in hlt) (Ev.ite_pos c hb1)))))
      · refine ⟨false, Ev.step ?_, fun e => by cases e⟩
        simp only [spec_GuestOk.l8, rd_T40, rd_ListInt, Int.toNat_natCast]
        exact Ev.ite_pos (lt_in hlt) (Ev.ite_pos ge_0 (Ev.ite_pos (by omega) (Ev.ite_pos ge_0 (Ev.ite_pos (lt_in hlt) (Ev.ite_neg c (Ev.ret _))))))
  obtain ⟨b, hb1, hb2⟩ := key l.length 0 (by omega) (fun j hj => absurd hj (by omega))
  exact ⟨b, Ev.bind h1 (Ev.ite_pos rfl (Ev.ite_pos c1 (Ev.ite_pos (by omega) (Ev.ite_pos c2 (Ev.ite_pos c3 hb1))))), fun e => ⟨h1, hW, hb2 e⟩⟩

/-! ### What stands against an access -/
def atV (ws : List S40) (a : Int) : Int := idxOf (fun v => hasB v a) ws 0
def faultV (ws : List S40) (a size kind : Int) : Int :=
  if a.tmod size = 0 then if atV ws a < 0 then 2 else if bitAnd .i64 (ws.getD (atV ws a).toNat z40).f2 kind = 0 then 3 else 0 else 1
theorem bit_eq (x kind : Int) (h1 : 1 ≤ x ∧ x ≤ 7) (hk : kind = 1 ∨ kind = 2) : (wrap64 (x.tdiv kind)).tmod 2 = 0 ↔ bitAnd .i64 x kind = 0 := by
  obtain rfl | rfl | rfl | rfl | rfl | rfl | rfl : x = 1 ∨ x = 2 ∨ x = 3 ∨ x = 4 ∨ x = 5 ∨ x = 6 ∨ x = 7 := by omega
  all_goals
    rcases hk with rfl | rfl <;> decide +kernel
theorem at_lt (ws : List S40) (a : Int) (h : ¬ atV ws a < 0) : ∃ n : Nat, atV ws a = n ∧ n < ws.length ∧ hasB (ws.getD n z40) a = true := by
  rcases idxOf_find (fun v => hasB v a) z40 ws 0 with ⟨h1, _⟩ | ⟨j, h1, h2, h3, _⟩
  · exact absurd (show atV ws a < 0 by have : atV ws a = -1 := h1; omega) h
  · exact ⟨j, by have : atV ws a = ((0 + j : Nat) : Int) := h2; omega, h1, h3⟩
section
variable (ws : List S40) (h : WinsOk ws) {a : Int} (ha : 0 ≤ a ∧ a ≤ 4294967295)
include h ha
theorem implFault {size kind : Int} (hs : size = 1 ∨ size = 4) (hk : kind = 1 ∨ kind = 2) : Ev (fun k => impl_faultAt.f k ws a size kind) (faultV ws a size kind) := by
  have hl := h.len
  have hw : Ev (fun k => impl_windowAt.f k ws a) (atV ws a) := windowAt_ev ws a (by omega)
  have tail : Ev (fun k => if Int.tmod a size = 0 then ((impl_windowAt.f k ws a).bind fun t1 => (if t1 < 0 then (some 2) else (if 0 ≤ t1 then (if t1 < (ws.length : Int) then (if (bitAnd .i64 ((rd_T40 ws t1).f2) kind) = 0 then (some 3) else (some 0)) else none) else none))) else (some 1)) (faultV ws a size kind) := by
    unfold faultV
    by_cases c : a.tmod size = 0
    case neg => rw [if_neg c]; exact Ev.ite_neg c (Ev.ret _)
    rw [if_pos c]
    refine Ev.ite_pos c (Ev.bind hw ?_)
    by_cases d : atV ws a < 0
    · have ev : (if atV ws a < 0 then (2 : Int) else if bitAnd .i64 (ws.getD (atV ws a).toNat z40).f2 kind = 0 then 3 else 0) = 2 := if_pos d
      rw [ev]; exact Ev.ite_pos d (Ev.ret _)
    have ev : (if atV ws a < 0 then (2 : Int) else if bitAnd .i64 (ws.getD (atV ws a).toNat z40).f2 kind = 0 then 3 else 0) = (if bitAnd .i64 (ws.getD (atV ws a).toNat z40).f2 kind = 0 then (3 : Int) else 0) := if_neg d
    rw [ev]
    obtain ⟨n, e1, e2, _⟩ := at_lt ws a d
    refine Ev.ite_neg d (Ev.ite_pos (by omega) (Ev.ite_pos (by omega) ?_))
    by_cases e : bitAnd .i64 (ws.getD (atV ws a).toNat z40).f2 kind = 0
    · have ev2 : (if bitAnd .i64 (ws.getD (atV ws a).toNat z40).f2 kind = 0 then (3 : Int) else 0) = 3 := if_pos e
      rw [ev2]; exact Ev.ite_pos e (Ev.ret _)
    · have ev2 : (if bitAnd .i64 (ws.getD (atV ws a).toNat z40).f2 kind = 0 then (3 : Int) else 0) = 0 := if_neg e
      rw [ev2]; exact Ev.ite_neg e (Ev.ret _)
  unfold impl_faultAt.f
  rw [wrap_of (a := a) (by omega) (by omega)]
  rcases hs with rfl | rfl <;> rcases hk with rfl | rfl
  · exact Ev.ite_pos rfl (Ev.ite_pos rfl (Ev.ite_neg (by decide) tail))
  · exact Ev.ite_pos rfl (Ev.ite_neg (by decide) (Ev.ite_pos rfl (Ev.ite_neg (by decide) tail)))
  · exact Ev.ite_neg (by decide) (Ev.ite_pos rfl (Ev.ite_pos rfl (Ev.ite_neg (by decide) tail)))
  · exact Ev.ite_neg (by decide) (Ev.ite_pos rfl (Ev.ite_neg (by decide) (Ev.ite_pos rfl (Ev.ite_neg (by decide) tail))))
theorem specFault (hW : Ev (fun k => spec_WindowsOk.f k ws) true) {size kind : Int} (hs : size = 1 ∨ size = 4) (hk : kind = 1 ∨ kind = 2) : Ev (fun k => spec_FaultAt.f k ws a size kind) (faultV ws a size kind) := by
  have hl := h.len
  have hw : Ev (fun k => spec_l07At.f k ws a) (atV ws a) := spec_at ws a (by omega)
  have tail : Ev (fun k => spec_l07Fault.f k ws a size kind) (faultV ws a size kind) := by
    unfold spec_l07Fault.f faultV
    rw [wrap_of (a := a) (by omega) (by omega)]
    refine Ev.ite_neg (by omega) ?_
    by_cases c : a.tmod size = 0
    case neg => rw [if_neg c]; exact Ev.ite_neg c (Ev.ret _)
    rw [if_pos c]
    refine Ev.ite_pos c (Ev.bind hw ?_)
    by_cases d : atV ws a < 0
    · have ev : (if atV ws a < 0 then (2 : Int) else if bitAnd .i64 (ws.getD (atV ws a).toNat z40).f2 kind = 0 then 3 else 0) = 2 := if_pos d
      rw [ev]; exact Ev.ite_pos d (Ev.ret _)
    have ev : (if atV ws a < 0 then (2 : Int) else if bitAnd .i64 (ws.getD (atV ws a).toNat z40).f2 kind = 0 then 3 else 0) = (if bitAnd .i64 (ws.getD (atV ws a).toNat z40).f2 kind = 0 then (3 : Int) else 0) := if_neg d
    rw [ev]
    obtain ⟨n, e1, e2, _⟩ := at_lt ws a d
    have hwi := window_in.1 (h.win n e2)
    have hb := bit_eq (ws.getD n z40).f2 kind (by omega) hk
    refine Ev.ite_neg d (Ev.ite_pos (by omega) (Ev.ite_pos (by omega) (Ev.ite_neg (by omega) ?_)))
    rw [e1]
    simp only [rd_T40, Int.toNat_natCast]
    by_cases e : bitAnd .i64 (ws.getD n z40).f2 kind = 0
    · have ev2 : (if bitAnd .i64 (ws.getD n z40).f2 kind = 0 then (3 : Int) else 0) = 3 := if_pos e
      rw [ev2]; exact Ev.ite_pos (hb.2 e) (Ev.ret _)
    · have ev2 : (if bitAnd .i64 (ws.getD n z40).f2 kind = 0 then (3 : Int) else 0) = 0 := if_neg e
      rw [ev2]; exact Ev.ite_neg (fun e' => e (hb.1 e')) (Ev.ret _)
  have tail2 : Ev (fun k => (spec_l07Fault.f k ws a size kind).bind fun t => some t) (faultV ws a size kind) := Ev.bind tail (Ev.ret _)
  unfold spec_FaultAt.f
  refine Ev.bind hW (Ev.ite_pos rfl ?_)
  rcases hs with rfl | rfl <;> rcases hk with rfl | rfl
  · exact Ev.ite_pos rfl (Ev.ite_pos rfl tail2)
  · exact Ev.ite_pos rfl (Ev.ite_neg (by decide) (Ev.ite_pos rfl tail2))
  · exact Ev.ite_neg (by decide) (Ev.ite_pos rfl (Ev.ite_pos rfl tail2))
  · exact Ev.ite_neg (by decide) (Ev.ite_pos rfl (Ev.ite_neg (by decide) (Ev.ite_pos rfl tail2)))
end
end Go.Proofs.Ytgnhojiogkeepaa.PPo
