/- What a function's contract follows from. -/
import Derived.Test.YtcjfheidmlcbfaaGreatDoorSV9
set_option linter.unusedVariables false
set_option linter.unusedSimpArgs false
set_option linter.unusedSectionVars false
namespace Go.Proofs.YtcjfheidmlcbfaaGreatDoor.V
open Go.RowKit

section
variable {P : Program} {R : Type} {C : Cx} {r : R}

/-- Memory, of what it was when the function was entered; np blocks were handed over. -/
structure Fr0 (np : Nat) (C0 C : Cx) : Prop where
  B : C.B = C0.B
  X : C.X = C0.X
  chg : ChgB C0.B C0.w C.w (fun g p => C0.Own g p)
  S : ∀ g p, C.S g p → C0.S g p ∨ C0.Own g p
  len : np ≤ C.H.length
  blk : ∀ b, b < np → C.sh b = C0.sh b ∧ C.ρ b = C0.ρ b

theorem Fr0.step {np : Nat} {C0 C C' : Cx} (h : Fr0 np C0 C) (hle : C.le C') (hf : Frm C C') : Fr0 np C0 C' := by
  have ho : ∀ g p, C.Own g p → C0.Own g p := fun g p q => by unfold Cx.Own at *; rw [h.B, h.X] at q; exact q
  refine ⟨hle.B.trans h.B, hle.X.trans h.X, h.chg.trans (h.B ▸ hf.chg.mono ho), fun g p hs => ?_, Nat.le_trans h.len hle.len, fun b hb => ?_⟩
  · rcases hf.S g p hs with k | k
    · exact h.S g p k
    · exact .inr (ho g p k)
  · obtain ⟨k1, k2⟩ := hle.blk b (Nat.lt_of_lt_of_le hb h.len)
    obtain ⟨k3, k4⟩ := h.blk b hb
    exact ⟨k1.trans k3, k2.trans k4⟩
theorem Fr0.ren {np : Nat} {C0 C : Cx} (h : Fr0 np C0 C) {vs : List AV} : Fr0 np C0 (C.ren (along np vs C.H)) := by
  refine ⟨h.B, h.X, h.chg, h.S, ?_, fun b hb => ?_⟩
  · have : np ≤ (along np vs C.H).length := by
      cases np with
      | zero => exact Nat.zero_le _
      | succ n => have := (List.getElem?_eq_some_iff.1 (along_get (np := n + 1) (vs := vs) (H := C.H) (Nat.lt_succ_self n))).1; omega
    simpa [Cx.ren] using this
  · obtain ⟨k1, _, k2, _⟩ := ren_at C (along_get (vs := vs) (H := C.H) hb)
    obtain ⟨k3, k4⟩ := h.blk b hb
    exact ⟨k2.trans k3, k1.trans k4⟩

def Cx.frs (C : Cx) : Cx := { C with S := fun g p => C.S g p ∧ C.Own g p }

theorem freshC_r {c : Cell} {u : Value} (hf : freshC c = true) (h : CellR C c u) : CellR C.frs c u := by
  cases c <;> try exact h
  case sl f t l =>
    simp only [freshC] at hf
    subst hf
    exact Rd.mono (S := C.Sf true) (fun g p hb => ⟨⟨hb.1, hb.2 rfl⟩, hb.2⟩) (fun _ _ _ _ h => h) (.sl t) _ _ h
  case sptr f t x o =>
    simp only [freshC] at hf
    subst hf
    exact SPtr.mono (S := C.Sf true) (fun g p hb => ⟨⟨hb.1, hb.2 rfl⟩, hb.2⟩) (fun _ _ _ _ h => h) h
  case fn f l =>
    cases l with
    | nil => obtain ⟨vs, hv, hc⟩ := h; exact ⟨vs, hv, by cases hq : vs.toList with | nil => trivial | cons a b => rw [hq] at hc; exact hc.elim⟩
    | cons a b => cases hf
theorem freshL_r : ∀ {l : List Cell} {vs : List Value}, fresh l = true → LR C l vs → LR C.frs l vs
  | [], [], _, _ => trivial
  | c :: l, _ :: _, hf, h => ⟨freshC_r ((fresh_iff _).1 hf c (by simp)) h.1, freshL_r ((fresh_iff _).2 fun d hd => (fresh_iff _).1 hf d (by simp [hd])) h.2⟩
  | [], _ :: _, _, h => h.elim
  | _ :: _, [], _, h => h.elim
theorem freshTL_r : ∀ {l : List (Bool × List Cell)} {vs : List Value}, (l.all fun p => fresh p.2) = true → TL C l vs → TL C.frs l vs
  | [], [], _, _ => trivial
  | (b, l) :: _, u :: _, hf, h => by
    simp only [List.all_cons, Bool.and_eq_true] at hf
    refine ⟨?_, freshTL_r hf.2 h.2⟩
    cases b
    · exact freshL_r (vs := [u]) hf.1 h.1
    · obtain ⟨vs, hv, hl⟩ := h.1; exact ⟨vs, hv, freshL_r hf.1 hl⟩
  | [], _ :: _, _, h => h.elim
  | _ :: _, [], _, h => h.elim
theorem freshA_r {v : AV} {u : Value} (hf : freshA v = true) (h : AVR C v u) : AVR C.frs v u := by
  cases v with
  | c x => exact freshC_r ((fresh_iff _).1 hf x (by simp)) h
  | agg l => obtain ⟨vs, hv, hl⟩ := h; exact ⟨vs, hv, freshL_r hf hl⟩
  | tup l => obtain ⟨vs, hv, hl⟩ := h; exact ⟨vs, hv, freshTL_r hf hl⟩
theorem HeapR.frs (hH : HeapR C) (hf : C.H.all freshB = true) : HeapR C.frs := by
  refine ⟨hH.base, fun g p hb => hH.st g p hb.1, fun b x hx => ?_, fun b g p h1 h2 => ⟨fun h => (hH.own b g p h1 h2).1 h.1, (hH.own b g p h1 h2).2⟩, hH.inj, hH.vl, hH.gl⟩
  have hx' : C.H[b]? = some x := hx
  have hb := hH.blk b x hx'
  have hfx := List.all_eq_true.1 hf x (List.mem_of_getElem? hx')
  cases x with
  | dead => trivial
  | cells ty l =>
    obtain ⟨h0, g, off, cs, ty', h1, h2, h3, h4⟩ := hb
    refine ⟨h0, g, off, cs, ty', h1, h2, h3, fun j c hc => ?_⟩
    rcases h4 j c hc with h5 | ⟨h5, u, h6, h7⟩
    · exact .inl h5
    · exact .inr ⟨h5, u, h6, freshC_r ((fresh_iff _).1 hfx c (List.mem_of_getElem? hc)) h7⟩
  | arr t l m v h =>
    obtain ⟨h0, h1, h2, h3⟩ := hb
    refine ⟨h0, h1, h2, ?_⟩
    cases h with
    | some q => exact h3
    | none =>
    rcases h3 with h3 | ⟨g, off, cap, h3, h4⟩
    · exact .inl h3
    · refine .inr ⟨g, off, cap, h3, ?_⟩
      cases m with
      | un => exact h4
      | fr =>
        intro i x hx
        obtain ⟨us, q1, q2⟩ := h4 i x hx
        exact ⟨us, q1, Rd.mono (S := C.Sf true) (fun g p hb => ⟨⟨hb.1, hb.2 rfl⟩, hb.2⟩) (fun _ _ _ _ h => h) _ _ _ q2⟩
      | sh => cases hfx
  | mix t l n => cases hfx
  | bld t u s => exact hH.blk b _ hx

/-! ### Rows of which the elements are made the row's own -/

def noN : Cell → Bool
  | .nst _ _ _ _ => false
  | .neptr _ _ _ _ _ _ => false
  | .nsv _ _ _ _ _ => false
  | _ => true
def noA : AV → Prop
  | .c x => noN x = true
  | .agg l => ∀ c ∈ l, noN c = true
  | .tup l => ∀ p ∈ l, ∀ c ∈ p.2, noN c = true
def noB : Blk → Prop
  | .cells _ l => ∀ c ∈ l, noN c = true
  | _ => True
theorem noN_ren (σ : List Nat) (c : Cell) : noN (renC σ c) = true := by
  cases c <;> simp only [renC] <;> first | rfl | (split <;> rfl)
theorem noA_ren (σ : List Nat) (v : AV) : noA (renA σ v) := by
  cases v with
  | c x => exact noN_ren σ x
  | agg l =>
    intro c hc
    obtain ⟨x, _, rfl⟩ := List.mem_map.1 hc
    exact noN_ren σ x
  | tup l =>
    intro p hp c hc
    obtain ⟨q, _, rfl⟩ := List.mem_map.1 hp
    obtain ⟨x, _, rfl⟩ := List.mem_map.1 hc
    exact noN_ren σ x
theorem noB_ren (σ : List Nat) (b : Blk) : noB (renB σ b) := by
  cases b <;> simp only [renB] <;> try trivial
  intro c hc
  obtain ⟨x, _, rfl⟩ := List.mem_map.1 hc
  exact noN_ren σ x
theorem noB_dem (m : Md) (b : Blk) (h : noB b) : noB (demB m b) := by
  cases b with
  | arr t l m' v q => cases q <;> cases m <;> cases m' <;> trivial
  | _ => exact h
theorem noB_dems : ∀ (ms : List Md) (l : List Blk), (∀ y ∈ l, noB y) → ∀ y ∈ demBs ms l, noB y
  | [], l, h => h
  | _ :: _, [], h => h
  | m :: ms, b :: l, h => by
    intro y hy
    simp only [demBs] at hy
    rcases List.mem_cons.1 hy with rfl | hy
    · exact noB_dem m b (h b (by simp))
    · exact noB_dems ms l (fun y hy => h y (by simp [hy])) y hy

theorem CellR.turn {H' : List Blk} {vn' : Nat → Option Nat} (hl : H'.length = C.H.length) {c : Cell} {v : Value} (hn : noN c = true) (h : CellR C c v) : CellR { C with H := H', vn := vn' } c v := by
  cases c <;> try exact h
  case own b => exact ⟨h.1, by show b < H'.length; rw [hl]; exact h.2.1, h.2.2⟩
  case ptr b o => exact ⟨h.1, by show b < H'.length; rw [hl]; exact h.2.1, h.2.2⟩
  case eptr b i o => exact ⟨h.1, by show b < H'.length; rw [hl]; exact h.2.1, h.2.2⟩
  case nst b i o ver => cases hn
  case neptr b i o ver j q => cases hn
  case nsv b i o ver lo => cases hn
  case fnp f l =>
    obtain ⟨vs, hv, hr⟩ := h
    exact ⟨vs, hv, by show PtrsR H'.length C.ρ l vs.toList; rw [hl]; exact hr⟩
theorem LR.turn {H' : List Blk} {vn' : Nat → Option Nat} (hl : H'.length = C.H.length) : ∀ {l : List Cell} {vs : List Value}, (∀ c ∈ l, noN c = true) → LR C l vs → LR { C with H := H', vn := vn' } l vs
  | [], [], _, _ => trivial
  | _ :: _, _ :: _, hn, h => ⟨h.1.turn hl (hn _ (by simp)), LR.turn hl (fun c hc => hn c (by simp [hc])) h.2⟩
  | [], _ :: _, _, h => h.elim
  | _ :: _, [], _, h => h.elim
theorem TL.turn {H' : List Blk} {vn' : Nat → Option Nat} (hl : H'.length = C.H.length) : ∀ {l : List (Bool × List Cell)} {vs : List Value}, (∀ p ∈ l, ∀ c ∈ p.2, noN c = true) → TL C l vs → TL { C with H := H', vn := vn' } l vs
  | [], [], _, _ => trivial
  | (b, l) :: _, u :: _, hn, h => by
    refine ⟨?_, TL.turn hl (fun p hp => hn p (by simp [hp])) h.2⟩
    have hn := hn (b, l) (by simp)
    cases b
    · exact LR.turn (vs := [u]) hl hn h.1
    · obtain ⟨vs, hv, hr⟩ := h.1; exact ⟨vs, hv, LR.turn hl hn hr⟩
  | [], _ :: _, _, h => h.elim
  | _ :: _, [], _, h => h.elim
theorem AVR.turn {H' : List Blk} {vn' : Nat → Option Nat} (hl : H'.length = C.H.length) {v : AV} {u : Value} (hn : noA v) (h : AVR C v u) : AVR { C with H := H', vn := vn' } v u := by
  cases v with
  | c x => exact CellR.turn hl hn h
  | agg l => obtain ⟨vs, hv, hr⟩ := h; exact ⟨vs, hv, LR.turn hl hn hr⟩
  | tup l => obtain ⟨vs, hv, hr⟩ := h; exact ⟨vs, hv, TL.turn hl hn hr⟩
theorem AL.turn {H' : List Blk} {vn' : Nat → Option Nat} (hl : H'.length = C.H.length) : ∀ {l : List AV} {vs : List Value}, (∀ v ∈ l, noA v) → AL C l vs → AL { C with H := H', vn := vn' } l vs
  | [], [], _, _ => trivial
  | _ :: _, _ :: _, hn, h => ⟨h.1.turn hl (hn _ (by simp)), AL.turn hl (fun c hc => hn c (by simp [hc])) h.2⟩
  | [], _ :: _, _, h => h.elim
  | _ :: _, [], _, h => h.elim

theorem HeapR.turn1 (hH : HeapR C) {b : Nat} {x x' : Blk} (hb : C.H[b]? = some x) (hx : x ≠ .dead) (hx' : x' ≠ .dead) (hno : ∀ y ∈ C.H, noB y) {vn' : Nat → Option Nat} (hvn : ∀ j, j ≠ b → vn' j = C.vn j) (hvl : ∀ v, vn' b = some v → ∃ t l h, x' = .arr t l .un v h) (hnew : BlkR { C with H := C.H.set b x', vn := vn' } b x') : HeapR { C with H := C.H.set b x', vn := vn' } := by
  have hlt : b < C.H.length := (List.getElem?_eq_some_iff.1 hb).1
  have hlive : ∀ j, live { C with H := C.H.set b x', vn := vn' } j → live C j := by
    rintro j ⟨y, hy, hd⟩
    by_cases e : b = j
    · subst e; exact ⟨x, hb, hx⟩
    · exact ⟨y, by rw [← hy]; exact (List.getElem?_set_ne e).symm, hd⟩
  refine ⟨hH.base, hH.st, fun j y hy => ?_, fun j g p hl hf => hH.own j g p (hlive j hl) hf, fun j j' g p hl hl' hf hf' => hH.inj j j' g p (hlive j hl) (hlive j' hl') hf hf', fun j v hv => ?_, hH.gl⟩
  · by_cases e : b = j
    · subst e
      have hy : (C.H.set b x')[b]? = some y := hy
      rw [List.getElem?_set_self hlt] at hy
      cases hy
      exact hnew
    · have hy : (C.H.set b x')[j]? = some y := hy
      rw [List.getElem?_set_ne e] at hy
      have hB := hH.blk j y hy
      cases y with
      | dead => trivial
      | cells ty l =>
        obtain ⟨h0, g, off, cs, ty', h1, h2, h3, h4⟩ := hB
        refine ⟨h0, g, off, cs, ty', h1, h2, h3, fun i c hc => ?_⟩
        rcases h4 i c hc with h5 | ⟨h5, u, h6, h7⟩
        · exact .inl h5
        · exact .inr ⟨h5, u, h6, h7.turn (by simp) (hno _ (List.mem_of_getElem? hy) c (List.mem_of_getElem? hc))⟩
      | arr t l m v h =>
        obtain ⟨h0, h1, h2, h3⟩ := hB
        exact ⟨h0, h1, fun em => (hvn j (fun e' => e e'.symm)).trans (h2 em), h3⟩
      | mix t l n => exact hB
      | bld t u s => exact hB
  · by_cases e : b = j
    · subst e
      obtain ⟨t, l, h, rfl⟩ := hvl v hv
      exact ⟨t, l, h, List.getElem?_set_self hlt⟩
    · have hv : vn' j = some v := hv
      rw [hvn j (fun e' => e e'.symm)] at hv
      obtain ⟨t, l, h, hq⟩ := hH.vl j v hv
      exact ⟨t, l, h, by show (C.H.set b x')[j]? = _; rw [List.getElem?_set_ne e]; exact hq⟩

theorem turnBs_r {k : List Blk → Option R} : ∀ (qs : List Tn) (l pre : List Blk) {C : Cx} {k' : List Blk → Option R}, C.H = pre ++ l → HeapR C → (∀ y ∈ C.H, noB y) → (∀ l', k' l' = k (pre ++ l')) → turnBs qs l k' = some r → ∃ H' vn', H'.length = C.H.length ∧ HeapR { C with H := H', vn := vn' } ∧ k H' = some r
  | [], l, pre, C, k', hh, hH, hno, hk, h => ⟨C.H, C.vn, rfl, hH, by rw [hh, ← hk]; exact h⟩
  | _ :: _, [], pre, C, k', hh, hH, hno, hk, h => ⟨C.H, C.vn, rfl, hH, by rw [hh, ← hk]; exact h⟩
  | q :: qs, b :: l, pre, C, k', hh, hH, hno, hk, h => by
    simp only [turnBs] at h
    have hget : C.H[pre.length]? = some b := by rw [hh, List.getElem?_append_right (Nat.le_refl _)]; simp
    have hset : ∀ b', C.H.set pre.length b' = (pre ++ [b']) ++ l := fun b' => by
      rw [hh, List.set_append_right _ _ (Nat.le_refl _)]; simp
    have keep : turnBs qs l (fun r => k' (b :: r)) = some r → ∃ H' vn', H'.length = C.H.length ∧ HeapR { C with H := H', vn := vn' } ∧ k H' = some r := fun h =>
      turnBs_r qs l (pre ++ [b]) (C := C) (by rw [hh]; simp) hH hno (fun l' => by rw [hk]; simp) h
    have next : ∀ b' vn', HeapR { C with H := C.H.set pre.length b', vn := vn' } → noB b' → turnBs qs l (fun r => k' (b' :: r)) = some r → ∃ H' vn', H'.length = C.H.length ∧ HeapR { C with H := H', vn := vn' } ∧ k H' = some r := fun b' vn' hH' hb' h => by
      obtain ⟨H', vn2, h1, h2, h3⟩ := turnBs_r (k := k) qs l (pre ++ [b']) (C := { C with H := C.H.set pre.length b', vn := vn' }) (hset b') hH' (fun y hy => by
        have hy : y ∈ C.H.set pre.length b' := hy
        rcases List.mem_or_eq_of_mem_set hy with h | h
        · exact hno y h
        · rw [h]; exact hb') (fun l' => by rw [hk]; simp) h
      exact ⟨H', vn2, by rw [h1]; exact List.length_set, h2, h3⟩
    unfold turnB at h
    split at h
    · rename_i t l' v
      refine next (.mix t l' 0) C.vn (hH.turn1 hget (by intro e; cases e) (by intro e; cases e) hno (fun _ _ => rfl) (fun v hv => ?_) ?_) trivial h
      · obtain ⟨t2, l2, h2, e⟩ := hH.vl _ v hv
        rw [hget] at e
        cases e
      · obtain ⟨_, h1, _, h3⟩ := hH.blk _ _ hget
        refine ⟨h1, ?_⟩
        rcases h3 with h3 | ⟨g, off, cap, h3, h4⟩
        · exact .inl h3
        · refine .inr ⟨g, off, cap, fun _ _ _ => False, h3, ⟨fun _ _ _ h => h.elim, fun _ _ h => h.elim, fun _ _ _ _ h => h.elim⟩, fun i x hx => ?_⟩
          obtain ⟨us, q1, q2⟩ := h4 i x hx
          exact ⟨us, q1, fun h => absurd h (Nat.not_lt_zero _), fun _ => q2⟩
    · rename_i t l' n
      split at h
      case isFalse => cases h
      rename_i hn
      refine next (.arr t l' .un 0 none) (fun j => if j = pre.length then some 0 else C.vn j) (hH.turn1 hget (by intro e; cases e) (by intro e; cases e) hno (fun j hj => if_neg hj) (fun v hv => ?_) ?_) trivial h
      · simp only [if_true] at hv
        cases hv
        exact ⟨_, _, _, rfl⟩
      · obtain ⟨h1, h3⟩ := hH.blk _ _ hget
        refine ⟨rfl, h1, fun _ => by simp, ?_⟩
        rcases h3 with h3 | ⟨g, off, cap, G, h3, h4, h5⟩
        · exact .inl h3
        · refine .inr ⟨g, off, cap, h3, G, h4, fun i x hx => ?_⟩
          obtain ⟨us, q1, q2, _⟩ := h5 i x hx
          have := (List.getElem?_eq_some_iff.1 hx).1
          exact ⟨us, q1, q2 (by omega)⟩
    · exact keep h

theorem compactK_r (hH : HeapR C) {np : Nat} {ms : List Md} {tn : List Tn} {vs : List AV} {us : List Value} (hv : AL C vs us) {k : List AV → List Blk → Option R} {C0 : Cx} (hfr : Fr0 np C0 C) (h : compactK np ms tn vs C.H k = some r) :
    ∃ (C' : Cx) (vs' : List AV), C'.w = C.w ∧ HeapR C' ∧ Fr0 np C0 C' ∧ AL C' vs' us ∧ k vs' C'.H = some r := by
  unfold compactK at h
  obtain ⟨h1, h2⟩ := bool_cond h
  simp only [Bool.and_eq_true] at h1
  obtain ⟨C', k1, k2, k3, k4, k5, k6, k7⟩ := demBs_r ms (C.ren (along np vs C.H)).H [] (C := C.ren (along np vs C.H)) rfl (hH.ren h1.1)
  have hno : ∀ y ∈ C'.H, noB y := by
    rw [k1]
    refine noB_dems _ _ fun y hy => ?_
    obtain ⟨b, _, rfl⟩ := List.mem_map.1 (show y ∈ (along np vs C.H).map _ from hy)
    exact noB_ren _ _
  obtain ⟨H', vn', t1, t2, t3⟩ := turnBs_r tn C'.H [] (C := C') (k := fun H => k (vs.map (renA (along np vs C.H))) H) rfl k3 hno (fun _ => rfl) (by rw [k1]; exact h2)
  have hf := (hfr.ren (vs := vs)).step k2 k4
  refine ⟨{ C' with H := H', vn := vn' }, _, k5, t2, ⟨hf.B, hf.X, hf.chg, hf.S, by show np ≤ H'.length; rw [t1]; exact hf.len, hf.blk⟩, AL.turn t1 (fun v hv => ?_) (AL.mono k2 hv.ren), t3⟩
  obtain ⟨x, _, rfl⟩ := List.mem_map.1 hv
  exact noA_ren _ x

/-! ### What is handed back -/

def finQ (P : Program) (fn : Func) (fin : AV → List Blk → Option R) (r : R) (sh : Bool) (C0 : Cx) (a : Act) (w : World) : Prop :=
  a.defers = [] ∧ ∃ u, (results fn a.tmps).run P w = .ok u w ∧ ∃ v C1, fin v C1.H = some r ∧ C1.w = w ∧ Con sh C0 C1 ∧ HeapR C1 ∧ AVR C1 v u

def resV (tmps : Array Value) : ResultVar → Sem Value
  | .tmp t => pure (tmps.getD t undef)
  | .cell a t => do loadVar t (← asAddr (tmps.getD a undef))

theorem HeapR.nilRow (hH : HeapR C) (y : Ty) {v : Value} (hv : ∃ A, v = .slice A 0 0) : ∃ C', C'.H = C.H ++ [.arr y [] .un 0 none] ∧ C'.w = C.w ∧ C.le C' ∧ HeapR C' ∧ Frm C C' ∧ CellR C' (.own C.H.length) v := by
  obtain ⟨A, rfl⟩ := hv
  obtain ⟨k1, k2, k3⟩ := hH.grow0 (w' := C.w) (blk := .arr y [] .un 0 none) (v' := .slice A 0 0) (Fn := fun _ _ => False) (tn := some y) (vnew := some 0) ⟨rfl, rfl, rfl, Nat.le_refl _, fun _ _ => rfl⟩ (fun v hv => by cases hv; exact ⟨_, _, _, rfl⟩) (fun _ _ h => h.elim) rfl (fun hle => ⟨rfl, by simp, fun _ => by simp, .inl ⟨rfl, A, by simp⟩⟩)
  refine ⟨_, ?_, ?_, k1, k2, k3, rfl, by simp, by simp⟩ <;> rfl

theorem nilData {A : Option Addr} (f : Bool) (y : Ty) : CellR C (.sl f y []) (.slice A 0 0) := ⟨A, 0, rfl, Nat.le_refl _, fun h => absurd rfl h⟩
theorem wkData {f g : Bool} {t : Ty} {l : List t.den} {v : Value} (h : CellR C (.sl g t l) v) : CellR C (.sl (f && g) t l) v :=
  Rd.mono (fun g' p hs => ⟨hs.1, fun e => hs.2 (Bool.and_eq_true_iff.1 e).2⟩) (fun _ _ _ _ h => h) (.sl t) l [v] h

theorem coC_r (co : Coer) {c : Cell} {v : Value} (hH : HeapR C) (h : CellR C c v) : ∃ C', C'.H = (coC co c C.H).2 ∧ C'.w = C.w ∧ C.le C' ∧ HeapR C' ∧ Frm C C' ∧ CellR C' (coC co c C.H).1 v := by
  have plain : ∀ {c' : Cell}, CellR C c' v → ∃ C', C'.H = C.H ∧ C'.w = C.w ∧ C.le C' ∧ HeapR C' ∧ Frm C C' ∧ CellR C' c' v := fun h => ⟨C, rfl, rfl, .refl C, hH, .refl C, h⟩
  unfold coC
  split
  · exact hH.nilRow _ ⟨none, h⟩
  · exact hH.nilRow _ h
  · obtain rfl : v = .slice none 0 0 := h
    exact plain (nilData _ _)
  · obtain ⟨A, rfl⟩ := (h : CellR C .emp v)
    exact plain (nilData _ _)
  · rename_i f y b
    split
    · rename_i t l m ver hb
      obtain ⟨k1, k2, k3, k4⟩ := hH.freeze hb rfl
      refine ⟨_, ?_, ?_, k1, k2, k3, by rw [h.2.2]; exact wkData k4⟩ <;> rfl
    · exact plain h
  · exact plain (wkData h)
  · rename_i f y b i o ver
    split
    case h_2 => exact plain h
    rename_i t l ver' hb
    cases hv : Nat.beq ver' ver
    · exact plain h
    have := Nat.eq_of_beq_eq_true hv
    subst this
    simp only [cond_true]
    split
    case h_2 => exact plain h
    rename_i u l' hg
    obtain ⟨C', d1, d5, d2, d3, d4, k2⟩ := hH.nstData hb h hg
    exact ⟨C', d1, d5, d2, d3, d4, wkData k2⟩
  · exact plain h

theorem coC_cells (co : Coer) {c : Cell} {H : List Blk} {b ty : Nat} {l : List Cell} (hb : H[b]? = some (.cells ty l)) : (coC co c H).2[b]? = some (.cells ty l) := by
  have hlt := (List.getElem?_eq_some_iff.1 hb).1
  unfold coC
  split
  · rw [List.getElem?_append_left hlt]; exact hb
  · rw [List.getElem?_append_left hlt]; exact hb
  · exact hb
  · exact hb
  · rename_i b'
    split
    · rename_i e
      simp only
      rw [List.getElem?_set_ne (fun z => by rw [z, hb] at e; cases e)]
      exact hb
    · exact hb
  · exact hb
  · rename_i b' i o v
    split
    · rename_i e
      cases Nat.beq _ v
      · exact hb
      · simp only [cond_true]
        split
        · simp only
          rw [List.getElem?_set_ne (fun z => by rw [z, hb] at e; cases e)]
          exact hb
        · exact hb
    · exact hb
  · exact hb

/-- A cell of a variable told in other words. -/
theorem HeapR.recell (hH : HeapR C) {b j : Nat} {ty : Nat} {l : List Cell} (hb : C.H[b]? = some (.cells ty l)) {c : Cell} (hj : l[j]? = some c) {c' : Cell} (hc : c ≠ .undef → ∀ u, CellR C c u → CellR C c' u ∨ True) {g off : Nat} (hρ : C.ρ b = .pointer (some (at_ g off)))
    (hnew : c' = .undef ∨ (C.fp b g (off + j) ∧ ∃ u, C.w.cell? (at_ g (off + j)) = some u ∧ CellR C c' u)) {C' : Cx} (hC' : C' = { C with H := C.H.set b (.cells ty (l.set j c')) }) : C.le C' ∧ HeapR C' ∧ Frm C C' := by
  have hlive : live C b := live_of hb (by simp)
  have hlt := live_lt hlive
  obtain ⟨hsh, g0, off0, cs, ty', hρ0, hg, hle, hl⟩ := hH.blk b _ hb
  rw [hρ] at hρ0
  obtain ⟨rfl, rfl⟩ : g = g0 ∧ off = off0 := by simpa using hρ0
  have hvb : C.vn b = none := by
    cases hv : C.vn b with
    | none => rfl
    | some v => obtain ⟨t, l', h, e⟩ := hH.vl b v hv; rw [hb] at e; cases e
  have hx' : ∀ i x, C'.H[i]? = some x → i = b ∧ x = .cells ty (l.set j c') ∨ i ≠ b ∧ C.H[i]? = some x := by
    subst hC'
    intro i x hx
    by_cases e : b = i
    · subst e
      simp only [List.getElem?_set_self hlt, Option.some.injEq] at hx
      exact .inl ⟨rfl, hx.symm⟩
    · simp only [List.getElem?_set_ne e] at hx
      exact .inr ⟨fun e' => e e'.symm, hx⟩
  refine hH.step (F := fun _ _ => False) b (fun _ => False) (by subst hC'; rfl) (by subst hC'; rfl) (by subst hC'; exact .refl _ _) (fun _ _ h => h.elim) (by subst hC'; exact fun _ _ h => h) (by subst hC'; exact fun g p h => .inl h) (by subst hC'; exact fun g' p h => hH.st g' p h) (by subst hC'; simp) (by subst hC'; intro i hi; exact ⟨rfl, rfl⟩) (by
    intro i hi hn
    have : C'.vn i = C.vn i := by subst hC'; rfl
    rw [this]
    refine hH.vnone fun ⟨x, hx, hd⟩ => hn ⟨x, ?_, hd⟩
    subst hC'
    simp only [List.getElem?_set_ne (fun e' : b = i => hi e'.symm)]
    exact hx) (fun _ => .inl (by subst hC'; exact hvb)) (fun v hv => by
      have : C'.vn b = C.vn b := by subst hC'; rfl
      rw [this, hvb] at hv; cases hv) (by
    intro i x hx hd
    rcases hx' i x hx with ⟨h, _⟩ | ⟨h1, h2⟩
    · exact .inl h
    · exact .inr ⟨h2, fun h => h, h1, by subst hC'; rfl, by subst hC'; exact fun _ _ => Iff.rfl⟩) (by
    subst hC'
    intro g' p _ hf
    obtain ⟨h1, h2, h3⟩ := hH.own b g' p hlive hf
    exact ⟨h1, h3, .inl ⟨b, .inr rfl, hlive, hf⟩⟩) (fun hle' x hx _ => ?_)
  rcases hx' b x hx with ⟨_, rfl⟩ | ⟨h1, _⟩
  · refine ⟨by subst hC'; exact hsh, g, off, cs, ty', by subst hC'; exact hρ, by subst hC'; exact hg, by simpa using hle, fun i c0 hi => ?_⟩
    by_cases e : j = i
    · subst e
      rw [List.getElem?_set_self (List.getElem?_eq_some_iff.1 hj).1] at hi
      cases hi
      rcases hnew with h | ⟨h1, u, h2, h3⟩
      · exact .inl h
      · exact .inr ⟨by subst hC'; exact h1, u, by subst hC'; exact h2, h3.mono hle'⟩
    · rw [List.getElem?_set_ne e] at hi
      rcases hl i c0 hi with h | ⟨h1, u, h2, h3⟩
      · exact .inl h
      · exact .inr ⟨by subst hC'; exact h1, u, by subst hC'; exact h2, h3.mono hle'⟩
  · exact absurd rfl h1

theorem coB1_r (np : Nat) (vs : List AV) (q : Nat × Nat × Coer) (hH : HeapR C) : ∃ C', C'.H = coB1 np vs q C.H ∧ C'.w = C.w ∧ C.le C' ∧ HeapR C' ∧ Frm C C' := by
  have plain : ∃ C', C'.H = C.H ∧ C'.w = C.w ∧ C.le C' ∧ HeapR C' ∧ Frm C C' := ⟨C, rfl, rfl, .refl C, hH, .refl C⟩
  unfold coB1
  split
  case h_2 => exact plain
  rename_i b _
  split
  case h_2 => exact plain
  rename_i ty l hb
  split
  case h_2 => exact plain
  rename_i c hc
  split
  rename_i c' H' hco
  obtain ⟨hsh, g, off, cs, ty', hρ, hg, hle, hl⟩ := hH.blk b _ hb
  rcases hl _ c hc with rfl | ⟨hf, u, hu, hcr⟩
  · obtain ⟨rfl, rfl⟩ : c' = .undef ∧ H' = C.H := by
      have : coC q.2.2 .undef C.H = (.undef, C.H) := by unfold coC; split <;> simp_all
      rw [this] at hco
      cases hco
      exact ⟨rfl, rfl⟩
    refine ⟨C, ?_, rfl, .refl C, hH, .refl C⟩
    apply List.ext_getElem?
    intro m
    by_cases e : b = m
    · subst e
      rw [List.getElem?_set_self (List.getElem?_eq_some_iff.1 hb).1, hb]
      congr 2
      apply List.ext_getElem?
      intro n
      by_cases e : q.2.1 = n
      · subst e
        rw [List.getElem?_set_self (List.getElem?_eq_some_iff.1 hc).1, hc]
      · rw [List.getElem?_set_ne e]
    · rw [List.getElem?_set_ne e]
  · obtain ⟨C1, k1, k2, k3, k4, k5, k6⟩ := coC_r q.2.2 hH hcr
    rw [hco] at k1 k6
    have hb1 : C1.H[b]? = some (.cells ty l) := by rw [k1]; have := coC_cells q.2.2 (c := c) hb; rw [hco] at this; exact this
    have hlt := (List.getElem?_eq_some_iff.1 hb).1
    have hρ1 : C1.ρ b = .pointer (some (at_ g off)) := (k3.blk b hlt).2.trans hρ
    obtain ⟨_, g1, off1, _, _, hρ1', _, _, hl1⟩ := k4.blk b _ hb1
    rw [hρ1] at hρ1'
    obtain ⟨rfl, rfl⟩ : g = g1 ∧ off = off1 := by simpa using hρ1'
    have hnew : c' = .undef ∨ (C1.fp b g (off + q.2.1) ∧ ∃ u, C1.w.cell? (at_ g (off + q.2.1)) = some u ∧ CellR C1 c' u) := by
      rcases hl1 _ c hc with rfl | ⟨hf1, _⟩
      · have : coC q.2.2 .undef C.H = (.undef, C.H) := by unfold coC; split <;> simp_all
        rw [this] at hco
        cases hco
        exact .inl rfl
      · exact .inr ⟨hf1, u, by rw [k2]; exact hu, k6⟩
    obtain ⟨h1, h2, h3⟩ := k4.recell hb1 hc (fun _ _ _ => .inr trivial) hρ1 hnew rfl
    exact ⟨{ C1 with H := C1.H.set b (.cells ty (l.set q.2.1 c')) }, by simp only at k1 ⊢; rw [k1], k2, k3.trans h1, h2, k5.trans k3 h3⟩
theorem coBs_r (np : Nat) (vs : List AV) : ∀ (l : List (Nat × Nat × Coer)) {C : Cx}, HeapR C → ∃ C', C'.H = coBs np vs l C.H ∧ C'.w = C.w ∧ C.le C' ∧ HeapR C' ∧ Frm C C'
  | [], C, hH => ⟨C, rfl, rfl, .refl C, hH, .refl C⟩
  | q :: l, C, hH => by
    obtain ⟨C1, k1, k2, k3, k4, k5⟩ := coB1_r np vs q hH
    obtain ⟨C2, h1, h2, h3, h4, h5⟩ := coBs_r np vs l k4
    exact ⟨C2, by rw [h1, k1]; rfl, h2.trans k2, k3.trans h3, h4, k5.trans k3 h5⟩

theorem coL_r (co : Nat → Option Coer) : ∀ (l : List Cell) (vs : List Value) (n : Nat) {C : Cx}, HeapR C → LR C l vs → ∃ C', C'.H = (coL co n l C.H).2 ∧ C'.w = C.w ∧ C.le C' ∧ HeapR C' ∧ Frm C C' ∧ LR C' (coL co n l C.H).1 vs
  | [], [], n, C, hH, hl => ⟨C, rfl, rfl, .refl C, hH, .refl C, trivial⟩
  | c :: l, v :: vs, n, C, hH, hl => by
    simp only [coL]
    split
    · rename_i q _
      obtain ⟨C1, k1, k2, k3, k4, k5, k6⟩ := coC_r q hH hl.1
      obtain ⟨C', h1, h2, h3, h4, h5, h6⟩ := coL_r co l vs (n + 1) k4 (hl.2.mono k3)
      rw [k1] at h1 h6
      exact ⟨C', h1, h2.trans k2, k3.trans h3, h4, k5.trans k3 h5, k6.mono h3, h6⟩
    · obtain ⟨C', h1, h2, h3, h4, h5, h6⟩ := coL_r co l vs (n + 1) hH hl.2
      exact ⟨C', h1, h2, h3, h4, h5, hl.1.mono h3, h6⟩
  | [], _ :: _, _, _, _, h => h.elim
  | _ :: _, [], _, _, _, h => h.elim

theorem coA_r (co : Nat → Option Coer) (n : Nat) {v : AV} {u : Value} (hH : HeapR C) (h : AVR C v u) : ∃ C', C'.H = (coA co n v C.H).2 ∧ C'.w = C.w ∧ C.le C' ∧ HeapR C' ∧ Frm C C' ∧ AVR C' (coA co n v C.H).1 u := by
  cases v with
  | c x =>
    obtain ⟨C', h1, h2, h3, h4, h5, h6⟩ := coL_r co [x] [u] n hH ⟨h, trivial⟩
    simp only [coA]
    split
    · rename_i y H hq
      rw [hq] at h1 h6
      exact ⟨C', h1, h2, h3, h4, h5, h6.1⟩
    · exact ⟨C, rfl, rfl, .refl C, hH, .refl C, h⟩
  | agg l =>
    obtain ⟨vs, hv, hl⟩ := h
    obtain ⟨C', h1, h2, h3, h4, h5, h6⟩ := coL_r co l _ n hH hl
    exact ⟨C', h1, h2, h3, h4, h5, vs, hv, h6⟩
  | tup l => exact ⟨C, rfl, rfl, .refl C, hH, .refl C, h⟩

theorem coAs_r (co : Nat → Option Coer) : ∀ (l : List AV) (vs : List Value) (n : Nat) {C : Cx}, HeapR C → AL C l vs → ∃ C', C'.H = (coAs co n l C.H).2 ∧ C'.w = C.w ∧ C.le C' ∧ HeapR C' ∧ Frm C C' ∧ AL C' (coAs co n l C.H).1 vs
  | [], [], n, C, hH, hl => ⟨C, rfl, rfl, .refl C, hH, .refl C, trivial⟩
  | c :: l, v :: vs, n, C, hH, hl => by
    simp only [coAs]
    obtain ⟨C1, k1, k2, k3, k4, k5, k6⟩ := coA_r co n hH hl.1
    obtain ⟨C', h1, h2, h3, h4, h5, h6⟩ := coAs_r co l vs (n + 100) k4 (AL.mono k3 hl.2)
    rw [k1] at h1 h6
    exact ⟨C', h1, h2.trans k2, k3.trans h3, h4, k5.trans k3 h5, k6.mono h3, h6⟩
  | [], _ :: _, _, _, _, h => h.elim
  | _ :: _, [], _, _, _, h => h.elim

def resU : List Value → Value
  | [u] => u
  | us => .tuple us.toArray

section
variable {T : Nat → Option TI} (hT : TOK P T) {s : St} {nt : Nat} {a : Act} (hH : HeapR C) (hh : C.H = s.heap) (ht : TR C nt s.tmps a)
include hT hH hh ht
theorem finVals_r : ∀ (rs : List ResultVar) {k : List AV → Option R}, finVals T s rs k = some r → ∃ vs us, k vs = some r ∧ AL C vs us ∧ us.length = rs.length ∧ (rs.mapM (resV a.tmps)).run P C.w = .ok us C.w
  | [], k, h => ⟨[], [], h, trivial, rfl, by simp⟩
  | .tmp t :: rs, k, h => by
    simp only [finVals] at h
    obtain ⟨vs, us, h1, h2, h3, h4⟩ := finVals_r rs h
    exact ⟨s.get t :: vs, a.tmps.getD t undef :: us, h1, ⟨ht.at_ t, h2⟩, by simp [h3], by simp [List.mapM_cons, resV, h4]⟩
  | .cell c t :: rs, k, h => by
    simp only [finVals] at h
    obtain ⟨v, av, hk, hav, hrun⟩ := loadK_r hT hH hh (ht.at_ c) h
    obtain ⟨vs, us, h1, h2, h3, h4⟩ := finVals_r rs hk
    refine ⟨av :: vs, v :: us, h1, ⟨hav, h2⟩, by simp [h3], ?_⟩
    have hr := hrun C.w fun _ _ => rfl
    have hl : (resV a.tmps (.cell c t)).run P C.w = .ok v C.w := by
      cases hq : a.tmps.getD c undef <;> rw [hq] at hr <;> try (simp [Instr.loadAt, Instr.sureAddr, stuck] at hr; done)
      rename_i p
      cases p with
      | none => simp [Instr.loadAt, Instr.sureAddr, stuck] at hr
      | some p =>
        simp only [resV, hq, asAddr]
        simpa [Instr.loadAt, Instr.sureAddr] using hr
    simp [List.mapM_cons, hl, h4]

theorem finK_r {np : Nat} {C0 : Cx} (hnp : C0.H.length = np) (hfr : Fr0 np C0 C) {fn : Func} {co : Co} {fin : AV → List Blk → Option R} (h : finK T np fn co s fin = some r) : finQ P fn fin r co.sh C0 a C.w := by
  unfold finK at h
  obtain ⟨vs, us, h1, h2, h3, h4⟩ := finVals_r hT hH hh ht _ h
  rw [← hh] at h1
  obtain ⟨C1, g1, g2, g3, g4, g5, g6⟩ := coAs_r co.c vs us 0 hH h2
  split at h1
  rename_i vs1 H1 hco
  rw [hco] at g1 g6
  simp only at g1 g6
  obtain ⟨C1', e1, e2, e3, e4, e5⟩ := coBs_r np vs1 co.cc g4
  rw [g1] at e1
  rw [← e1] at h1
  have g2 := e2.trans g2
  have g5 := g5.trans g3 e5
  have g3 := g3.trans e3
  have g4 := e4
  have g6 := AL.mono e3 g6
  clear e1 e2 e3 e4 e5 g1
  have g1 : True := trivial
  have hfr := hfr.step g3 g5
  rw [← g2] at h4
  rw [← g2]
  have hdf := ht.defers
  clear h2 hh hH ht
  obtain ⟨C2, vs', k0, k1, kf, k2, k3⟩ := compactK_r g4 g6 hfr h1
  rw [← k0] at h4
  rw [← k0]
  clear g1 g2 g3 g4 g5 g6 h1 hfr k0
  obtain ⟨hfb, k3⟩ := bool_cond k3
  have hres : (results fn a.tmps).run P C2.w = .ok (resU us) C2.w := by
    unfold results
    have e : fn.results.mapM (fun | .tmp t => pure (a.tmps.getD t undef) | .cell c t => do loadVar t (← asAddr (a.tmps.getD c undef)) : ResultVar → Sem Value) = List.toArray <$> fn.results.toList.mapM (resV a.tmps) := by
      rcases hq : fn.results with ⟨l⟩
      rw [List.mapM_toArray]
      have : (fun | .tmp t => pure (a.tmps.getD t undef) | .cell c t => do loadVar t (← asAddr (a.tmps.getD c undef)) : ResultVar → Sem Value) = resV a.tmps := by
        funext x; cases x <;> rfl
      rw [this]
    have hm : (fn.results.mapM (fun | .tmp t => pure (a.tmps.getD t undef) | .cell c t => do loadVar t (← asAddr (a.tmps.getD c undef)) : ResultVar → Sem Value)).run P C2.w = .ok us.toArray C2.w := by
      rw [e, Sem.run_map, h4]; rfl
    rw [Sem.run_bind]
    erw [hm]
    simp only [Result.andThen_ok, Sem.run_pure]
    match us with
    | [] => rfl
    | [u] => rfl
    | u :: u' :: us => rfl
  have frm : ∀ (v : AV) (u : Value), (co.sh || freshA v) = true → AVR C2 v u → fin v C2.H = some r → ∃ v C1, fin v C1.H = some r ∧ C1.w = C2.w ∧ Con co.sh C0 C1 ∧ HeapR C1 ∧ AVR C1 v u := by
    intro v u hf hv hk
    cases hs : co.sh
    · rw [hs] at hf hfb
      refine ⟨v, C2.frs, hk, rfl, ⟨kf.B, kf.X, kf.chg, fun g p h => .inr ?_, by rw [hnp]; exact kf.len, fun b hb => kf.blk b (by rw [← hnp]; exact hb)⟩, k1.frs hfb, freshA_r hf hv⟩
      have := h.2
      unfold Cx.Own at *
      rw [kf.B, kf.X] at this
      exact this
    · refine ⟨v, C2, hk, rfl, ⟨kf.B, kf.X, kf.chg, fun g p h => ?_, by rw [hnp]; exact kf.len, fun b hb => kf.blk b (by rw [← hnp]; exact hb)⟩, k1, hv⟩
      rcases kf.S g p h with h | h
      · exact .inl ⟨rfl, h⟩
      · exact .inr h
  refine ⟨hdf, _, hres, ?_⟩
  split at k3
  · rename_i v _
    obtain ⟨hf, k3⟩ := bool_cond k3
    match us, k2 with
    | [u], k2 => exact frm v u hf k2.1 k3
    | u :: u' :: us, k2 => exact k2.2.elim
  · rename_i hne
    split at k3
    case h_2 => cases k3
    rename_i l hl
    obtain ⟨hf, k3⟩ := bool_cond k3
    have key : ∀ (vs : List AV) (l : List (Bool × List Cell)) (us : List Value), AL C2 vs us → svsOf vs = some l → TL C2 l us := by
      intro vs
      induction vs with
      | nil => intro l us h hl; cases hl; cases us with | nil => trivial | cons a b => exact h.elim
      | cons v vs ih =>
        intro l us h hl
        cases us with
        | nil => exact h.elim
        | cons u us =>
          simp only [svsOf] at hl
          split at hl
          · rename_i x l' hx hl'
            cases hl
            refine ⟨?_, ih l' us h.2 hl'⟩
            cases v with
            | c y => cases hx; exact ⟨h.1, trivial⟩
            | agg y => cases hx; exact h.1
            | tup y => cases hx
          · cases hl
    have htl := key vs' l us k2 hl
    have hu : resU us = .tuple us.toArray := by
      match us, k2 with
      | [], _ => rfl
      | [u], k2 =>
        match vs', k2, hne with
        | [v], _, hne => exact absurd rfl (hne v)
        | v :: v' :: vs, k2, _ => exact k2.2.elim
      | u :: u' :: us, _ => rfl
    rw [hu]
    exact frm (.tup l) _ hf ⟨us.toArray, rfl, by simpa using htl⟩ k3
end

/-! ### Jumps -/

def VL (C : Cx) (a : Act) : Live → List AV → Prop
  | [], [] => True
  | (t, _) :: r, v :: vs => AVR C v (a.tmps.getD t undef) ∧ VL C a r vs
  | _, _ => False

theorem VL.al {a : Act} : ∀ {l : Live} {vs : List AV}, VL C a l vs → AL C vs (l.map fun t => a.tmps.getD t.1 undef)
  | [], [], _ => trivial
  | _ :: _, _ :: _, h => ⟨h.1, VL.al h.2⟩
  | [], _ :: _, h => h.elim
  | _ :: _, [], h => h.elim
theorem AL.vl {a : Act} : ∀ {l : Live} {vs : List AV}, AL C vs (l.map fun t => a.tmps.getD t.1 undef) → VL C a l vs
  | [], [], _ => trivial
  | _ :: _, _ :: _, h => ⟨h.1, AL.vl h.2⟩
  | [], _ :: _, h => h.elim
  | _ :: _, [], h => h.elim
theorem VL.tmps {a : Act} : ∀ {l : Live} {vs : List AV}, VL C a l vs → ∀ t, AVR C (look (mkTmps l vs) t) (a.tmps.getD t undef)
  | [], [], _, t => trivial
  | (u, _) :: r, v :: vs, h, t => by
    simp only [mkTmps, look]
    cases hb : Nat.beq u t
    · exact VL.tmps h.2 t
    · have : u = t := Nat.eq_of_beq_eq_true hb
      subst this
      exact h.1
  | [], _ :: _, h, _ => h.elim
  | _ :: _, [], h, _ => h.elim

theorem liveVals_r {s : St} {a : Act} : ∀ (live : Live) {C : Cx}, HeapR C → (∀ t, AVR C (s.get t) (a.tmps.getD t undef)) → ∃ C', C'.H = (liveVals s live C.H).2 ∧ C'.w = C.w ∧ C.le C' ∧ HeapR C' ∧ Frm C C' ∧ VL C' a live (liveVals s live C.H).1
  | [], C, hH, hv => ⟨C, rfl, rfl, .refl C, hH, .refl C, trivial⟩
  | (t, none) :: r, C, hH, hv => by
    obtain ⟨C', h1, h2, h3, h4, h5, h6⟩ := liveVals_r r hH hv
    exact ⟨C', h1, h2, h3, h4, h5, (hv t).mono h3, h6⟩
  | (t, some co) :: r, C, hH, hv => by
    simp only [liveVals]
    split
    · rename_i c hc
      have hvt := hv t
      rw [hc] at hvt
      obtain ⟨C1, k1, k2, k3, k4, k5, k6⟩ := coC_r co hH hvt
      obtain ⟨C', h1, h2, h3, h4, h5, h6⟩ := liveVals_r r k4 (fun t => (hv t).mono k3)
      rw [k1] at h1 h6
      exact ⟨C', h1, h2.trans k2, k3.trans h3, h4, k5.trans k3 h5, k6.mono h3, h6⟩
    · obtain ⟨C', h1, h2, h3, h4, h5, h6⟩ := liveVals_r r hH hv
      exact ⟨C', h1, h2, h3, h4, h5, (hv t).mono h3, h6⟩

def LowOK (P : Program) (stk : Nat → List It) (ann : Nat → Option (Live × Dm)) (nt np : Nat) (C0 : Cx) (Qf : Act → World → Prop) (lower : Lower R) (r : R) : Prop :=
  ∀ lbl live vs H, ann lbl = some live → lower lbl vs H = some r → ∀ (C : Cx) (a : Act), C.H = H → HeapR C → Fr0 np C0 C → TR C nt (mkTmps live.1 vs) a → after P (stk lbl) Qf .normal a C.w

theorem jumpK_r {stk : Nat → List It} {ann : Nat → Option (Live × Dm)} {nt np : Nat} {C0 : Cx} {Qf : Act → World → Prop} {lower : Lower R} (hlow : LowOK P stk ann nt np C0 Qf lower r) {lbl : Nat} {s : St} (h : jumpK np lower ann lbl s = some r) {a : Act}
    (hh : C.H = s.heap) (hH : HeapR C) (hfr : Fr0 np C0 C) (ht : TR C nt s.tmps a) : after P (stk lbl) Qf .normal a C.w := by
  unfold jumpK at h
  split at h
  · cases h
  rename_i live hl
  rw [← hh] at h
  obtain ⟨C', h1, h2, h3, h4, h5, h6⟩ := liveVals_r (s := s) (a := a) live.1 hH ht.at_
  split at h
  rename_i vs1 H1 hlv
  rw [hlv] at h1 h6
  simp only at h1 h6
  obtain ⟨C3, e1, e2, e3, e4, e5⟩ := coBs_r np vs1 live.2.cc h4
  rw [h1] at e1
  rw [← e1] at h
  obtain ⟨C2, vs', k0, k1, kf, k2, k3⟩ := compactK_r e4 (AL.mono e3 h6.al) (hfr.step (h3.trans e3) (h5.trans h3 e5)) h
  rw [← h2, ← e2, ← k0]
  exact hlow lbl live _ _ hl k3 C2 a rfl k1 kf ⟨ht.size, ht.defers, k2.vl.tmps⟩

theorem region_r {T : Nat → Option TI} {cf cq : CF R} {io : Nat → Bool} {lower : Lower R} {ann : Nat → Option (Live × Dm)} {np : Nat} {fn : Func} {co : Co} {fin : AV → List Blk → Option R} {stk : Nat → List It} {C0 : Cx} (hmix : P.follows .mixedOrders = true) (hT : TOK P T) (hcf : CFok P cf) (hcq : CFq P cq)
    (N : Nat) (K : List It) (s : St) (C : Cx) (a : Act) (id : Nat) (ops : Array Oper) (draw : Bool)
    (ih : ∀ (K : List It) (s : St) (C : Cx) (a : Act), chkK stk K → go T cf cq io lower ann np fn co fin N K s = some r → C.H = s.heap → HeapR C → Fr0 np C0 C → TR C fn.ntmps s.tmps a → after P K (finQ P fn fin r co.sh C0) .normal a C.w)
    (hK : chkK stk K) (h : (match draw with
      | false => goOps T cf fn.ntmps ops.toList ops.toList s fun s => go T cf cq io lower ann np fn co fin N K s
      | true => goD T cf cq io (memN co.fm id) fn.ntmps ops s fun s => go T cf cq io lower ann np fn co fin N K s) = some r)
    (hh : C.H = s.heap) (hH : HeapR C) (hfr : Fr0 np C0 C) (ht : TR C fn.ntmps s.tmps a) : (Code.region id ops draw).wp P (after P K (finQ P fn fin r co.sh C0)) a C.w := by
  cases draw with
  | false =>
    have h1 := goOps_r (Q := after P K (finQ P fn fin r co.sh C0)) hT hcf ops.toList 0 (by simp) hh hH ht h (fun C' s' a' h1 h2 h3 h4 h5 h6 => ih K s' C' a' hK h6 h3 h4 (hfr.step h1 h2) h5)
    refine wp_region ?_
    rw [List.range_eq_range']
    simpa using h1
  | true =>
    simp only at h
    unfold goD at h
    split at h
    · exact goM_r (io := io) hT hcf hcq hmix hH hh ht h fun C' s' a' h1 h2 h3 h4 h5 h6 => ih K s' C' a' hK h6 h3 h4 (hfr.step h1 h2) h5
    obtain ⟨hlex, h⟩ := bool_cond h
    refine wp_region_quiet (C := Below C.w.heap.size C.w) hmix hlex ⟨rfl, rfl, rfl, Nat.le_refl _, fun _ _ => rfl⟩ ?_
    refine goOpsQ_r hT hcq hH ops.toList hh ht h fun s' a' h1 h2 h3 => ?_
    intro w' hw'
    obtain ⟨k1, k2, k3⟩ := hH.world hw' rfl
    exact ih K s' { C with w := w' } a' hK h3 h1 k2 (hfr.step k1 k3) (h2.mono k1)

/-- **The walk.** -/
theorem go_r {T : Nat → Option TI} {cf cq : CF R} {io : Nat → Bool} {lower : Lower R} {ann : Nat → Option (Live × Dm)} {np : Nat} {fn : Func} {co : Co} {fin : AV → List Blk → Option R} {stk : Nat → List It} {C0 : Cx} (hnp : C0.H.length = np) (hmix : P.follows .mixedOrders = true) (hT : TOK P T) (hcf : CFok P cf) (hcq : CFq P cq)
    (hlow : LowOK P stk ann fn.ntmps np C0 (finQ P fn fin r co.sh C0) lower r) : ∀ (N : Nat) (K : List It) (s : St) (C : Cx) (a : Act), chkK stk K → go T cf cq io lower ann np fn co fin N K s = some r → C.H = s.heap → HeapR C → Fr0 np C0 C → TR C fn.ntmps s.tmps a →
      after P K (finQ P fn fin r co.sh C0) .normal a C.w
  | 0, _, _, _, _, _, h, _, _, _, _ => by cases h
  | N + 1, [], s, C, a, hK, h, hh, hH, hfr, ht => finK_r hT hH hh ht hnp hfr h
  | N + 1, .blk id :: K, s, C, a, hK, h, hh, hH, hfr, ht => go_r hnp hmix hT hcf hcq hlow N K s C a hK h hh hH hfr ht
  | N + 1, .lp c :: K, s, C, a, hK, h, hh, hH, hfr, ht => by
    have := jumpK_r hlow h hh hH hfr ht
    rw [hK.1.1] at this
    exact loop_lp this
  | N + 1, .rg id ops draw :: K, s, C, a, hK, h, hh, hH, hfr, ht => region_r (co := co) hmix hT hcf hcq N K s C a id ops draw (go_r (co := co) hnp hmix hT hcf hcq hlow N) hK h hh hH hfr ht
  | N + 1, .code c :: K, s, C, a, hK, h, hh, hH, hfr, ht => by
    have ih := go_r (io := io) (co := co) hnp hmix hT hcf hcq hlow N
    show c.wp P (after P K (finQ P fn fin r co.sh C0)) a C.w
    cases c with
    | skip => exact wp_skip (ih K s C a hK.2 h hh hH hfr ht)
    | label l => exact wp_label (ih K s C a hK.2 h hh hH hfr ht)
    | seq x y =>
      have h1 := ih (.code x :: .code y :: K) s C a ⟨hK.1.1, hK.1.2, hK.2⟩ h hh hH hfr ht
      exact wp_seq (wp_mono h1 fun e a w he => by cases e <;> exact he)
    | cond c x y =>
      obtain ⟨b, hb, h⟩ := condA_r (ev_r ht c) h
      cases b
      · exact wp_cond hb (ih (.code y :: K) s C a ⟨hK.1.2, hK.2⟩ h hh hH hfr ht)
      · exact wp_cond hb (ih (.code x :: K) s C a ⟨hK.1.1, hK.2⟩ h hh hH hfr ht)
    | block id c =>
      have h1 := ih (.code c :: .blk id :: K) s C a ⟨hK.1, hK.2⟩ h hh hH hfr ht
      exact wp_block (wp_mono h1 fun e a w he => by cases e <;> exact he)
    | loop c =>
      have := jumpK_r hlow h hh hH hfr ht
      rw [hK.1.1] at this
      exact loop_code this
    | exit id =>
      simp only [go] at h
      split at h
      case h_2 => cases h
      rename_i K' hp
      have hK' : ∀ (K K' : List It), chkK stk K → popTo id K = some K' → chkK stk K' := by
        intro K
        induction K with
        | nil => intro K' _ hp; cases hp
        | cons x K ihK =>
          intro K' hc hp
          cases x with
          | code c => exact ihK K' hc.2 hp
          | lp c => exact ihK K' hc.2 hp
          | rg id ops d => exact ihK K' hc hp
          | blk i =>
            simp only [popTo] at hp
            cases hb : Nat.beq i id
            · rw [hb] at hp; exact ihK K' hc hp
            · rw [hb] at hp; cases hp; exact hc
      exact wp_exit (after_exit hp (ih K' s C a (hK' K K' hK.2 hp) h hh hH hfr ht))
    | ret => exact wp_ret (after_ret (finK_r hT hH hh ht hnp hfr h) K)
    | region id ops draw =>
      simp only [go] at h
      split at h
      · have := jumpK_r hlow h hh hH hfr ht
        rw [hK.1] at this
        exact this
      · exact region_r hmix hT hcf hcq N K s C a id ops draw ih hK.2 h hh hH hfr ht
    | goto l => cases h
    | scope c => cases h
    | refuse m => cases h
    | rangeFunc f ps x y => cases h

theorem init_look (C : Cx) : ∀ (args : List AV) (vs : List Value) (i : Nat), AL C args vs → ∀ t, i ≤ t → AVR C (look (initT i args) t) (vs.getD (t - i) undef)
  | [], [], i, _, t, _ => trivial
  | v :: l, u :: us, i, h, t, hi => by
    simp only [initT, look]
    cases hb : Nat.beq i t
    · have hne : i ≠ t := fun e => by rw [e, Nat.beq_refl] at hb; cases hb
      have := init_look C l us (i + 1) h.2 t (by omega)
      simp only [cond_false]
      have e : t - i = (t - (i + 1)) + 1 := by omega
      rw [e, List.getD_cons_succ]
      exact this
    · have : i = t := Nat.eq_of_beq_eq_true hb
      subst this
      simpa using h.1
  | [], _ :: _, _, h, _, _ => h.elim
  | _ :: _, [], _, h, _, _ => h.elim

/-- **A function's contract.** -/
theorem contract {T : Nat → Option TI} {io : Nat → Bool} {ann : Nat → Option (Live × Dm)} {fn : Func} {co : Co} {body : Code} {f : FuncId} {fin : AV → List Blk → Option R} (hmix : P.follows .mixedOrders = true) (hT : TOK P T)
    (hf : P.funcs[f]? = some fn) (hb : fn.body = some body) (hen : ∀ (vs : Array Value) (w : World), (callFunc f vs).run P w = .ok (.enter f vs) w) (hnd : nodupN (labelsC body) = true)
    (cf cq : Nat → CF R) (hcf : ∀ k, CFok P (cf k)) (hcq : ∀ k, CFq P (cq k)) (J : Nat → Lower R) (N np : Nat) (hJ0 : ∀ lbl vs H, J 0 lbl vs H = none)
    (hJ : ∀ k lbl live vs H r, ann lbl = some live → J (k + 1) lbl vs H = some r → go T (cf k) (cq k) io (J k) ann np fn co fin N (stkOf body lbl) ⟨mkTmps live.1 vs, H⟩ = some r)
    (k : Nat) (args : List AV) (H0 : List Blk) (hnp : H0.length = np) (hlen : args.length ≤ fn.ntmps) (r : R) (h : go T (cf k) (cq k) io (J k) ann np fn co fin N [.code body] ⟨initT 0 args, H0⟩ = some r) (v0 : AV) (H1 : List Blk) (hfin : ∀ v H, fin v H = some r → v = v0 ∧ H = H1) : CallsOK P f args H0 co.sh v0 H1 := by
  refine ⟨hen, fun C0 vs hH0 hB0 hh0 hvs => ?_⟩
  have hnp' : C0.H.length = np := by rw [hh0]; exact hnp
  have hlow : ∀ k, LowOK P (stkOf body) ann fn.ntmps np C0 (finQ P fn fin r co.sh C0) (J k) r := by
    intro k
    induction k with
    | zero => intro lbl live vs H _ h; rw [hJ0] at h; cases h
    | succ k ih =>
      intro lbl live vs H hl hj C a hh hH hfr ht
      exact go_r (co := co) hnp' hmix hT (hcf k) (hcq k) ih N _ ⟨mkTmps live.1 vs, H⟩ C a (chk_stk hnd lbl) (hJ k lbl live vs H r hl hj) hh hH hfr ht
  have hvl := AL.length hvs
  have hsz : vs.size = args.length := by simpa using hvl
  have hgo := go_r (co := co) hnp' hmix hT (hcf k) (hcq k) (hlow k) N [.code body] ⟨initT 0 args, H0⟩ C0 { tmps := vs ++ Array.replicate (fn.ntmps - vs.size) undef, defers := [] } ⟨chk_body hnd, trivial⟩ h hh0 hH0 ⟨rfl, rfl, .refl _ _ _, fun _ _ h => .inl h, Nat.le_of_eq hnp'.symm, fun _ _ => ⟨rfl, rfl⟩⟩ ⟨by simp; omega, rfl, fun t => by
    have := init_look C0 args vs.toList 0 hvs t (Nat.zero_le _)
    simp only [Nat.sub_zero] at this
    rw [Array.getD_eq_getD_getElem?, Array.getElem?_append]
    split
    · simpa [List.getD_eq_getElem?_getD] using this
    · rename_i hge
      have e : vs.toList.getD t undef = undef := by
        rw [List.getD_eq_getElem?_getD, List.getElem?_eq_none (by simpa using hge)]; rfl
      rw [e] at this
      have e2 : ((Array.replicate (fn.ntmps - vs.size) undef)[t - vs.size]?).getD undef = undef := by
        rw [Array.getElem?_replicate]; split <;> rfl
      rw [e2]
      exact this⟩
  refine calls_of_wp hf hb (wp_mono hgo fun e a' w' he => ?_)
  have fin : ∀ {a' : Act} {w' : World}, finQ P fn fin r co.sh C0 a' w' → a'.defers = [] ∧ ∃ v, (results fn a'.tmps).run P w' = .ok v w' ∧ ∃ u C1, Ending.returned v = .returned u ∧ C1.w = w' ∧ C1.H = H1 ∧ Con co.sh C0 C1 ∧ HeapR C1 ∧ AVR C1 v0 u := by
    rintro a' w' ⟨h1, u, h2, v, C1, h4, h5, h6, h7, h8⟩
    obtain ⟨rfl, h9⟩ := hfin v C1.H h4
    exact ⟨h1, u, h2, u, C1, rfl, h5, h9, h6, h7, h8⟩
  cases e with
  | normal => exact fin he
  | ret => exact fin he
  | exit id => exact he.elim
  | goto l => exact he.elim
  | panic c => exact he.elim
  | outgrown => exact he.elim
end
end Go.Proofs.YtcjfheidmlcbfaaGreatDoor.V
