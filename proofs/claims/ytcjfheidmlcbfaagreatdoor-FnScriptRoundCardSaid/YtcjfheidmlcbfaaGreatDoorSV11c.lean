/- What is handed over to a callee, and what comes back. -/
import Derived.Test.YtcjfheidmlcbfaaGreatDoorSV11
set_option linter.unusedVariables false
set_option linter.unusedSimpArgs false
set_option linter.unusedSectionVars false
namespace Go.Proofs.YtcjfheidmlcbfaaGreatDoor.V
open Go.RowKit

/-! ### Definitions -/

def entC : Cell → Cell
  | .sl _ t l => .sl false t l
  | .sptr _ t x o => .sptr false t x o
  | .nst _ _ _ _ => .undef
  | .neptr _ _ _ _ _ _ => .undef
  | .nsv _ _ _ _ _ => .undef
  | c => c
def entM : Md → Md
  | .fr => .sh
  | m => m
def entB : Blk → Blk
  | .cells ty l => .cells ty (l.map entC)
  | .arr t l m _ h => .arr t l (entM m) 0 h
  | .bld _ _ _ => .dead
  | b => b

def killL : List Blk → List Nat → List Blk
  | H, [] => H
  | H, b :: r => killL (H.set b .dead) r
def deadL (H : List Blk) : List Blk := H.map fun _ => .dead

/-- The callee's view: it owns what is handed over, and what it makes. -/
def Cx.hand (E : Cx) (g p : Nat) : Prop := ∃ b, live E b ∧ E.fp b g p
def Cx.sub (E : Cx) (sh : Bool) : Cx := { E with B := E.w.heap.size, X := E.hand, S := fun g p => bif sh then E.S g p else (g < E.w.heap.size ∧ ¬ E.hand g p), H := E.H.map entB, vn := vnOf (E.H.map entB) }

section
variable {P : Program} {R : Type} {C : Cx} {r : R}

theorem sub_S (hH : HeapR C) (sh : Bool) : ∀ g p, C.S g p → (C.sub sh).S g p := by
  intro g p h
  cases sh
  · exact ⟨hH.st g p h, fun ⟨b, h1, h2⟩ => (hH.own b g p h1 h2).1 h⟩
  · exact h
theorem sub_Sf (hH : HeapR C) (sh : Bool) {f : Bool} : ∀ g p, C.Sf f g p → (C.sub sh).Sf false g p := fun g p h => ⟨sub_S hH sh g p h.1, fun e => by cases e⟩

theorem entC_r (hH : HeapR C) {sh : Bool} {c : Cell} {u : Value} (h : CellR C c u) : CellR (C.sub sh) (entC c) u := by
  have hl : (C.sub sh).H.length = C.H.length := by simp [Cx.sub]
  cases c <;> simp only [entC] <;> try exact h
  case sl f t l => exact Rd.mono (sub_Sf hH sh) (fun _ _ _ _ h => h) (.sl t) _ _ h
  case own b => obtain ⟨h1, h2, h3⟩ := h; exact ⟨h1, by rw [hl]; exact h2, h3⟩
  case ptr b o => obtain ⟨h1, h2, h3⟩ := h; exact ⟨h1, by rw [hl]; exact h2, h3⟩
  case eptr b i o => obtain ⟨h1, h2, h3⟩ := h; exact ⟨h1, by rw [hl]; exact h2, h3⟩
  case nst b i o v => trivial
  case neptr b i o v j q => trivial
  case nsv b i o v lo => trivial
  case sptr f t x o => exact SPtr.mono (sub_Sf hH sh) (fun _ _ _ _ h => h) h
  case fn f caps => obtain ⟨vs, hv, hc⟩ := h; exact ⟨vs, hv, CapsR.mono (sub_S hH sh) (fun _ _ _ _ h => h) _ _ hc⟩
  case fnp f l =>
    obtain ⟨vs, hv, hc⟩ := h
    refine ⟨vs, hv, ?_⟩
    rw [hl]
    exact hc

theorem entB_live {x : Blk} : entB x ≠ .dead → x ≠ .dead := by
  intro h e
  subst e
  exact h rfl

theorem sub_live {sh : Bool} {b : Nat} (h : live (C.sub sh) b) : ∃ x, C.H[b]? = some x ∧ x ≠ .dead ∧ (C.sub sh).H[b]? = some (entB x) := by
  obtain ⟨x, hx, hd⟩ := h
  have hx' : (C.H.map entB)[b]? = some x := hx
  rw [List.getElem?_map] at hx'
  cases hb : C.H[b]? with
  | none => rw [hb] at hx'; cases hx'
  | some y =>
    rw [hb] at hx'
    simp only [Option.map_some, Option.some.injEq] at hx'
    subst hx'
    exact ⟨y, rfl, entB_live hd, hx⟩

/-- The callee's memory. -/
theorem HeapR.sub (hH : HeapR C) (sh : Bool) : HeapR (C.sub sh) := by
  refine ⟨Nat.le_refl _, fun g p h => ?_, fun b x hx => ?_, fun b g p hl hf => ?_, fun b b' g p hl hl' hf hf' => ?_, fun b v hv => ?_, fun q hq => ?_⟩
  · cases sh
    · exact h.1
    · exact hH.st g p h
  · by_cases hd : x = .dead
    · subst hd; trivial
    obtain ⟨y, h1, h2, h3⟩ := sub_live (C := C) (sh := sh) ⟨x, hx, hd⟩
    rw [h3] at hx
    cases hx
    have hB := hH.blk b y h1
    cases y with
    | dead => trivial
    | cells ty l =>
      obtain ⟨k1, g, off, cs, ty', k2, k3, k4, k5⟩ := hB
      refine ⟨k1, g, off, cs, ty', k2, k3, by simpa using k4, fun j c hc => ?_⟩
      rw [List.getElem?_map] at hc
      cases hlj : l[j]? with
      | none => rw [hlj] at hc; cases hc
      | some c0 =>
        rw [hlj] at hc
        simp only [Option.map_some, Option.some.injEq] at hc
        subst hc
        rcases k5 j c0 hlj with rfl | ⟨q1, u, q2, q3⟩
        · exact .inl rfl
        · exact .inr ⟨q1, u, q2, entC_r hH q3⟩
    | arr t l m v h =>
      obtain ⟨k0, k1, k2, k3⟩ := hB
      refine ⟨k0, k1, fun e => ?_, ?_⟩
      · have : (C.sub sh).vn b = vnOf (C.sub sh).H b := rfl
        rw [this]
        unfold vnOf
        rw [h3]
        simp only [entB, e]
      · cases h with
        | none =>
          rcases k3 with k3 | ⟨g, off, cap, q1, q2⟩
          · exact .inl k3
          · refine .inr ⟨g, off, cap, q1, ?_⟩
            cases m with
            | un => exact q2
            | fr => exact fun i x hx => by obtain ⟨us, r1, r2⟩ := q2 i x hx; exact ⟨us, r1, Rd.mono (sub_Sf hH sh) (fun _ _ _ _ h => h) _ _ _ r2⟩
            | sh => exact fun i x hx => by obtain ⟨us, r1, r2⟩ := q2 i x hx; exact ⟨us, r1, Rd.mono (sub_Sf hH sh) (fun _ _ _ _ h => h) _ _ _ r2⟩
        | some q =>
          obtain ⟨q0, hr⟩ := k3
          exact ⟨by rw [q0]; rfl, hr⟩
    | mix t l n =>
      obtain ⟨k1, k3⟩ := hB
      refine ⟨k1, ?_⟩
      rcases k3 with k3 | ⟨g, off, cap, G, q1, q2, q3⟩
      · exact .inl k3
      · refine .inr ⟨g, off, cap, G, q1, q2, fun i x hx => ?_⟩
        obtain ⟨us, r1, r2, r3⟩ := q3 i x hx
        exact ⟨us, r1, r2, fun h => Rd.mono (sub_Sf hH sh) (fun _ _ _ _ h => h) _ _ _ (r3 h)⟩
    | bld t u s => trivial
  · obtain ⟨y, h1, h2, h3⟩ := sub_live hl
    obtain ⟨k1, k2, k3⟩ := hH.own b g p ⟨y, h1, h2⟩ hf
    refine ⟨?_, .inr ⟨b, ⟨y, h1, h2⟩, hf⟩, k3⟩
    cases sh
    · exact fun hs => hs.2 ⟨b, ⟨y, h1, h2⟩, hf⟩
    · exact k1
  · obtain ⟨y, h1, h2, _⟩ := sub_live hl
    obtain ⟨y', h1', h2', _⟩ := sub_live hl'
    exact hH.inj b b' g p ⟨y, h1, h2⟩ ⟨y', h1', h2'⟩ hf hf'
  · have hv : vnOf (C.sub sh).H b = some v := hv
    unfold vnOf at hv
    split at hv
    · rename_i t l v' h he
      cases hv
      exact ⟨t, l, h, he⟩
    · cases hv
  · obtain ⟨k1, k2⟩ := hH.gl q hq
    refine ⟨k1, fun p h => ?_⟩
    rcases h with h | ⟨b, h1, h2⟩
    · have h : C.w.heap.size ≤ q.1 := h
      exact absurd k1.lt (Nat.not_lt.2 h)
    · exact k2 p (hH.own b q.1 p h1 h2).2.1

theorem dec_undef : ∀ (t : Ty) (cs : List Cell) (x : t.den), dec t cs = some x → .undef ∈ cs → False := by
  intro t
  induction t with
  | pair a b iha ihb =>
    intro cs x h hm
    simp only [dec] at h
    split at h
    · cases h
    rename_i xa ha
    split at h
    · cases h
    rename_i xb hb
    rw [← List.take_append_drop a.width cs] at hm
    rcases List.mem_append.1 hm with hm | hm
    · exact iha _ _ ha hm
    · exact ihb _ _ hb hm
  | _ =>
    intro cs x h hm
    simp only [dec] at h
    split at h <;> first | (cases h; done) | (simp only [List.mem_singleton] at hm; subst hm; first | (cases h; done)) | (simp at hm; done)

/-! ### Data handed over -/

section
variable {D : Cx} (hw : D.w = C.w) (hS : ∀ g p, C.S g p → D.S g p) (hf : ∀ b g p, live C b → C.fp b g p → D.S g p) (hH : HeapR C)
include hw hS hf hH

theorem argC0_r {c : Cell} {v : Value} (h : CellR C c v) : CellR D (argC0 C.H c) v := by
  have hSf : ∀ f g p, C.Sf f g p → D.Sf false g p := fun f g p h => ⟨hS g p h.1, fun e => by cases e⟩
  cases c <;> simp only [argC0] <;> try exact h
  case own b =>
    split
    · rename_i t l m v' hb
      rw [h.2.2]
      have := own_rd hH hb (S := D.Sf false) (fun g p q => ⟨hf b g p (live_arr hb) q, fun e => by cases e⟩) (fun g p q => hSf _ g p q)
      show Rd D.w _ _ _ _
      rw [hw]
      exact this
    · trivial
  case nst b i o ver =>
    split
    · rename_i t l v' hb
      cases hv : Nat.beq v' ver
      · trivial
      simp only [cond_true]
      have := Nat.eq_of_beq_eq_true hv
      subst this
      split
      · rename_i u l' hg
        obtain ⟨F, h1, h2⟩ := nst_data hH hb h hg
        show Rd D.w _ _ _ _
        rw [hw]
        exact RdU.rd (.sl u) _ _ F (fun g p q => ⟨hf b g p (live_arr hb) (h1 g p q), fun e => by cases e⟩) h2
      · trivial
    · trivial
  case sl f t l =>
    show Rd D.w _ _ _ _
    rw [hw]
    exact Rd.mono (hSf f) (fun _ _ _ _ h => h) (.sl t) _ _ h
  case ptr b o => trivial
  case eptr b i o => trivial
  case neptr b i o v j q => trivial
  case nsv b i o v lo => trivial
  case sptr f t x o =>
    show SPtr D.w _ _ _ _ _
    rw [hw]
    exact SPtr.mono (hSf f) (fun _ _ _ _ h => h) h
  case fn f caps =>
    obtain ⟨vs, hv, hc⟩ := h
    refine ⟨vs, hv, ?_⟩
    rw [hw]
    exact CapsR.mono hS (fun _ _ _ _ h => h) _ _ hc
  case fnp f l => trivial

theorem argL0_r : ∀ {l : List Cell} {vs : List Value}, LR C l vs → LR D (l.map (argC0 C.H)) vs
  | [], [], _ => trivial
  | _ :: _, _ :: _, h => ⟨argC0_r hw hS hf hH h.1, argL0_r h.2⟩
  | [], _ :: _, h => h.elim
  | _ :: _, [], h => h.elim

theorem capsG_r {T : Nat → Option TI} (hfo : ∀ b g p, live C b → C.fp b g p → D.S g p) : ∀ (l : List Nat) (cs : List ((t : Ty) × t.den)) (vs : List Value), capsG T C.H l = some cs → PtrsR C.H.length C.ρ l vs → CapsR D.w D.S cs vs
  | [], cs, vs, h, hp => by
    cases h
    cases vs with
    | nil => trivial
    | cons v vs => exact hp.elim
  | b :: r, cs, vs, h, hp => by
    simp only [capsG] at h
    split at h
    case h_2 => cases h
    rename_i ty l hb
    split at h
    case h_2 => cases h
    rename_i ti hti
    split at h
    case h_2 => cases h
    rename_i y hy
    split at h
    case h_2 => cases h
    rename_i x hx
    split at h
    case h_2 => cases h
    rename_i cs' hcs
    cases h
    cases vs with
    | nil => exact hp.elim
    | cons v vs =>
      obtain ⟨⟨h1, hv⟩, h3⟩ := hp
      obtain ⟨hsh, g, off, cs, ty', hρ, hg, hle, hl⟩ := hH.blk b _ hb
      have hvals := cells_vals hg hle hl
      have hr := dec_r (C := D) (f := false) y _ x _ (argL0_r hw hS hf hH hvals) hx (fun e => by cases e)
      refine ⟨⟨g, off, _, ?_, Rd.mono (fun g p hs => hs.1) (fun _ _ _ _ h => h) _ _ _ hr, by rw [hv, hρ]; rfl⟩, capsG_r hfo r cs' vs hcs h3⟩
      intro j u hj
      rw [List.getElem?_take] at hj
      split at hj
      case isFalse => cases hj
      rename_i hjl
      rw [List.getElem?_drop] at hj
      cases hlj : l[j]? with
      | none => rw [List.getElem?_eq_none_iff] at hlj; omega
      | some c =>
        rcases hl j c hlj with rfl | ⟨q1, _⟩
        · exfalso
          have hm : (l.map (argC0 C.H))[j]? = some .undef := by rw [List.getElem?_map, hlj]; rfl
          exact dec_undef y _ x hx (List.mem_of_getElem? hm)
        · exact ⟨hfo b _ _ (live_of hb (by simp)) q1, by rw [hw, cell_at hg]; exact hj⟩

theorem argC_r {T : Nat → Option TI} {c : Cell} {v : Value} (h : CellR C c v) : CellR D (argC T C.H c) v := by
  unfold argC
  split
  · rename_i f l
    obtain ⟨vs, rfl, hp⟩ := h
    split
    · rename_i cs hcs
      exact ⟨vs, rfl, capsG_r hw hS hf hH hf l cs _ hcs hp⟩
    · trivial
  · exact argC0_r hw hS hf hH h
theorem argL_r {T : Nat → Option TI} : ∀ {l : List Cell} {vs : List Value}, LR C l vs → LR D (l.map (argC T C.H)) vs
  | [], [], _ => trivial
  | _ :: _, _ :: _, h => ⟨argC_r hw hS hf hH h.1, argL_r h.2⟩
  | [], _ :: _, h => h.elim
  | _ :: _, [], h => h.elim
theorem argTL_r {T : Nat → Option TI} : ∀ {l : List (Bool × List Cell)} {vs : List Value}, TL C l vs → TL D (l.map fun p => (p.1, p.2.map (argC T C.H))) vs
  | [], [], _ => trivial
  | (b, l) :: _, u :: _, h => by
    refine ⟨?_, argTL_r h.2⟩
    cases b
    · exact argL_r hw hS hf hH (vs := [u]) h.1
    · obtain ⟨vs, hv, hl⟩ := h.1; exact ⟨vs, hv, argL_r hw hS hf hH hl⟩
  | [], _ :: _, h => h.elim
  | _ :: _, [], h => h.elim
theorem argA_r {T : Nat → Option TI} {v : AV} {u : Value} (h : AVR C v u) : AVR D (argA T C.H v) u := by
  cases v with
  | c x => exact argC_r hw hS hf hH h
  | agg l => obtain ⟨vs, hv, hl⟩ := h; exact ⟨vs, hv, argL_r hw hS hf hH hl⟩
  | tup l => obtain ⟨vs, hv, hl⟩ := h; exact ⟨vs, hv, argTL_r hw hS hf hH hl⟩
end

/-! ### Blocks taken away -/

theorem killL_len : ∀ (σ : List Nat) (H : List Blk), (killL H σ).length = H.length
  | [], H => rfl
  | b :: σ, H => by simp [killL, killL_len σ]
theorem killL_r : ∀ (σ : List Nat) {C : Cx}, HeapR C → ∃ C', C'.H = killL C.H σ ∧ C.le C' ∧ HeapR C' ∧ C'.w = C.w ∧ C'.S = C.S ∧ C'.fp = C.fp ∧ ∀ i, live C' i → i ∉ σ ∧ live C i
  | [], C, hH => ⟨C, rfl, .refl C, hH, rfl, rfl, rfl, fun i h => ⟨by simp, h⟩⟩
  | b :: σ, C, hH => by
    by_cases hl : live C b
    · obtain ⟨h1, h2, _, h4⟩ := hH.kill hl rfl
      obtain ⟨C', k1, k2, k3, k4, k5, k6, k7⟩ := killL_r σ h2
      exact ⟨C', k1, h1.trans k2, k3, k4, k5, k6, fun i hi => by obtain ⟨q1, q2⟩ := k7 i hi; obtain ⟨q3, q4⟩ := h4 i q2; exact ⟨by simp [q1, q3], q4⟩⟩
    · have he : C.H.set b .dead = C.H := by
        apply List.ext_getElem?
        intro i
        by_cases e : b = i
        · subst e
          cases hb : C.H[b]? with
          | none => rw [List.getElem?_eq_none_iff] at hb ⊢; simpa using hb
          | some x =>
            have : x = .dead := Classical.byContradiction fun hd => hl ⟨x, hb, hd⟩
            rw [List.getElem?_set_self (List.getElem?_eq_some_iff.1 hb).1, this]
        · rw [List.getElem?_set_ne e]
      obtain ⟨C', k1, k2, k3, k4, k5, k6, k7⟩ := killL_r σ hH
      refine ⟨C', by rw [k1]; simp only [killL, he], k2, k3, k4, k5, k6, fun i hi => ?_⟩
      obtain ⟨q1, q2⟩ := k7 i hi
      refine ⟨?_, q2⟩
      simp only [List.mem_cons, not_or]
      exact ⟨fun e => hl (e ▸ q2), q1⟩
theorem deadL_r (hH : HeapR C) : ∃ C', C'.H = deadL C.H ∧ C.le C' ∧ HeapR C' ∧ C'.w = C.w ∧ C'.S = C.S ∧ ∀ i, ¬ live C' i := by
  refine ⟨{ C with H := deadL C.H, vn := fun _ => none }, rfl, ⟨rfl, rfl, fun _ _ h => h, fun _ _ _ _ h => h, by simp [deadL], fun _ _ => ⟨rfl, rfl⟩, fun _ _ => .inl rfl⟩, ⟨hH.base, hH.st, fun b x hx => ?_, fun b g p hl _ => ?_, fun b b' g p hl _ _ _ => ?_, fun b v h => (by cases h), hH.gl⟩, rfl, rfl, fun i => ?_⟩
  all_goals first
    | (simp only [deadL, List.getElem?_map, Option.map_eq_some_iff] at hx; obtain ⟨_, _, rfl⟩ := hx; trivial)
    | (obtain ⟨x, hx, hd⟩ := hl; simp only [deadL, List.getElem?_map, Option.map_eq_some_iff] at hx; obtain ⟨_, _, rfl⟩ := hx; exact absurd rfl hd)
    | (rintro ⟨x, hx, hd⟩; simp only [deadL, List.getElem?_map, Option.map_eq_some_iff] at hx; obtain ⟨_, _, rfl⟩ := hx; exact absurd rfl hd)

/-- What is handed over as data, in the callee's view. -/
def handH (sh : Bool) (H : List Blk) (σ : List Nat) : List Blk := bif sh then deadL H else killL H σ
theorem hand_r (hH : HeapR C) {sh : Bool} {σ : List Nat} (hn : nodupN σ = true) {T : Nat → Option TI} : ∃ Ck : Cx, Ck.H = handH sh C.H σ ∧ C.le Ck ∧ HeapR Ck ∧ ((C.ren σ).sub sh).w = Ck.w ∧ (∀ g p, Ck.S g p → ((C.ren σ).sub sh).S g p) ∧ ∀ b g p, live Ck b → Ck.fp b g p → ((C.ren σ).sub sh).S g p := by
  cases sh
  · obtain ⟨Ck, k1, k2, k3, k4, k5, k6, k7⟩ := killL_r σ hH
    refine ⟨Ck, k1, k2, k3, k4.symm, fun g p h => ?_, fun b g p h1 h2 => ?_⟩
    · rw [k5] at h
      exact sub_S (hH.ren hn) false g p h
    · obtain ⟨q1, q2⟩ := k7 b h1
      rw [k6] at h2
      obtain ⟨_, _, q3⟩ := hH.own b g p q2 h2
      refine ⟨q3, fun ⟨i, h3, h4⟩ => ?_⟩
      obtain ⟨b', y, z1, z2, z3, _⟩ := ren_live h3
      obtain ⟨_, e2, _⟩ := ren_at C z1
      rw [e2] at h4
      have := hH.inj b b' g p q2 ⟨y, z2, z3⟩ h2 h4
      subst this
      exact q1 (List.mem_of_getElem? z1)
  · obtain ⟨Ck, k1, k2, k3, k4, k5, k6⟩ := deadL_r hH
    exact ⟨Ck, k1, k2, k3, k4.symm, fun g p h => by rw [k5] at h; exact h, fun b g p h1 h2 => absurd h1 (k6 b)⟩
end
end Go.Proofs.YtcjfheidmlcbfaaGreatDoor.V
