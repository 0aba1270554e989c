/- The walk over a function's code is sound; what a function's contract follows from. -/
import Derived.Test.YtcjfheidmlcbfaaGreatDoorSV8b
set_option linter.unusedVariables false
set_option linter.unusedSimpArgs false
set_option linter.unusedSectionVars false
namespace Go.Proofs.YtcjfheidmlcbfaaGreatDoor.V
open Go.RowKit

section
variable {P : Program} {R : Type} {C : Cx} {r : R}

/-! ### Blocks under other numbers, those that nobody looks at left away -/

theorem posN_get : ∀ (σ : List Nat) (b i : Nat), posN σ b = some i → σ[i]? = some b
  | [], _, _, h => by cases h
  | a :: σ, b, i, h => by
    simp only [posN] at h
    cases hb : Nat.beq a b
    · rw [hb] at h
      simp only [cond_false] at h
      split at h
      · rename_i j hj
        cases h
        simpa using posN_get σ b j hj
      · cases h
    · rw [hb] at h
      simp only [cond_true, Option.some.injEq] at h
      subst h
      have := Nat.eq_of_beq_eq_true hb
      simp [this]

theorem memN_iff : ∀ (σ : List Nat) (b : Nat), memN σ b = true ↔ b ∈ σ
  | [], b => by simp [memN]
  | a :: σ, b => by
    simp only [memN, List.mem_cons]
    cases hb : Nat.beq a b
    · have : ¬ b = a := fun e => by rw [e, Nat.beq_refl] at hb; cases hb
      simp [memN_iff σ b, this]
    · have := Nat.eq_of_beq_eq_true hb
      simp [this]

theorem nodupN_inj : ∀ (σ : List Nat) (i j b : Nat), nodupN σ = true → σ[i]? = some b → σ[j]? = some b → i = j
  | [], i, j, b, _, h, _ => by simp at h
  | a :: σ, i, j, b, hn, h, h' => by
    simp only [nodupN] at hn
    cases hm : memN σ a
    · rw [hm] at hn
      have hna : a ∉ σ := fun e => by rw [(memN_iff σ a).2 e] at hm; cases hm
      cases i with
      | zero =>
        cases j with
        | zero => rfl
        | succ j =>
          simp only [List.getElem?_cons_zero, Option.some.injEq, List.getElem?_cons_succ] at h h'
          subst h
          exact absurd (List.mem_of_getElem? h') hna
      | succ i =>
        cases j with
        | zero =>
          simp only [List.getElem?_cons_zero, Option.some.injEq, List.getElem?_cons_succ] at h h'
          subst h'
          exact absurd (List.mem_of_getElem? h) hna
        | succ j =>
          simp only [List.getElem?_cons_succ] at h h'
          rw [nodupN_inj σ i j b hn h h']
    · rw [hm] at hn; cases hn

def vnOf (H : List Blk) (i : Nat) : Option Nat := match H[i]? with | some (.arr _ _ .un v _) => some v | _ => none

def Cx.ren (C : Cx) (σ : List Nat) : Cx := { C with H := σ.map fun b => renB σ (C.H.getD b .dead), ρ := fun i => C.ρ (σ.getD i 0), fp := fun i => C.fp (σ.getD i 0), sh := fun i => C.sh (σ.getD i 0), vn := vnOf (σ.map fun b => renB σ (C.H.getD b .dead)) }

theorem ren_at (C : Cx) {σ : List Nat} {i b : Nat} (h : σ[i]? = some b) : (C.ren σ).ρ i = C.ρ b ∧ (C.ren σ).fp i = C.fp b ∧ (C.ren σ).sh i = C.sh b ∧ (C.ren σ).H[i]? = some (renB σ (C.H.getD b .dead)) := by
  simp [Cx.ren, List.getD_eq_getElem?_getD, h]

theorem renC_r {σ : List Nat} {c : Cell} {u : Value} (h : CellR C c u) : CellR (C.ren σ) (renC σ c) u := by
  have hlt : ∀ b i, posN σ b = some i → i < (C.ren σ).H.length := fun b i hp => by
    have := (List.getElem?_eq_some_iff.1 (posN_get σ b i hp)).1
    simpa [Cx.ren] using this
  cases c <;> simp only [renC] <;> try exact h
  case own b =>
    split
    · rename_i i hp
      obtain ⟨h1, _⟩ := ren_at C (posN_get σ b i hp)
      exact ⟨h.1, hlt b i hp, h.2.2.trans h1.symm⟩
    · trivial
  case ptr b o =>
    split
    · rename_i i hp
      obtain ⟨h1, _⟩ := ren_at C (posN_get σ b i hp)
      obtain ⟨k1, k2, g, off, k3, k4⟩ := h
      exact ⟨k1, hlt b i hp, g, off, h1.trans k3, k4⟩
    · trivial
  case eptr b j o =>
    split
    · rename_i i hp
      obtain ⟨h1, _, h3, _⟩ := ren_at C (posN_get σ b i hp)
      obtain ⟨k1, k2, t, g, off, n, cap, k3, k4, k5⟩ := h
      exact ⟨k1, hlt b i hp, t, g, off, n, cap, h3.trans k3, h1.trans k4, k5⟩
    · trivial
  case nst b j o v => trivial
  case neptr b i o v j q => trivial
  case nsv b i o v lo => trivial
  case fnp f l => trivial
theorem renL_r {σ : List Nat} : ∀ {l : List Cell} {vs : List Value}, LR C l vs → LR (C.ren σ) (l.map (renC σ)) vs
  | [], [], _ => trivial
  | _ :: _, _ :: _, h => ⟨renC_r h.1, renL_r h.2⟩
  | [], _ :: _, h => h.elim
  | _ :: _, [], h => h.elim
theorem renTL_r {σ : List Nat} : ∀ {l : List (Bool × List Cell)} {vs : List Value}, TL C l vs → TL (C.ren σ) (l.map fun p => (p.1, p.2.map (renC σ))) vs
  | [], [], _ => trivial
  | (b, l) :: _, u :: _, h => by
    refine ⟨?_, renTL_r h.2⟩
    cases b
    · exact renL_r (vs := [u]) h.1
    · obtain ⟨vs, hv, hl⟩ := h.1; exact ⟨vs, hv, renL_r hl⟩
  | [], _ :: _, h => h.elim
  | _ :: _, [], h => h.elim
theorem renA_r {σ : List Nat} {v : AV} {u : Value} (h : AVR C v u) : AVR (C.ren σ) (renA σ v) u := by
  cases v with
  | c x => exact renC_r h
  | agg l => obtain ⟨vs, hv, hl⟩ := h; exact ⟨vs, hv, renL_r hl⟩
  | tup l => obtain ⟨vs, hv, hl⟩ := h; exact ⟨vs, hv, renTL_r hl⟩
theorem AL.ren {σ : List Nat} : ∀ {l : List AV} {vs : List Value}, AL C l vs → AL (C.ren σ) (l.map (renA σ)) vs
  | [], [], _ => trivial
  | _ :: _, _ :: _, h => ⟨renA_r h.1, AL.ren h.2⟩
  | [], _ :: _, h => h.elim
  | _ :: _, [], h => h.elim

theorem Blk.renB_dead {σ : List Nat} {x : Blk} : renB σ x ≠ .dead → x ≠ .dead := by
  intro h e
  subst e
  exact h rfl

/-- A live block behind the renaming, and what it was. -/
theorem ren_live {σ : List Nat} {i : Nat} (h : live (C.ren σ) i) : ∃ b x, σ[i]? = some b ∧ C.H[b]? = some x ∧ x ≠ .dead ∧ (C.ren σ).H[i]? = some (renB σ x) := by
  obtain ⟨x, hx, hd⟩ := h
  cases hσ : σ[i]? with
  | none => simp [Cx.ren, hσ] at hx
  | some b =>
    obtain ⟨_, _, _, h4⟩ := ren_at C hσ
    rw [h4] at hx
    cases hx
    have hd' := Blk.renB_dead hd
    cases hb : C.H[b]? with
    | none => simp [List.getD_eq_getElem?_getD, hb] at hd'
    | some y =>
      have e : C.H.getD b .dead = y := by simp [List.getD_eq_getElem?_getD, hb]
      rw [e] at hd' h4
      exact ⟨b, y, rfl, hb, hd', h4⟩

theorem HeapR.ren (hH : HeapR C) {σ : List Nat} (hn : nodupN σ = true) : HeapR (C.ren σ) := by
  refine ⟨hH.base, hH.st, ?_, ?_, ?_, ?_, hH.gl⟩
  · intro i x hx
    by_cases hd : x = .dead
    · subst hd; trivial
    obtain ⟨b, y, h1, h2, h3, h4⟩ := ren_live (C := C) (σ := σ) (i := i) ⟨x, hx, hd⟩
    rw [h4] at hx
    cases hx
    obtain ⟨e1, e2, e3, _⟩ := ren_at C h1
    have hB := hH.blk b y h2
    cases y with
    | dead => trivial
    | cells ty l =>
      obtain ⟨k1, g, off, cs, ty', k2, k3, k4, k5⟩ := hB
      refine ⟨e3.trans k1, g, off, cs, ty', e1.trans k2, k3, by simpa using k4, fun j c hc => ?_⟩
      rw [List.getElem?_map] at hc
      cases hlj : l[j]? with
      | none => rw [hlj] at hc; cases hc
      | some c0 =>
        rw [hlj] at hc
        simp only [Option.map_some, Option.some.injEq] at hc
        subst hc
        rcases k5 j c0 hlj with rfl | ⟨q1, u, q2, q3⟩
        · exact .inl rfl
        · exact .inr ⟨by rw [e2]; exact q1, u, q2, renC_r q3⟩
    | arr t l m v h =>
      obtain ⟨k0, k1, k2, k3⟩ := hB
      refine ⟨k0, e3.trans k1, fun e => ?_, ?_⟩
      · subst e
        have : (C.ren σ).vn i = vnOf (C.ren σ).H i := rfl
        rw [this]
        unfold vnOf
        rw [h4]
        rfl
      · cases h with
        | none =>
          show RowR (C.ren σ) i t l m
          have k3 : RowR C b t l m := k3
          unfold RowR at *
          rw [e1, e2]
          rcases k3 with k3 | ⟨g, off, cap, q1, q2⟩
          · exact .inl k3
          · refine .inr ⟨g, off, cap, q1, ?_⟩
            cases m with
            | un => obtain ⟨G, r1, r2⟩ := q2; exact ⟨G, by rw [e2]; exact r1, r2⟩
            | fr => exact q2
            | sh => exact q2
        | some q =>
          obtain ⟨q0, g, off, cap, G, q1, q2, q3⟩ := k3
          exact ⟨q0, g, off, cap, G, by rw [e1, e2]; exact q1, by rw [e2]; exact q2, q3⟩
    | mix t l n =>
      obtain ⟨k1, k3⟩ := hB
      refine ⟨e3.trans k1, ?_⟩
      unfold RowM at *
      rw [e1, e2]
      exact k3
    | bld t u s =>
      obtain ⟨k1, g, p, v, k2, k3, k4, k5, k6, k7⟩ := hB
      refine ⟨e3.trans k1, g, p, v, k2, e1.trans k3, k4, k5, by rw [e2]; exact k6, ?_⟩
      rw [e2]
      exact k7
  · intro i g p hl hf
    obtain ⟨b, y, h1, h2, h3, _⟩ := ren_live hl
    obtain ⟨_, e2, _, _⟩ := ren_at C h1
    rw [e2] at hf
    exact hH.own b g p ⟨y, h2, h3⟩ hf
  · intro i j g p hl hl' hf hf'
    obtain ⟨b, y, h1, h2, h3, _⟩ := ren_live hl
    obtain ⟨b', y', h1', h2', h3', _⟩ := ren_live hl'
    obtain ⟨_, e2, _, _⟩ := ren_at C h1
    obtain ⟨_, e2', _, _⟩ := ren_at C h1'
    rw [e2] at hf
    rw [e2'] at hf'
    have := hH.inj b b' g p ⟨y, h2, h3⟩ ⟨y', h2', h3'⟩ hf hf'
    subst this
    exact nodupN_inj σ i j b hn h1 h1'
  · intro i v hv
    have hv : vnOf (C.ren σ).H i = some v := hv
    unfold vnOf at hv
    split at hv
    · rename_i t l v' h he
      cases hv
      exact ⟨t, l, h, he⟩
    · cases hv

/-! ### How what a row leads to is held, weakened -/

theorem demBs_r : ∀ (ms : List Md) (l pre : List Blk) {C : Cx}, C.H = pre ++ l → HeapR C → ∃ C', C'.H = pre ++ demBs ms l ∧ C.le C' ∧ HeapR C' ∧ Frm C C' ∧ C'.w = C.w ∧ C'.ρ = C.ρ ∧ C'.sh = C.sh
  | [], l, pre, C, hh, hH => ⟨C, by simpa [demBs] using hh, .refl C, hH, .refl C, rfl, rfl, rfl⟩
  | m :: ms, [], pre, C, hh, hH => ⟨C, by simpa [demBs] using hh, .refl C, hH, .refl C, rfl, rfl, rfl⟩
  | m :: ms, b :: l, pre, C, hh, hH => by
    have next : ∀ {C1 : Cx} {b' : Blk}, C1.H = pre ++ b' :: l → b' = demB m b → C.le C1 → HeapR C1 → Frm C C1 → C1.w = C.w → C1.ρ = C.ρ → C1.sh = C.sh → ∃ C', C'.H = pre ++ demBs (m :: ms) (b :: l) ∧ C.le C' ∧ HeapR C' ∧ Frm C C' ∧ C'.w = C.w ∧ C'.ρ = C.ρ ∧ C'.sh = C.sh := by
      intro C1 b' h1 h2 h3 h4 h5 h6 h7 h8
      obtain ⟨C', k1, k2, k3, k4, k5, k6, k7⟩ := demBs_r ms l (pre ++ [b']) (C := C1) (by rw [h1]; simp) h4
      exact ⟨C', by rw [k1, h2]; simp [demBs], h3.trans k2, k3, h5.trans h3 k4, k5.trans h6, k6.trans h7, k7.trans h8⟩
    have same : demB m b = b → ∃ C', C'.H = pre ++ demBs (m :: ms) (b :: l) ∧ C.le C' ∧ HeapR C' ∧ Frm C C' ∧ C'.w = C.w ∧ C'.ρ = C.ρ ∧ C'.sh = C.sh := fun e => next hh e.symm (.refl C) hH (.refl C) rfl rfl rfl
    have hget : C.H[pre.length]? = some b := by rw [hh, List.getElem?_append_right (Nat.le_refl _)]; simp
    cases b with
    | dead => exact same rfl
    | cells ty l' => exact same rfl
    | mix t l' n => exact same rfl
    | bld t u s => exact same rfl
    | arr t l' m' v h =>
      have dem : ∀ m2, h = none → demB m (.arr t l' m' v h) = .arr t l' m2 v h → ((m' = .un ∧ m2 ≠ .un) ∨ (m' = .fr ∧ m2 = .sh)) → ∃ C', C'.H = pre ++ demBs (m :: ms) (.arr t l' m' v h :: l) ∧ C.le C' ∧ HeapR C' ∧ Frm C C' ∧ C'.w = C.w ∧ C'.ρ = C.ρ ∧ C'.sh = C.sh := by
        intro m2 hn e hw
        subst hn
        obtain ⟨C1, q1, q2, q3, q4, q5, q6, q7⟩ := hH.dem1 (m' := m2) hget hw
        refine next ?_ e.symm q2 q3 q4 q5 q6 q7
        rw [q1, hh, List.set_append_right _ _ (Nat.le_refl _)]
        simp
      cases h with
      | some q => cases m <;> cases m' <;> exact same rfl
      | none =>
      cases m <;> cases m' <;> first | exact same rfl | exact dem _ rfl rfl (.inl ⟨rfl, by simp⟩) | exact dem _ rfl rfl (.inr ⟨rfl, rfl⟩)

theorem reach_acc (H : List Blk) : ∀ (n : Nat) (work acc : List Nat), ∃ l, reach H n work acc = acc ++ l
  | 0, work, acc => ⟨[], by simp [reach]⟩
  | n + 1, [], acc => ⟨[], by simp [reach]⟩
  | n + 1, b :: r, acc => by
    simp only [reach]
    cases memN acc b
    · simp only [cond_false]
      split
      · obtain ⟨l, h⟩ := reach_acc H n _ (acc ++ [b]); exact ⟨b :: l, by rw [h]; simp⟩
      · obtain ⟨l, h⟩ := reach_acc H n _ (acc ++ [b]); exact ⟨b :: l, by rw [h]; simp⟩
      · obtain ⟨l, h⟩ := reach_acc H n _ (acc ++ [b]); exact ⟨b :: l, by rw [h]; simp⟩
      · obtain ⟨l, h⟩ := reach_acc H n _ (acc ++ [b]); exact ⟨b :: l, by rw [h]; simp⟩
      · exact reach_acc H n _ acc
    · exact reach_acc H n _ acc

theorem along_get {np : Nat} {vs : List AV} {H : List Blk} {i : Nat} (hi : i < np) : (along np vs H)[i]? = some i := by
  unfold along
  obtain ⟨l, h⟩ := reach_acc H 1000 (refsBs (H.take np) ++ refsAs vs) (List.range np)
  rw [h, List.getElem?_append_left (by simpa using hi), List.getElem?_range hi]

/-! ### What stands behind a place -/

/-- A loop's item, a round being behind it. -/
def lpWp (P : Program) (c : Code) (Q : Exit → Act → World → Prop) (a : Act) (w : World) : Prop :=
  ∀ (b : Frame) (k : List Item) (cs : List Frame), ∃ e a' w', Q e a' w' ∧ Arrives P (lone (b.at a (.inLoop c :: k)) cs w) b k cs e a' w'

def after (P : Program) : List It → (Act → World → Prop) → Exit → Act → World → Prop
  | [], Q, e, a, w => match e with
    | .normal => Q a w
    | .ret => Q a w
    | _ => False
  | .code c :: K, Q, e, a, w => match e with
    | .normal => c.wp P (after P K Q) a w
    | e => after P K Q e a w
  | .blk id :: K, Q, e, a, w => match e with
    | .exit i => if i = id then after P K Q .normal a w else after P K Q (.exit i) a w
    | e => after P K Q e a w
  | .lp c :: K, Q, e, a, w => match e with
    | .normal => lpWp P c (after P K Q) a w
    | e => after P K Q e a w
  | .rg id ops d :: K, Q, e, a, w => match e with
    | .normal => (Code.region id ops d).wp P (after P K Q) a w
    | e => after P K Q e a w

theorem after_ret {Q : Act → World → Prop} {a : Act} {w : World} (h : Q a w) : ∀ K, after P K Q .ret a w
  | [] => h
  | .code _ :: K => after_ret h K
  | .blk _ :: K => after_ret h K
  | .lp _ :: K => after_ret h K
  | .rg _ _ _ :: K => after_ret h K

theorem after_exit {Q : Act → World → Prop} {a : Act} {w : World} {id : Nat} : ∀ {K K' : List It}, popTo id K = some K' → after P K' Q .normal a w → after P K Q (.exit id) a w
  | [], _, h, _ => by cases h
  | .code _ :: K, K', h, hq => after_exit (K := K) h hq
  | .lp _ :: K, K', h, hq => after_exit (K := K) h hq
  | .rg _ _ _ :: K, K', h, hq => after_exit (K := K) h hq
  | .blk i :: K, K', h, hq => by
    simp only [popTo] at h
    show (if id = i then after P K Q .normal a w else after P K Q (.exit id) a w)
    cases hb : Nat.beq i id
    · rw [hb] at h
      have hne : ¬ id = i := fun e => by rw [e, Nat.beq_refl] at hb; cases hb
      rw [if_neg hne]
      exact after_exit (K := K) h hq
    · rw [hb] at h
      cases h
      rw [if_pos (Nat.eq_of_beq_eq_true hb).symm]
      exact hq

theorem then_lp {c : Code} {K : List It} {Q : Act → World → Prop} (e : Exit) (a : Act) (w : World) (h : after P (.lp c :: K) Q e a w) : Exit.then (lpWp P c (after P K Q)) (after P K Q) e a w := by
  cases e <;> exact h

theorem loop_code {c : Code} {K : List It} {Q : Act → World → Prop} {a : Act} {w : World} (h : after P (.code c :: .lp c :: K) Q .normal a w) : (Code.loop c).wp P (after P K Q) a w := by
  have h' : c.wp P (Exit.then (lpWp P c (after P K Q)) (after P K Q)) a w := wp_mono h then_lp
  intro b k cs
  obtain ⟨e, a₁, w₁, hq, harr⟩ := h' b (.inLoop c :: k) cs
  cases e with
  | normal =>
    obtain ⟨e₂, a₂, w₂, hq₂, harr₂⟩ := hq b k cs
    exact ⟨e₂, a₂, w₂, hq₂, .of_steps (Steps.head step_loop harr) harr₂⟩
  | exit id => exact ⟨_, a₁, w₁, hq, .of_steps (.one step_loop) (.pass (x := .inLoop c) rfl (fun _ _ => .inl (by simp)) harr)⟩
  | goto l => exact ⟨_, a₁, w₁, hq, .of_steps (.one step_loop) (.pass (x := .inLoop c) rfl (fun _ _ => .inl (by simp)) harr)⟩
  | ret => exact ⟨_, a₁, w₁, hq, .of_steps (.one step_loop) (.pass (x := .inLoop c) rfl (fun _ _ => .inl (by simp)) harr)⟩
  | panic ch => exact ⟨_, a₁, w₁, hq, .of_steps (.one step_loop) (.pass (x := .inLoop c) rfl (fun _ _ => .inl (by simp)) harr)⟩
  | outgrown => exact ⟨_, a₁, w₁, hq, .of_steps (b := b) (k := k) (cs := cs) (e := .outgrown) (.one step_loop) harr⟩

theorem loop_lp {c : Code} {K : List It} {Q : Act → World → Prop} {a : Act} {w : World} (h : after P (.code c :: .lp c :: K) Q .normal a w) : lpWp P c (after P K Q) a w := by
  have h' : c.wp P (Exit.then (lpWp P c (after P K Q)) (after P K Q)) a w := wp_mono h then_lp
  intro b k cs
  obtain ⟨e, a₁, w₁, hq, harr⟩ := h' b (.inLoop c :: k) cs
  cases e with
  | normal =>
    obtain ⟨e₂, a₂, w₂, hq₂, harr₂⟩ := hq b k cs
    exact ⟨e₂, a₂, w₂, hq₂, .of_steps (Steps.head step_inLoop harr) harr₂⟩
  | exit id => exact ⟨_, a₁, w₁, hq, .of_steps (.one step_inLoop) (.pass (x := .inLoop c) rfl (fun _ _ => .inl (by simp)) harr)⟩
  | goto l => exact ⟨_, a₁, w₁, hq, .of_steps (.one step_inLoop) (.pass (x := .inLoop c) rfl (fun _ _ => .inl (by simp)) harr)⟩
  | ret => exact ⟨_, a₁, w₁, hq, .of_steps (.one step_inLoop) (.pass (x := .inLoop c) rfl (fun _ _ => .inl (by simp)) harr)⟩
  | panic ch => exact ⟨_, a₁, w₁, hq, .of_steps (.one step_inLoop) (.pass (x := .inLoop c) rfl (fun _ _ => .inl (by simp)) harr)⟩
  | outgrown => exact ⟨_, a₁, w₁, hq, .of_steps (b := b) (k := k) (cs := cs) (e := .outgrown) (.one step_inLoop) harr⟩

/-! ### Places by their labels -/

def labelsC : Code → List Nat
  | .seq a b => labelsC a ++ labelsC b
  | .cond _ a b => labelsC a ++ labelsC b
  | .block _ c => labelsC c
  | .loop c => loopLbl c :: labelsC c
  | .region id _ _ => [2 * id + 1]
  | _ => []

/-- What stands behind the place of a label. -/
def stkAt (lbl : Nat) : Code → List It → Option (List It)
  | .seq a b, K => match stkAt lbl a (.code b :: K) with | some x => some x | none => stkAt lbl b K
  | .cond _ a b, K => match stkAt lbl a K with | some x => some x | none => stkAt lbl b K
  | .block id c, K => stkAt lbl c (.blk id :: K)
  | .loop c, K => cond (Nat.beq (loopLbl c) lbl) (some (.code c :: .lp c :: K)) (stkAt lbl c (.lp c :: K))
  | .region id ops d, K => cond (Nat.beq (2 * id + 1) lbl) (some (.rg id ops d :: K)) none
  | _, _ => none

def stkOf (body : Code) (lbl : Nat) : List It := match stkAt lbl body [] with | some K => K | none => []

def chkC (stk : Nat → List It) : Code → List It → Prop
  | .seq a b, K => chkC stk a (.code b :: K) ∧ chkC stk b K
  | .cond _ a b, K => chkC stk a K ∧ chkC stk b K
  | .block id c, K => chkC stk c (.blk id :: K)
  | .loop c, K => stk (loopLbl c) = .code c :: .lp c :: K ∧ chkC stk c (.lp c :: K)
  | .region id ops d, K => stk (2 * id + 1) = .rg id ops d :: K
  | _, _ => True
def chkK (stk : Nat → List It) : List It → Prop
  | [] => True
  | .code c :: K => chkC stk c K ∧ chkK stk K
  | .blk _ :: K => chkK stk K
  | .rg _ _ _ :: K => chkK stk K
  | .lp c :: K => (stk (loopLbl c) = .code c :: .lp c :: K ∧ chkC stk c (.lp c :: K)) ∧ chkK stk K

theorem beq_false {a b : Nat} (h : a ≠ b) : Nat.beq a b = false := by
  cases hb : Nat.beq a b
  · rfl
  · exact absurd (Nat.eq_of_beq_eq_true hb) h

theorem stkAt_none {lbl : Nat} : ∀ (c : Code) (K : List It), lbl ∉ labelsC c → stkAt lbl c K = none := by
  intro c
  induction c with
  | seq a b iha ihb => intro K h; simp only [labelsC, List.mem_append, not_or] at h; simp only [stkAt, iha _ h.1, ihb _ h.2]
  | cond x a b iha ihb => intro K h; simp only [labelsC, List.mem_append, not_or] at h; simp only [stkAt, iha _ h.1, ihb _ h.2]
  | block id c ih => intro K h; exact ih _ h
  | loop c ih =>
    intro K h
    simp only [labelsC, List.mem_cons, not_or] at h
    simp only [stkAt, ih _ h.2, beq_false (fun e => h.1 e.symm), cond_false]
  | region id ops d =>
    intro K h
    simp only [labelsC, List.mem_singleton] at h
    simp only [stkAt, beq_false (fun e => h e.symm), cond_false]
  | _ => intro K h; rfl

theorem stkAt_some {lbl : Nat} : ∀ (c : Code) (K : List It), lbl ∈ labelsC c → ∃ x, stkAt lbl c K = some x := by
  intro c
  induction c with
  | seq a b iha ihb =>
    intro K h
    simp only [stkAt]
    cases hx : stkAt lbl a (.code b :: K) with
    | some x => exact ⟨x, rfl⟩
    | none =>
      simp only [labelsC, List.mem_append] at h
      rcases h with h | h
      · obtain ⟨x, e⟩ := iha (.code b :: K) h; rw [hx] at e; cases e
      · exact ihb K h
  | cond x a b iha ihb =>
    intro K h
    simp only [stkAt]
    cases hx : stkAt lbl a K with
    | some x => exact ⟨x, rfl⟩
    | none =>
      simp only [labelsC, List.mem_append] at h
      rcases h with h | h
      · obtain ⟨x, e⟩ := iha K h; rw [hx] at e; cases e
      · exact ihb K h
  | block id c ih => intro K h; exact ih _ h
  | loop c ih =>
    intro K h
    simp only [labelsC, List.mem_cons] at h
    simp only [stkAt]
    cases hb : Nat.beq (loopLbl c) lbl
    · rcases h with h | h
      · rw [h, Nat.beq_refl] at hb; cases hb
      · exact ih _ h
    · exact ⟨_, rfl⟩
  | region id ops d =>
    intro K h
    simp only [labelsC, List.mem_singleton] at h
    exact ⟨.rg id ops d :: K, by simp only [stkAt, h, Nat.beq_refl, cond_true]⟩
  | _ => intro K h; simp [labelsC] at h

theorem nodup_append : ∀ (l l' : List Nat), nodupN (l ++ l') = true → nodupN l = true ∧ nodupN l' = true ∧ ∀ x ∈ l, x ∉ l'
  | [], l', h => ⟨rfl, h, fun _ hx => by cases hx⟩
  | a :: l, l', h => by
    simp only [List.cons_append, nodupN] at h
    cases hm : memN (l ++ l') a
    · rw [hm] at h
      have hna : a ∉ l ++ l' := fun e => by rw [(memN_iff _ a).2 e] at hm; cases hm
      simp only [List.mem_append, not_or] at hna
      obtain ⟨h1, h2, h3⟩ := nodup_append l l' h
      refine ⟨?_, h2, fun x hx => ?_⟩
      · simp only [nodupN]
        cases hml : memN l a
        · exact h1
        · exact absurd ((memN_iff _ a).1 hml) hna.1
      · rcases List.mem_cons.1 hx with rfl | hx
        · exact hna.2
        · exact h3 x hx
    · rw [hm] at h; cases h

theorem chk_of {stk : Nat → List It} : ∀ (c : Code) (K : List It), nodupN (labelsC c) = true → (∀ lbl ∈ labelsC c, some (stk lbl) = stkAt lbl c K) → chkC stk c K := by
  intro c
  induction c with
  | seq a b iha ihb =>
    intro K hn h
    obtain ⟨h1, h2, h3⟩ := nodup_append _ _ hn
    refine ⟨iha _ h1 fun l hl => ?_, ihb _ h2 fun l hl => ?_⟩
    · rw [h l (List.mem_append_left _ hl)]
      simp only [stkAt]
      obtain ⟨x, hx⟩ := stkAt_some a (.code b :: K) hl
      rw [hx]
    · rw [h l (List.mem_append_right _ hl)]
      simp only [stkAt]
      rw [stkAt_none a (.code b :: K) (fun e => h3 l e hl)]
  | cond x a b iha ihb =>
    intro K hn h
    obtain ⟨h1, h2, h3⟩ := nodup_append _ _ hn
    refine ⟨iha _ h1 fun l hl => ?_, ihb _ h2 fun l hl => ?_⟩
    · rw [h l (List.mem_append_left _ hl)]
      simp only [stkAt]
      obtain ⟨x, hx⟩ := stkAt_some a K hl
      rw [hx]
    · rw [h l (List.mem_append_right _ hl)]
      simp only [stkAt]
      rw [stkAt_none a K (fun e => h3 l e hl)]
  | block id c ih => intro K hn h; exact ih _ hn h
  | loop c ih =>
    intro K hn h
    simp only [labelsC, nodupN] at hn
    cases hm : memN (labelsC c) (loopLbl c)
    · rw [hm] at hn
      have hna : loopLbl c ∉ labelsC c := fun e => by rw [(memN_iff _ _).2 e] at hm; cases hm
      refine ⟨?_, ih _ hn fun l hl => ?_⟩
      · have := h (loopLbl c) (by simp [labelsC])
        simp only [stkAt, Nat.beq_refl, cond_true, Option.some.injEq] at this
        exact this
      · have := h l (by simp [labelsC, hl])
        simp only [stkAt, beq_false (fun (e : loopLbl c = l) => hna (by rw [e]; exact hl)), cond_false] at this
        exact this
    · rw [hm] at hn; cases hn
  | region id ops d =>
    intro K hn h
    have := h (2 * id + 1) (by simp [labelsC])
    simp only [stkAt, Nat.beq_refl, cond_true, Option.some.injEq] at this
    exact this
  | _ => intro K hn h; trivial

theorem chk_body {body : Code} (hn : nodupN (labelsC body) = true) : chkC (stkOf body) body [] :=
  chk_of body [] hn fun lbl hl => by
    obtain ⟨x, hx⟩ := stkAt_some body [] hl
    unfold stkOf
    rw [hx]

theorem chk_at {stk : Nat → List It} {lbl : Nat} : ∀ (c : Code) (K K' : List It), chkC stk c K → chkK stk K → stkAt lbl c K = some K' → chkK stk K' := by
  intro c
  induction c with
  | seq a b iha ihb =>
    intro K K' h hK hs
    simp only [stkAt] at hs
    split at hs
    · rename_i x hx; cases hs; exact iha _ _ h.1 ⟨h.2, hK⟩ hx
    · exact ihb _ _ h.2 hK hs
  | cond x a b iha ihb =>
    intro K K' h hK hs
    simp only [stkAt] at hs
    split at hs
    · rename_i x hx; cases hs; exact iha _ _ h.1 hK hx
    · exact ihb _ _ h.2 hK hs
  | block id c ih => intro K K' h hK hs; exact ih _ _ h hK hs
  | loop c ih =>
    intro K K' h hK hs
    simp only [stkAt] at hs
    cases hb : Nat.beq (loopLbl c) lbl
    · rw [hb] at hs; exact ih _ _ h.2 ⟨h, hK⟩ hs
    · rw [hb] at hs; cases hs; exact ⟨h.2, h, hK⟩
  | region id ops d =>
    intro K K' h hK hs
    simp only [stkAt] at hs
    cases hb : Nat.beq (2 * id + 1) lbl
    · rw [hb] at hs; cases hs
    · rw [hb] at hs; cases hs; exact hK
  | _ => intro K K' h hK hs; cases hs

theorem chk_stk {body : Code} (hn : nodupN (labelsC body) = true) (lbl : Nat) : chkK (stkOf body) (stkOf body lbl) := by
  have h := chk_body hn
  cases hs : stkAt lbl body [] with
  | none => unfold stkOf; rw [hs]; trivial
  | some K =>
    have : stkOf body lbl = K := by unfold stkOf; rw [hs]
    rw [this]
    exact chk_at body [] K h trivial hs
end
end Go.Proofs.YtcjfheidmlcbfaaGreatDoor.V
