/- The walk over a function's code is sound; what a function's contract follows from. -/
import Derived.Test.YtgagpmiooeoodaaGreatA8b
set_option linter.unusedVariables false
set_option linter.unusedSimpArgs false
set_option linter.unusedSectionVars false
namespace Go.Proofs.YtgagpmiooeoodaaGreat.A
open Go.RowKit

section
variable {P : Program} {R : Type} {C : Cx} {r : R}

/-! ### Blocks under other numbers, those that nobody looks at left away -/

theorem posN_get : ∀ (σ : List Nat) (b i : Nat), posN σ b = some i → σ[i]? = some b
  | [], _, _, h => by cases h
  | a :: σ, b, i, h => by
    simp only [posN] at h
    cases hb : Nat.beq a b
    · rw [hb] at h
      simp only [cond_false] at h
      split at h
      · rename_i j hj
        cases h
        simpa using posN_get σ b j hj
      · cases h
    · rw [hb] at h
      simp only [cond_true, Option.some.injEq] at h
      subst h
      have := Nat.eq_of_beq_eq_true hb
      simp [this]

theorem memN_iff : ∀ (σ : List Nat) (b : Nat), memN σ b = true ↔ b ∈ σ
  | [], b => by simp [memN]
  | a :: σ, b => by
    simp only [memN, List.mem_cons]
    cases hb : Nat.beq a b
    · have : ¬ b = a := fun e => by rw [e, Nat.beq_refl] at hb; cases hb
      simp [memN_iff σ b, this]
    · have := Nat.eq_of_beq_eq_true hb
      simp [this]

theorem nodupN_inj : ∀ (σ : List Nat) (i j b : Nat), nodupN σ = true → σ[i]? = some b → σ[j]? = some b → i = j
  | [], i, j, b, _, h, _ => by simp at h
  | a :: σ, i, j, b, hn, h, h' => by
    simp only [nodupN] at hn
    cases hm : memN σ a
    · rw [hm] at hn
      have hna : a ∉ σ := fun e => by rw [(memN_iff σ a).2 e] at hm; cases hm
      cases i with
      | zero =>
        cases j with
        | zero => rfl
        | succ j =>
          simp only [List.getElem?_cons_zero, Option.some.injEq, List.getElem?_cons_succ] at h h'
          subst h
          exact absurd (List.mem_of_getElem? h') hna
      | succ i =>
        cases j with
        | zero =>
          simp only [List.getElem?_cons_zero, Option.some.injEq, List.getElem?_cons_succ] at h h'
          subst h'
          exact absurd (List.mem_of_getElem? h) hna
        | succ j =>
          simp only [List.getElem?_cons_succ] at h h'
          rw [nodupN_inj σ i j b hn h h']
    · rw [hm] at hn; cases hn

def Cx.ren (C : Cx) (σ : List Nat) : Cx := { C with H := σ.map fun b => renB σ (C.H.getD b .dead), ρ := fun i => C.ρ (σ.getD i 0) }

theorem ren_shp (C : Cx) {σ : List Nat} {i b : Nat} (h : σ[i]? = some b) : shp (C.ren σ).H i = shp C.H b ∧ (C.ren σ).ρ i = C.ρ b := by
  refine ⟨?_, by simp [Cx.ren, List.getD_eq_getElem?_getD, h]⟩
  unfold shp Cx.ren
  simp only [List.getElem?_map, h, Option.map_some, List.getD_eq_getElem?_getD]
  cases C.H[b]? with
  | none => rfl
  | some x => cases x <;> rfl

theorem renC_r {σ : List Nat} {c : Cell} {u : Value} (h : CellR C c u) : CellR (C.ren σ) (renC σ c) u := by
  have hlt : ∀ b i, posN σ b = some i → i < (C.ren σ).H.length := fun b i hp => by
    have := (List.getElem?_eq_some_iff.1 (posN_get σ b i hp)).1
    simpa [Cx.ren] using this
  cases c <;> simp only [renC] <;> try exact h
  case own b =>
    split
    · rename_i i hp
      obtain ⟨h1, h2⟩ := ren_shp C (posN_get σ b i hp)
      exact ⟨h.1, hlt b i hp, fun t n hs => by rw [h2]; exact h.2.2 t n (h1 ▸ hs)⟩
    · trivial
  case ptr b o =>
    split
    · rename_i i hp
      obtain ⟨h1, h2⟩ := ren_shp C (posN_get σ b i hp)
      exact ⟨h.1, hlt b i hp, fun hs => by rw [h2]; exact h.2.2 (h1 ▸ hs)⟩
    · trivial
  case eptr b j o =>
    split
    · rename_i i hp
      obtain ⟨h1, h2⟩ := ren_shp C (posN_get σ b i hp)
      exact ⟨h.1, hlt b i hp, fun t n hs => by rw [h2]; exact h.2.2 t n (h1 ▸ hs)⟩
    · trivial
  case fnp f l => trivial
theorem renL_r {σ : List Nat} : ∀ {l : List Cell} {vs : List Value}, LR C l vs → LR (C.ren σ) (l.map (renC σ)) vs
  | [], [], _ => trivial
  | _ :: _, _ :: _, h => ⟨renC_r h.1, renL_r h.2⟩
  | [], _ :: _, h => h.elim
  | _ :: _, [], h => h.elim
theorem renTL_r {σ : List Nat} : ∀ {l : List (Bool × List Cell)} {vs : List Value}, TL C l vs → TL (C.ren σ) (l.map fun p => (p.1, p.2.map (renC σ))) vs
  | [], [], _ => trivial
  | (b, l) :: _, u :: _, h => by
    refine ⟨?_, renTL_r h.2⟩
    cases b
    · exact renL_r (vs := [u]) h.1
    · obtain ⟨vs, hv, hl⟩ := h.1; exact ⟨vs, hv, renL_r hl⟩
  | [], _ :: _, h => h.elim
  | _ :: _, [], h => h.elim
theorem renA_r {σ : List Nat} {v : AV} {u : Value} (h : AVR C v u) : AVR (C.ren σ) (renA σ v) u := by
  cases v with
  | c x => exact renC_r h
  | agg l => obtain ⟨vs, hv, hl⟩ := h; exact ⟨vs, hv, renL_r hl⟩
  | tup l => obtain ⟨vs, hv, hl⟩ := h; exact ⟨vs, hv, renTL_r hl⟩

theorem HeapR.ren (hH : HeapR C) {σ : List Nat} (hn : nodupN σ = true) : HeapR (C.ren σ) := by
  have hlive : ∀ i, shp (C.ren σ).H i ≠ none → ∃ b, σ[i]? = some b ∧ shp C.H b ≠ none ∧ (C.ren σ).ρ i = C.ρ b := by
    intro i hs
    have hi := shp_lt hs
    have hi' : i < σ.length := by simpa [Cx.ren] using hi
    obtain ⟨h1, h2⟩ := ren_shp C (List.getElem?_eq_getElem hi')
    exact ⟨_, List.getElem?_eq_getElem hi', by rw [← h1]; exact hs, h2⟩
  refine ⟨hH.base, hH.st, ?_, ?_, ?_⟩
  · intro i x hx
    simp only [Cx.ren, List.getElem?_map] at hx
    cases hσ : σ[i]? with
    | none => simp [hσ] at hx
    | some b =>
      rw [hσ] at hx
      simp only [Option.map_some, Option.some.injEq, List.getD_eq_getElem?_getD] at hx
      obtain ⟨_, hρ⟩ := ren_shp C hσ
      cases hb : C.H[b]? with
      | none => rw [hb] at hx; subst hx; trivial
      | some y =>
        rw [hb] at hx
        simp only [Option.getD_some] at hx
        subst hx
        have hB := hH.blk b y hb
        cases y with
        | dead => trivial
        | cells ty l => obtain ⟨g, cs, h1, h2, h3⟩ := hB; exact ⟨g, cs, hρ.trans h1, h2, renL_r h3⟩
        | arr t ety l f => obtain ⟨xs, h1, h2, h3⟩ := hB; exact ⟨xs, by rw [hρ]; exact h1, fun e g hg => h2 e g (by rw [← hρ]; exact hg), h3⟩
  · intro i g hs hg
    obtain ⟨b, _, h2, h3⟩ := hlive i hs
    exact hH.own b g h2 (by rw [← h3]; exact hg)
  · intro i j g hs hs' hg hg'
    obtain ⟨b, h1, h2, h3⟩ := hlive i hs
    obtain ⟨b', h1', h2', h3'⟩ := hlive j hs'
    have := hH.inj b b' g h2 h2' (by rw [← h3]; exact hg) (by rw [← h3']; exact hg')
    subst this
    exact nodupN_inj σ i j b hn h1 h1'

/-! ### What stands behind a place -/

/-- A loop's item, a round being behind it. -/
def lpWp (P : Program) (c : Code) (Q : Exit → Act → World → Prop) (a : Act) (w : World) : Prop :=
  ∀ (b : Frame) (k : List Item) (cs : List Frame), ∃ e a' w', Q e a' w' ∧ Arrives P (lone (b.at a (.inLoop c :: k)) cs w) b k cs e a' w'

def after (P : Program) : List It → (Act → World → Prop) → Exit → Act → World → Prop
  | [], Q, e, a, w => match e with
    | .normal => Q a w
    | .ret => Q a w
    | _ => False
  | .code c :: K, Q, e, a, w => match e with
    | .normal => c.wp P (after P K Q) a w
    | e => after P K Q e a w
  | .blk id :: K, Q, e, a, w => match e with
    | .exit i => if i = id then after P K Q .normal a w else after P K Q (.exit i) a w
    | e => after P K Q e a w
  | .lp c :: K, Q, e, a, w => match e with
    | .normal => lpWp P c (after P K Q) a w
    | e => after P K Q e a w
  | .rg id ops d :: K, Q, e, a, w => match e with
    | .normal => (Code.region id ops d).wp P (after P K Q) a w
    | e => after P K Q e a w

theorem after_ret {Q : Act → World → Prop} {a : Act} {w : World} (h : Q a w) : ∀ K, after P K Q .ret a w
  | [] => h
  | .code _ :: K => after_ret h K
  | .blk _ :: K => after_ret h K
  | .lp _ :: K => after_ret h K
  | .rg _ _ _ :: K => after_ret h K

theorem after_exit {Q : Act → World → Prop} {a : Act} {w : World} {id : Nat} : ∀ {K K' : List It}, popTo id K = some K' → after P K' Q .normal a w → after P K Q (.exit id) a w
  | [], _, h, _ => by cases h
  | .code _ :: K, K', h, hq => after_exit (K := K) h hq
  | .lp _ :: K, K', h, hq => after_exit (K := K) h hq
  | .rg _ _ _ :: K, K', h, hq => after_exit (K := K) h hq
  | .blk i :: K, K', h, hq => by
    simp only [popTo] at h
    show (if id = i then after P K Q .normal a w else after P K Q (.exit id) a w)
    cases hb : Nat.beq i id
    · rw [hb] at h
      have hne : ¬ id = i := fun e => by rw [e, Nat.beq_refl] at hb; cases hb
      rw [if_neg hne]
      exact after_exit (K := K) h hq
    · rw [hb] at h
      cases h
      rw [if_pos (Nat.eq_of_beq_eq_true hb).symm]
      exact hq

theorem then_lp {c : Code} {K : List It} {Q : Act → World → Prop} (e : Exit) (a : Act) (w : World) (h : after P (.lp c :: K) Q e a w) : Exit.then (lpWp P c (after P K Q)) (after P K Q) e a w := by
  cases e <;> exact h

theorem loop_code {c : Code} {K : List It} {Q : Act → World → Prop} {a : Act} {w : World} (h : after P (.code c :: .lp c :: K) Q .normal a w) : (Code.loop c).wp P (after P K Q) a w := by
  have h' : c.wp P (Exit.then (lpWp P c (after P K Q)) (after P K Q)) a w := wp_mono h then_lp
  intro b k cs
  obtain ⟨e, a₁, w₁, hq, harr⟩ := h' b (.inLoop c :: k) cs
  cases e with
  | normal =>
    obtain ⟨e₂, a₂, w₂, hq₂, harr₂⟩ := hq b k cs
    exact ⟨e₂, a₂, w₂, hq₂, .of_steps (Steps.head step_loop harr) harr₂⟩
  | exit id => exact ⟨_, a₁, w₁, hq, .of_steps (.one step_loop) (.pass (x := .inLoop c) rfl (fun _ _ => .inl (by simp)) harr)⟩
  | goto l => exact ⟨_, a₁, w₁, hq, .of_steps (.one step_loop) (.pass (x := .inLoop c) rfl (fun _ _ => .inl (by simp)) harr)⟩
  | ret => exact ⟨_, a₁, w₁, hq, .of_steps (.one step_loop) (.pass (x := .inLoop c) rfl (fun _ _ => .inl (by simp)) harr)⟩
  | panic ch => exact ⟨_, a₁, w₁, hq, .of_steps (.one step_loop) (.pass (x := .inLoop c) rfl (fun _ _ => .inl (by simp)) harr)⟩
  | outgrown => exact ⟨_, a₁, w₁, hq, .of_steps (b := b) (k := k) (cs := cs) (e := .outgrown) (.one step_loop) harr⟩

theorem loop_lp {c : Code} {K : List It} {Q : Act → World → Prop} {a : Act} {w : World} (h : after P (.code c :: .lp c :: K) Q .normal a w) : lpWp P c (after P K Q) a w := by
  have h' : c.wp P (Exit.then (lpWp P c (after P K Q)) (after P K Q)) a w := wp_mono h then_lp
  intro b k cs
  obtain ⟨e, a₁, w₁, hq, harr⟩ := h' b (.inLoop c :: k) cs
  cases e with
  | normal =>
    obtain ⟨e₂, a₂, w₂, hq₂, harr₂⟩ := hq b k cs
    exact ⟨e₂, a₂, w₂, hq₂, .of_steps (Steps.head step_inLoop harr) harr₂⟩
  | exit id => exact ⟨_, a₁, w₁, hq, .of_steps (.one step_inLoop) (.pass (x := .inLoop c) rfl (fun _ _ => .inl (by simp)) harr)⟩
  | goto l => exact ⟨_, a₁, w₁, hq, .of_steps (.one step_inLoop) (.pass (x := .inLoop c) rfl (fun _ _ => .inl (by simp)) harr)⟩
  | ret => exact ⟨_, a₁, w₁, hq, .of_steps (.one step_inLoop) (.pass (x := .inLoop c) rfl (fun _ _ => .inl (by simp)) harr)⟩
  | panic ch => exact ⟨_, a₁, w₁, hq, .of_steps (.one step_inLoop) (.pass (x := .inLoop c) rfl (fun _ _ => .inl (by simp)) harr)⟩
  | outgrown => exact ⟨_, a₁, w₁, hq, .of_steps (b := b) (k := k) (cs := cs) (e := .outgrown) (.one step_inLoop) harr⟩

/-! ### Places by their labels -/

def labelsC : Code → List Nat
  | .seq a b => labelsC a ++ labelsC b
  | .cond _ a b => labelsC a ++ labelsC b
  | .block _ c => labelsC c
  | .loop c => loopLbl c :: labelsC c
  | .region id _ _ => [2 * id + 1]
  | _ => []

/-- What stands behind the place of a label. -/
def stkAt (lbl : Nat) : Code → List It → Option (List It)
  | .seq a b, K => match stkAt lbl a (.code b :: K) with | some x => some x | none => stkAt lbl b K
  | .cond _ a b, K => match stkAt lbl a K with | some x => some x | none => stkAt lbl b K
  | .block id c, K => stkAt lbl c (.blk id :: K)
  | .loop c, K => cond (Nat.beq (loopLbl c) lbl) (some (.code c :: .lp c :: K)) (stkAt lbl c (.lp c :: K))
  | .region id ops d, K => cond (Nat.beq (2 * id + 1) lbl) (some (.rg id ops d :: K)) none
  | _, _ => none

def stkOf (body : Code) (lbl : Nat) : List It := match stkAt lbl body [] with | some K => K | none => []

def chkC (stk : Nat → List It) : Code → List It → Prop
  | .seq a b, K => chkC stk a (.code b :: K) ∧ chkC stk b K
  | .cond _ a b, K => chkC stk a K ∧ chkC stk b K
  | .block id c, K => chkC stk c (.blk id :: K)
  | .loop c, K => stk (loopLbl c) = .code c :: .lp c :: K ∧ chkC stk c (.lp c :: K)
  | .region id ops d, K => stk (2 * id + 1) = .rg id ops d :: K
  | _, _ => True
def chkK (stk : Nat → List It) : List It → Prop
  | [] => True
  | .code c :: K => chkC stk c K ∧ chkK stk K
  | .blk _ :: K => chkK stk K
  | .rg _ _ _ :: K => chkK stk K
  | .lp c :: K => (stk (loopLbl c) = .code c :: .lp c :: K ∧ chkC stk c (.lp c :: K)) ∧ chkK stk K

theorem beq_false {a b : Nat} (h : a ≠ b) : Nat.beq a b = false := by
  cases hb : Nat.beq a b
  · rfl
  · exact absurd (Nat.eq_of_beq_eq_true hb) h

theorem stkAt_none {lbl : Nat} : ∀ (c : Code) (K : List It), lbl ∉ labelsC c → stkAt lbl c K = none := by
  intro c
  induction c with
  | seq a b iha ihb => intro K h; simp only [labelsC, List.mem_append, not_or] at h; simp only [stkAt, iha _ h.1, ihb _ h.2]
  | cond x a b iha ihb => intro K h; simp only [labelsC, List.mem_append, not_or] at h; simp only [stkAt, iha _ h.1, ihb _ h.2]
  | block id c ih => intro K h; exact ih _ h
  | loop c ih =>
    intro K h
    simp only [labelsC, List.mem_cons, not_or] at h
    simp only [stkAt, ih _ h.2, beq_false (fun e => h.1 e.symm), cond_false]
  | region id ops d =>
    intro K h
    simp only [labelsC, List.mem_singleton] at h
    simp only [stkAt, beq_false (fun e => h e.symm), cond_false]
  | _ => intro K h; rfl

theorem stkAt_some {lbl : Nat} : ∀ (c : Code) (K : List It), lbl ∈ labelsC c → ∃ x, stkAt lbl c K = some x := by
  intro c
  induction c with
  | seq a b iha ihb =>
    intro K h
    simp only [stkAt]
    cases hx : stkAt lbl a (.code b :: K) with
    | some x => exact ⟨x, rfl⟩
    | none =>
      simp only [labelsC, List.mem_append] at h
      rcases h with h | h
      · obtain ⟨x, e⟩ := iha (.code b :: K) h; rw [hx] at e; cases e
      · exact ihb K h
  | cond x a b iha ihb =>
    intro K h
    simp only [stkAt]
    cases hx : stkAt lbl a K with
    | some x => exact ⟨x, rfl⟩
    | none =>
      simp only [labelsC, List.mem_append] at h
      rcases h with h | h
      · obtain ⟨x, e⟩ := iha K h; rw [hx] at e; cases e
      · exact ihb K h
  | block id c ih => intro K h; exact ih _ h
  | loop c ih =>
    intro K h
    simp only [labelsC, List.mem_cons] at h
    simp only [stkAt]
    cases hb : Nat.beq (loopLbl c) lbl
    · rcases h with h | h
      · rw [h, Nat.beq_refl] at hb; cases hb
      · exact ih _ h
    · exact ⟨_, rfl⟩
  | region id ops d =>
    intro K h
    simp only [labelsC, List.mem_singleton] at h
    exact ⟨.rg id ops d :: K, by simp only [stkAt, h, Nat.beq_refl, cond_true]⟩
  | _ => intro K h; simp [labelsC] at h

theorem nodup_append : ∀ (l l' : List Nat), nodupN (l ++ l') = true → nodupN l = true ∧ nodupN l' = true ∧ ∀ x ∈ l, x ∉ l'
  | [], l', h => ⟨rfl, h, fun _ hx => by cases hx⟩
  | a :: l, l', h => by
    simp only [List.cons_append, nodupN] at h
    cases hm : memN (l ++ l') a
    · rw [hm] at h
      have hna : a ∉ l ++ l' := fun e => by rw [(memN_iff _ a).2 e] at hm; cases hm
      simp only [List.mem_append, not_or] at hna
      obtain ⟨h1, h2, h3⟩ := nodup_append l l' h
      refine ⟨?_, h2, fun x hx => ?_⟩
      · simp only [nodupN]
        cases hml : memN l a
        · exact h1
        · exact absurd ((memN_iff _ a).1 hml) hna.1
      · rcases List.mem_cons.1 hx with rfl | hx
        · exact hna.2
        · exact h3 x hx
    · rw [hm] at h; cases h

theorem chk_of {stk : Nat → List It} : ∀ (c : Code) (K : List It), nodupN (labelsC c) = true → (∀ lbl ∈ labelsC c, some (stk lbl) = stkAt lbl c K) → chkC stk c K := by
  intro c
  induction c with
  | seq a b iha ihb =>
    intro K hn h
    obtain ⟨h1, h2, h3⟩ := nodup_append _ _ hn
    refine ⟨iha _ h1 fun l hl => ?_, ihb _ h2 fun l hl => ?_⟩
    · rw [h l (List.mem_append_left _ hl)]
      simp only [stkAt]
      obtain ⟨x, hx⟩ := stkAt_some a (.code b :: K) hl
      rw [hx]
    · rw [h l (List.mem_append_right _ hl)]
      simp only [stkAt]
      rw [stkAt_none a (.code b :: K) (fun e => h3 l e hl)]
  | cond x a b iha ihb =>
    intro K hn h
    obtain ⟨h1, h2, h3⟩ := nodup_append _ _ hn
    refine ⟨iha _ h1 fun l hl => ?_, ihb _ h2 fun l hl => ?_⟩
    · rw [h l (List.mem_append_left _ hl)]
      simp only [stkAt]
      obtain ⟨x, hx⟩ := stkAt_some a K hl
      rw [hx]
    · rw [h l (List.mem_append_right _ hl)]
      simp only [stkAt]
      rw [stkAt_none a K (fun e => h3 l e hl)]
  | block id c ih => intro K hn h; exact ih _ hn h
  | loop c ih =>
    intro K hn h
    simp only [labelsC, nodupN] at hn
    cases hm : memN (labelsC c) (loopLbl c)
    · rw [hm] at hn
      have hna : loopLbl c ∉ labelsC c := fun e => by rw [(memN_iff _ _).2 e] at hm; cases hm
      refine ⟨?_, ih _ hn fun l hl => ?_⟩
      · have := h (loopLbl c) (by simp [labelsC])
        simp only [stkAt, Nat.beq_refl, cond_true, Option.some.injEq] at this
        exact this
      · have := h l (by simp [labelsC, hl])
        simp only [stkAt, beq_false (fun (e : loopLbl c = l) => hna (by rw [e]; exact hl)), cond_false] at this
        exact this
    · rw [hm] at hn; cases hn
  | region id ops d =>
    intro K hn h
    have := h (2 * id + 1) (by simp [labelsC])
    simp only [stkAt, Nat.beq_refl, cond_true, Option.some.injEq] at this
    exact this
  | _ => intro K hn h; trivial

theorem chk_body {body : Code} (hn : nodupN (labelsC body) = true) : chkC (stkOf body) body [] :=
  chk_of body [] hn fun lbl hl => by
    obtain ⟨x, hx⟩ := stkAt_some body [] hl
    unfold stkOf
    rw [hx]

theorem chk_at {stk : Nat → List It} {lbl : Nat} : ∀ (c : Code) (K K' : List It), chkC stk c K → chkK stk K → stkAt lbl c K = some K' → chkK stk K' := by
  intro c
  induction c with
  | seq a b iha ihb =>
    intro K K' h hK hs
    simp only [stkAt] at hs
    split at hs
    · rename_i x hx; cases hs; exact iha _ _ h.1 ⟨h.2, hK⟩ hx
    · exact ihb _ _ h.2 hK hs
  | cond x a b iha ihb =>
    intro K K' h hK hs
    simp only [stkAt] at hs
    split at hs
    · rename_i x hx; cases hs; exact iha _ _ h.1 hK hx
    · exact ihb _ _ h.2 hK hs
  | block id c ih => intro K K' h hK hs; exact ih _ _ h hK hs
  | loop c ih =>
    intro K K' h hK hs
    simp only [stkAt] at hs
    cases hb : Nat.beq (loopLbl c) lbl
    · rw [hb] at hs; exact ih _ _ h.2 ⟨h, hK⟩ hs
    · rw [hb] at hs; cases hs; exact ⟨h.2, h, hK⟩
  | region id ops d =>
    intro K K' h hK hs
    simp only [stkAt] at hs
    cases hb : Nat.beq (2 * id + 1) lbl
    · rw [hb] at hs; cases hs
    · rw [hb] at hs; cases hs; exact hK
  | _ => intro K K' h hK hs; cases hs

theorem chk_stk {body : Code} (hn : nodupN (labelsC body) = true) (lbl : Nat) : chkK (stkOf body) (stkOf body lbl) := by
  have h := chk_body hn
  cases hs : stkAt lbl body [] with
  | none => unfold stkOf; rw [hs]; trivial
  | some K =>
    have : stkOf body lbl = K := by unfold stkOf; rw [hs]
    rw [this]
    exact chk_at body [] K h trivial hs
end
end Go.Proofs.YtgagpmiooeoodaaGreat.A
