/- How what is known of memory goes on: new blocks, stores, rows that nobody writes any more. -/
import Derived.Test.YtgagpmiooeoodaaGreatA3
import Derived.Deep.Upon
set_option linter.unusedVariables false
set_option linter.unusedSimpArgs false
namespace Go.Proofs.YtgagpmiooeoodaaGreat.A
open Go.RowKit

structure Frm (C C' : Cx) : Prop where
  X : C'.X = C.X
  os : C'.w.os = C.w.os
  tape : C'.w.tape = C.w.tape
  output : C'.w.output = C.w.output
  size : C.w.heap.size ≤ C'.w.heap.size
  block : ∀ b, b < C.B → ¬ C.X b → C'.w.heap[b]? = C.w.heap[b]?

theorem Frm.refl (C : Cx) : Frm C C := ⟨rfl, rfl, rfl, rfl, Nat.le_refl _, fun _ _ _ => rfl⟩
theorem Frm.trans {A B C : Cx} (h : Frm A B) (hle : A.le B) (k : Frm B C) : Frm A C :=
  ⟨k.X.trans h.X, k.os.trans h.os, k.tape.trans h.tape, k.output.trans h.output, Nat.le_trans h.size k.size, fun b hb hx => (k.block b (by rw [hle.B]; exact hb) (by rw [h.X]; exact hx)).trans (h.block b hb hx)⟩
theorem Cx.le.trans {A B C : Cx} (h : A.le B) (k : B.le C) : A.le C := by
  refine ⟨k.B.trans h.B, fun b hb => k.S b (h.S b hb), fun b hb => (k.heap b (h.S b hb)).trans (h.heap b hb), Nat.le_trans h.len k.len, fun b hb => ?_⟩
  rcases k.shp b (Nat.lt_of_lt_of_le hb h.len) with h1 | ⟨h1, h2⟩
  · exact .inl h1
  · rcases h.shp b hb with h3 | ⟨h3, h4⟩
    · exact .inl (h1.trans h3)
    · exact .inr ⟨h1.trans h3, h2.trans h4⟩

section
variable {C : Cx}

theorem shp_lt {H : List Blk} {b : Nat} (h : shp H b ≠ none) : b < H.length := by
  unfold shp at h
  cases hb : H[b]? with
  | none => simp [hb] at h
  | some x => exact (List.getElem?_eq_some_iff.1 hb).1
theorem shp_live {H : List Blk} {b : Nat} (h : shp H b ≠ none) : ∃ x, H[b]? = some x ∧ x ≠ .dead := by
  have hl := shp_lt h
  refine ⟨H[b], List.getElem?_eq_getElem hl, fun e => h ?_⟩
  unfold shp
  rw [List.getElem?_eq_getElem hl, e]

theorem HeapR.lt (hH : HeapR C) {b g : Nat} (hs : shp C.H b ≠ none) (hg : ownB (C.ρ b) = some g) : g < C.w.heap.size := by
  obtain ⟨x, hx, hd⟩ := shp_live hs
  have hb := hH.blk b x hx
  cases x with
  | dead => exact absurd rfl hd
  | cells ty l =>
    obtain ⟨g', cs, hρ, hh, _⟩ := hb
    rw [hρ] at hg
    simp [ownB] at hg
    subst hg
    exact (Array.getElem?_eq_some_iff.1 hh).1
  | arr t ety l f =>
    obtain ⟨xs, hown, _⟩ := hb
    rcases hown.parts.2 with ⟨_, _, A, hv⟩ | ⟨g', cap, cur, hv, hh, _⟩
    · rw [hv] at hg
      cases A <;> simp [ownB] at hg
    · rw [hv] at hg
      simp [ownB] at hg
      obtain ⟨_, rfl⟩ := hg
      exact (Array.getElem?_eq_some_iff.1 hh).1

theorem OwnR.keep {w w' : World} {e size : Nat} {v : Value} {n : Nat} {xs : List Value} (h : OwnR w e size v n xs) (hw : ∀ g, ownB v = some g → w'.heap[g]? = w.heap[g]?) : OwnR w' e size v n xs := by
  obtain ⟨hl, h2⟩ := h.parts
  rcases h2 with ⟨hn, hx, hA⟩ | ⟨g, cap, cur, rfl, hg, hnc, hcm, hcs, htk⟩
  · exact .inr ⟨hx, hn, hA⟩
  · by_cases hc : cap = 0
    · subst hc
      obtain rfl : n = 0 := by omega
      exact .inr ⟨List.eq_nil_of_length_eq_zero (by simpa using hl), rfl, _, rfl⟩
    · exact .inl ⟨hl, .inr ⟨g, cap, cur, rfl, Nat.zero_le _, by rw [hw g (by simp [ownB, hc])]; exact hg, hnc, hcm, hcs, htk⟩⟩

theorem BlkR.keep {C' : Cx} (h : C.le C') {b : Nat} {x : Blk} (hρ : C'.ρ b = C.ρ b) (hw : ∀ g, ownB (C.ρ b) = some g → C'.w.heap[g]? = C.w.heap[g]?) (hb : BlkR C b x) : BlkR C' b x := by
  cases x with
  | dead => trivial
  | cells ty l =>
    obtain ⟨g, cs, hr, hg, hl⟩ := hb
    exact ⟨g, cs, hρ.trans hr, by rw [hw g (by simp [hr, ownB])]; exact hg, hl.mono h⟩
  | arr t ety l f =>
    obtain ⟨xs, hown, hf, hrd⟩ := hb
    refine ⟨xs, by rw [hρ]; exact hown.keep hw, fun e g hg => by rw [h.B]; rw [hρ] at hg; exact hf e g hg, fun i y hy => Rd.mono (h.Sf f) (fun b hb => h.heap b hb.1) _ _ _ (hrd i y hy)⟩

/-- A new block of the call's own; another may go. -/
theorem HeapR.grow (hH : HeapR C) {w' : World} {H1 : List Blk} {blk : Blk} {v' : Value} (row : Option Nat)
    (hlen : H1.length = C.H.length) (hH1 : ∀ (i : Nat) (x : Blk), H1[i]? = some x → x = .dead ∨ C.H[i]? = some x)
    (hos : w'.os = C.w.os) (htape : w'.tape = C.w.tape) (hout : w'.output = C.w.output) (hsize : C.w.heap.size ≤ w'.heap.size)
    (hblock : ∀ k, k < C.w.heap.size → some k ≠ row → w'.heap[k]? = C.w.heap[k]?)
    (hrow : ∀ g, row = some g → ¬ C.S g ∧ (C.B ≤ g ∨ C.X g) ∧ ∀ i, shp H1 i ≠ none → ownB (C.ρ i) ≠ some g)
    (hv : ∀ g, ownB v' = some g → row = some g ∨ C.w.heap.size ≤ g) {C' : Cx}
    (hC' : C' = { C with w := w', H := H1 ++ [blk], ρ := fun b => if b = C.H.length then v' else C.ρ b }) (hblk : C.le C' → BlkR C' C.H.length blk) : C.le C' ∧ HeapR C' ∧ Frm C C' := by
  have hshp : ∀ i, i < C.H.length → shp C'.H i = none ∨ (shp C'.H i = shp C.H i) := by
    intro i hi
    have e : (H1 ++ [blk])[i]? = H1[i]? := List.getElem?_append_left (by omega)
    subst hC'
    unfold shp
    simp only [e]
    cases hx : H1[i]? with
    | none => simp
    | some x =>
      rcases hH1 i x hx with rfl | h
      · simp
      · simp [h]
  have hSrow : ∀ b, C.S b → some b ≠ row := fun b hb e => (hrow b e.symm).1 hb
  have hle : C.le C' := by
    subst hC'
    refine ⟨rfl, fun _ h => h, fun b hb => hblock b (hH.st b hb) (hSrow b hb), by simp [hlen], fun b hb => ?_⟩
    rcases hshp b hb with h | h
    · exact .inl h
    · exact .inr ⟨h, by simp [Nat.ne_of_lt hb]⟩
  have hB := hblk hle
  have hCH : ∀ i x, C'.H[i]? = some x → x ≠ .dead → (i < C.H.length ∧ C.H[i]? = some x ∧ H1[i]? = some x) ∨ i = C.H.length := by
    intro i x hx hd
    subst hC'
    simp only at hx
    rcases Nat.lt_trichotomy i C.H.length with h | h | h
    · rw [List.getElem?_append_left (by omega)] at hx
      rcases hH1 i x hx with e | e
      · exact absurd e hd
      · exact .inl ⟨h, e, hx⟩
    · exact .inr h
    · rw [List.getElem?_append_right (by omega)] at hx
      have : i - H1.length ≠ 0 := by omega
      cases hi : i - H1.length with
      | zero => omega
      | succ n => rw [hi] at hx; simp at hx
  have hlive : ∀ i, shp C'.H i ≠ none → (i < C.H.length ∧ shp C.H i ≠ none ∧ shp H1 i ≠ none ∧ C'.ρ i = C.ρ i) ∨ (i = C.H.length ∧ C'.ρ i = v') := by
    intro i hs
    obtain ⟨x, hx, hd⟩ := shp_live hs
    rcases hCH i x hx hd with ⟨h1, h2, h3⟩ | h1
    · refine .inl ⟨h1, ?_, ?_, ?_⟩
      · unfold shp; rw [h2]; cases x <;> simp_all
      · unfold shp; rw [h3]; cases x <;> simp_all
      · subst hC'; simp [Nat.ne_of_lt h1]
    · exact .inr ⟨h1, by subst hC'; simp [h1]⟩
  refine ⟨hle, ⟨?_, ?_, ?_, ?_, ?_⟩, ?_⟩
  · subst hC'; exact Nat.le_trans hH.base hsize
  · subst hC'; exact fun b hb => Nat.lt_of_lt_of_le (hH.st b hb) hsize
  · intro b x hx
    by_cases hd : x = .dead
    · subst hd; trivial
    rcases hCH b x hx hd with ⟨h1, h2, h3⟩ | h1
    · have hs : shp C.H b ≠ none := by unfold shp; rw [h2]; cases x <;> simp_all
      have hs1 : shp H1 b ≠ none := by unfold shp; rw [h3]; cases x <;> simp_all
      refine (hH.blk b x h2).keep hle (by subst hC'; simp [Nat.ne_of_lt h1]) fun g hg => ?_
      subst hC'
      refine hblock g (hH.lt hs hg) fun e => ?_
      exact (hrow g e.symm).2.2 b hs1 hg
    · subst h1
      subst hC'
      simp only at hx
      rw [List.getElem?_append_right (by omega)] at hx
      simp [hlen] at hx
      rw [← hx]
      exact hB
  · intro b g hs hg
    rcases hlive b hs with ⟨h1, h2, h3, h4⟩ | ⟨h1, h2⟩
    · rw [h4] at hg
      have := hH.own b g h2 hg
      subst hC'
      exact this
    · rw [h2] at hg
      rcases hv g hg with h | h
      · have := hrow g h
        subst hC'
        exact ⟨this.1, this.2.1⟩
      · subst hC'
        exact ⟨fun hs => absurd (hH.st g hs) (by omega), .inl (Nat.le_trans hH.base h)⟩
  · intro b b' g hs hs' hg hg'
    rcases hlive b hs with ⟨h1, h2, h3, h4⟩ | ⟨h1, h2⟩ <;> rcases hlive b' hs' with ⟨k1, k2, k3, k4⟩ | ⟨k1, k2⟩
    · rw [h4] at hg; rw [k4] at hg'; exact hH.inj b b' g h2 k2 hg hg'
    · rw [h4] at hg; rw [k2] at hg'
      rcases hv g hg' with h | h
      · exact absurd hg ((hrow g h).2.2 b h3)
      · have := hH.lt h2 hg; omega
    · rw [h2] at hg; rw [k4] at hg'
      rcases hv g hg with h | h
      · exact absurd hg' ((hrow g h).2.2 b' k3)
      · have := hH.lt k2 hg'; omega
    · omega
  · subst hC'
    refine ⟨rfl, hos, htape, hout, hsize, fun b hb hx => hblock b (Nat.lt_of_lt_of_le hb hH.base) fun e => ?_⟩
    rcases (hrow b e.symm).2.1 with h | h
    · omega
    · exact hx h

theorem HeapR.newCells (hH : HeapR C) {ty : Nat} {l : List Cell} {cs : Array Value} (hl : LR C l cs.toList) {C' : Cx}
    (hC' : C' = { C with w := C.w.alloc (.cells cs ty), H := C.H ++ [.cells ty l], ρ := fun b => if b = C.H.length then .pointer (some ⟨C.w.heap.size, 0, none⟩) else C.ρ b }) :
    C.le C' ∧ HeapR C' ∧ Frm C C' ∧ AVR C' (.c (.ptr C.H.length 0)) (.pointer (some ⟨C.w.heap.size, 0, none⟩)) := by
  have h := hH.grow (w' := C.w.alloc (.cells cs ty)) (H1 := C.H) (blk := .cells ty l) (v' := .pointer (some ⟨C.w.heap.size, 0, none⟩)) none rfl (fun i x hx => .inr hx) rfl rfl rfl (by simp) (fun k hk _ => heap_alloc_old _ _ _ hk) (by simp) (fun g hg => by simp [ownB] at hg; omega) hC'
    (fun hle => ⟨C.w.heap.size, cs, by subst hC'; simp, by subst hC'; exact heap_alloc_new _ _, hl.mono hle⟩)
  refine ⟨h.1, h.2.1, h.2.2, rfl, by subst hC'; simp, fun _ => ⟨C.w.heap.size, by subst hC'; simp, rfl⟩⟩

/-- A store into a block of the call's own. -/
theorem HeapR.update (hH : HeapR C) {b : Nat} {blk blk' : Blk} (hb : C.H[b]? = some blk) (hd : blk ≠ .dead) (hs : shp (C.H.set b blk') b = shp C.H b) {g : Nat} (hg : ownB (C.ρ b) = some g) {cs : Array Value} {C' : Cx}
    (hC' : C' = { C with w := C.w.setRow g cs, H := C.H.set b blk' }) (hblk : C.le C' → BlkR C' b blk') : C.le C' ∧ HeapR C' ∧ Frm C C' := by
  have hlt : b < C.H.length := (List.getElem?_eq_some_iff.1 hb).1
  have hlive : shp C.H b ≠ none := by unfold shp; rw [hb]; cases blk <;> simp_all
  have hsh : ∀ i, shp (C.H.set b blk') i = shp C.H i := by
    intro i
    by_cases e : b = i
    · subst e; exact hs
    · unfold shp; rw [List.getElem?_set_ne e]
  have hne : ∀ k, C.S k → k ≠ g := fun k hk e => (hH.own b g hlive hg).1 (e ▸ hk)
  have hle : C.le C' := by
    subst hC'
    exact ⟨rfl, fun _ h => h, fun k hk => setRow_other _ _ _ _ (hne k hk), by simp, fun i _ => .inr ⟨hsh i, rfl⟩⟩
  refine ⟨hle, ⟨?_, ?_, ?_, ?_, ?_⟩, ?_⟩
  · subst hC'; simpa using hH.base
  · subst hC'; simpa using hH.st
  · intro i x hx
    by_cases e : b = i
    · subst e
      have hB := hblk hle
      have : C'.H[b]? = some blk' := by subst hC'; simp [hlt]
      rw [this] at hx
      cases hx
      exact hB
    · have hx' : C.H[i]? = some x := by subst hC'; simpa [List.getElem?_set_ne e] using hx
      by_cases hdx : x = .dead
      · subst hdx; trivial
      have hli : shp C.H i ≠ none := by unfold shp; rw [hx']; cases x <;> simp_all
      refine (hH.blk i x hx').keep hle (by subst hC'; rfl) fun g' hg' => ?_
      subst hC'
      exact setRow_other _ _ _ _ fun e' => e (hH.inj b i g hlive hli hg (e' ▸ hg'))
  · subst hC'; intro i g' h1 h2; exact hH.own i g' (by rw [← hsh i]; exact h1) h2
  · subst hC'; intro i j g' h1 h2 h3 h4; exact hH.inj i j g' (by rw [← hsh i]; exact h1) (by rw [← hsh j]; exact h2) h3 h4
  · subst hC'
    refine ⟨rfl, rfl, rfl, rfl, by simp, fun k hk hx => setRow_other _ _ _ _ fun e => ?_⟩
    rcases (hH.own b g hlive hg).2 with h | h
    · omega
    · exact hx (e ▸ h)

theorem Rd_own {w : World} {S : Nat → Prop} {t : Ty} {l : List t.den} {v : Value} {ety : Nat} {xs : List Value} (hown : OwnR w ety t.width v l.length xs) (hS : ∀ g, ownB v = some g → S g)
    (hrd : ∀ i x, l[i]? = some x → Rd w S t x ((xs.drop (i * t.width)).take t.width)) : Rd w S (.sl t) l [v] := by
  rcases hown.parts.2 with ⟨hn, _, A, rfl⟩ | ⟨g, cap, cur, rfl, hg, hnc, hcm, hcs, htk⟩
  · have : l = [] := List.eq_nil_of_length_eq_zero hn
    subst this
    exact ⟨A, 0, rfl, Nat.le_refl _, fun h => absurd rfl h⟩
  · refine ⟨_, cap, rfl, hnc, fun hne => ⟨g, 0, cur, ety, (0, 0), rfl, hS g ?_, hg, fun i x hx => ?_⟩⟩
    · have : 0 < l.length := List.length_pos_iff.2 hne
      have hc0 : cap ≠ 0 := by omega
      simp [ownB, hc0]
    · have h := hrd i x hx
      have hi := (List.getElem?_eq_some_iff.1 hx).1
      rw [← htk, List.drop_take, List.take_take] at h
      rw [Nat.zero_add]
      have e : min t.width (l.length * t.width - i * t.width) = t.width := by
        have : (i + 1) * t.width ≤ l.length * t.width := Nat.mul_le_mul_right _ hi
        rw [Nat.add_mul] at this
        omega
      rwa [e] at h

/-- A row that nobody will write any more. -/
theorem HeapR.freeze (hH : HeapR C) {b : Nat} {t : Ty} {ety : Nat} {l : List t.den} {f : Bool} (hb : C.H[b]? = some (.arr t ety l f)) {C' : Cx}
    (hC' : C' = { C with S := fun x => C.S x ∨ ownB (C.ρ b) = some x, H := C.H.set b .dead }) : C.le C' ∧ HeapR C' ∧ Frm C C' ∧ CellR C' (.sl f t l) (C.ρ b) := by
  have hlt : b < C.H.length := (List.getElem?_eq_some_iff.1 hb).1
  have hlive : shp C.H b ≠ none := by unfold shp; rw [hb]; simp
  have hsh : ∀ i, shp (C.H.set b .dead) i = if b = i then none else shp C.H i := by
    intro i
    by_cases e : b = i
    · subst e; simp [shp, hlt]
    · unfold shp; rw [List.getElem?_set_ne e]; simp [e]
  have hle : C.le C' := by
    subst hC'
    refine ⟨rfl, fun _ h => .inl h, fun k hk => rfl, by simp, fun i _ => ?_⟩
    simp only [hsh]
    split
    · exact .inl rfl
    · exact .inr ⟨rfl, trivial⟩
  have hli : ∀ i, shp C'.H i ≠ none → b ≠ i ∧ shp C.H i ≠ none := by
    intro i h
    subst hC'
    simp only [hsh] at h
    split at h
    · exact absurd rfl h
    · rename_i e; exact ⟨e, h⟩
  refine ⟨hle, ⟨?_, ?_, ?_, ?_, ?_⟩, ?_, ?_⟩
  · subst hC'; exact hH.base
  · subst hC'
    intro k hk
    rcases hk with h | h
    · exact hH.st k h
    · exact hH.lt hlive h
  · intro i x hx
    by_cases e : b = i
    · subst e
      subst hC'
      simp [hlt] at hx
      subst hx
      trivial
    · have hx' : C.H[i]? = some x := by subst hC'; simpa [List.getElem?_set_ne e] using hx
      exact (hH.blk i x hx').keep hle (by subst hC'; rfl) fun g' hg' => by subst hC'; rfl
  · intro i g hs hg
    obtain ⟨h1, h2⟩ := hli i hs
    subst hC'
    obtain ⟨h3, h4⟩ := hH.own i g h2 hg
    refine ⟨fun h => ?_, h4⟩
    rcases h with h | h
    · exact h3 h
    · exact h1 (hH.inj b i g hlive h2 h hg)
  · intro i j g h1 h2 h3 h4
    have k1 := hli i h1
    have k2 := hli j h2
    subst hC'
    exact hH.inj i j g k1.2 k2.2 h3 h4
  · subst hC'; exact ⟨rfl, rfl, rfl, rfl, Nat.le_refl _, fun _ _ _ => rfl⟩
  · obtain ⟨xs, hown, hf, hrd⟩ := hH.blk b _ hb
    have hw : C'.w = C.w := by subst hC'; rfl
    have hB : C'.B = C.B := by subst hC'; rfl
    have hS : ∀ g, ownB (C.ρ b) = some g → C'.Sf f g := fun g hg => ⟨by subst hC'; exact .inr hg, fun e => by rw [hB]; exact hf e g hg⟩
    show Rd C'.w (C'.Sf f) (.sl t) l [C.ρ b]
    rw [hw]
    refine Rd_own hown hS fun i x hx => Rd.mono (hle.Sf f) (fun _ _ => rfl) _ _ _ (hrd i x hx)

/-- The cells of own rows among others, once these rows stay as they are. -/
theorem frz_r : ∀ {l : List Cell} {vs : List Value} {C : Cx}, HeapR C → LR C l vs → ∃ C', C'.H = (frz C.H l).2 ∧ C.le C' ∧ HeapR C' ∧ Frm C C' ∧ C'.w = C.w ∧ C'.ρ = C.ρ ∧ LR C' (frz C.H l).1 vs
  | [], [], C, hH, hl => ⟨C, rfl, .refl C, hH, .refl C, rfl, rfl, trivial⟩
  | c :: l, v :: vs, C, hH, hl => by
    have plain : ∀ c', CellR C c' v → ∃ C', C'.H = (frz C.H l).2 ∧ C.le C' ∧ HeapR C' ∧ Frm C C' ∧ C'.w = C.w ∧ C'.ρ = C.ρ ∧ LR C' (c' :: (frz C.H l).1) (v :: vs) := by
      intro c' hc
      obtain ⟨C', h1, h2, h3, h4, h5, h6, h7⟩ := frz_r hH hl.2
      exact ⟨C', h1, h2, h3, h4, h5, h6, hc.mono h2, h7⟩
    cases c with
    | own b =>
      simp only [frz]
      split
      · rename_i t ety l' f hb
        obtain ⟨k1, k2, k3, k4⟩ := hH.freeze hb rfl
        obtain ⟨C', h1, h2, h3, h4, h5, h6, h7⟩ := frz_r k2 (hl.2.mono k1)
        refine ⟨C', h1, k1.trans h2, h3, k3.trans k1 h4, h5, h6, ?_, h7⟩
        have hv : v = C.ρ b := hl.1.2.2 t l'.length (by simp [shp, hb])
        rw [hv]
        exact k4.mono h2
      · exact plain .undef trivial
    | _ => simp only [frz]; exact plain _ hl.1
  | [], _ :: _, _, _, h => h.elim
  | _ :: _, [], _, _, h => h.elim
end
end Go.Proofs.YtgagpmiooeoodaaGreat.A
