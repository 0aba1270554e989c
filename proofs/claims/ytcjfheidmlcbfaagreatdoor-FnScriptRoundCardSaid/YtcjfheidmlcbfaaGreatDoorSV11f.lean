/- Calls of functions as data: what is handed over is made ready; the contract out of equations. -/
import Derived.Test.YtcjfheidmlcbfaaGreatDoorSV11e
set_option linter.unusedVariables false
set_option linter.unusedSimpArgs false
set_option linter.unusedSectionVars false
namespace Go.Proofs.YtcjfheidmlcbfaaGreatDoor.V
open Go.RowKit

structure FnD where
  f : Nat
  sh : Bool
  ps : List PS
  pb : List BC
  vc : VC
  bs : List BC
  R : Type
  fn : Nat → denP ps → denB pb → Option R
  out : R → vc.den × denB bs
  inn : vc.den × denB bs → R
  inv : ∀ d, out (inn d) = d

def FnD.OK (P : Program) (c : FnD) : Prop := ∀ k x y z, c.fn k x y = some z → CallsOK P c.f (encP c.ps x) (encB c.pb y) c.sh (c.vc.enc (c.out z).1) (encB c.bs (c.out z).2)

/-! ### What is made ready ahead of a call -/

/-- A slice of a row's element that was taken out: the block it became, the row's number, element, place, version. -/
structure Back where
  k : Nat
  b : Nat
  i : Nat
  o : Nat
  v : Nat

def tyOf (pb : List BC) (j : Nat) : Option Ty := match pb[j]? with | some (.arr t _) => some t | _ => none

def ghostK (pb : List BC) (j : Nat) (c : Cell) (H : List Blk) (bk : List Back) : Cell × List Blk × List Back :=
  match tyOf pb j with
  | some y => (.own H.length, H ++ [.arr y [] .un 0 none], bk)
  | none => (c, H, bk)
def detK (c : Cell) (b i o v : Nat) (H : List Blk) (bk : List Back) : Cell × List Blk × List Back :=
  match H[b]? with
  | some (.arr t l .un v' none) => cond (Nat.beq v' v) (match getF t (l.getD i t.zero) o with
    | some ⟨u, l'⟩ => (.own H.length, H.set b (.arr t l .un v' (some (i, o))) ++ [.arr u l' .un 0 none], ⟨H.length, b, i, o, v⟩ :: bk)
    | none => (c, H, bk)) (c, H, bk)
  | _ => (c, H, bk)
def frz1 (sh : Bool) (c : Cell) (H : List Blk) (bk : List Back) : Cell × List Blk × List Back :=
  cond sh (match frz H [c] with | ([c'], H') => (c', H', bk) | _ => (c, H, bk)) (c, H, bk)
def prepLC (pb : List BC) (sh : Bool) (x : LC) (c : Cell) (H : List Blk) (bk : List Back) : Cell × List Blk × List Back :=
  match x with
  | .own j => match c with
    | .nst b i o v => detK c b i o v H bk
    | .nil => ghostK pb j c H bk
    | .emp => ghostK pb j c H bk
    | c => (c, H, bk)
  | .ptr _ _ => (c, H, bk)
  | _ => frz1 sh c H bk
def prepL (pb : List BC) (sh : Bool) : List LC → List Cell → List Blk → List Back → List Cell × List Blk × List Back
  | x :: xs, c :: cs, H, bk => match prepLC pb sh x c H bk with
    | (c, H, bk) => match prepL pb sh xs cs H bk with
      | (cs, H, bk) => (c :: cs, H, bk)
  | _, cs, H, bk => (cs, H, bk)
def prepP (pb : List BC) (sh : Bool) (p : PS) (v : AV) (H : List Blk) (bk : List Back) : AV × List Blk × List Back :=
  match p with
  | .vc (.c x) => match v with
    | .c c => match prepLC pb sh x c H bk with
      | (c, H, bk) => (.c c, H, bk)
    | v => (v, H, bk)
  | .vc (.agg xs) => match v with
    | .agg cs => match prepL pb sh xs cs H bk with
      | (cs, H, bk) => (.agg cs, H, bk)
    | v => (v, H, bk)
  | _ => match v with
    | .c c => match frz1 sh c H bk with
      | (c, H, bk) => (.c c, H, bk)
    | .agg cs => cond sh (match frz H cs with | (cs, H) => (.agg cs, H, bk)) (.agg cs, H, bk)
    | v => (v, H, bk)
def prepAs (pb : List BC) (sh : Bool) : List PS → List AV → List Blk → List Back → List AV × List Blk × List Back
  | p :: ps, v :: vs, H, bk => match prepP pb sh p v H bk with
    | (v, H, bk) => match prepAs pb sh ps vs H bk with
      | (vs, H, bk) => (v :: vs, H, bk)
  | _, vs, H, bk => (vs, H, bk)

def refsLC (x : LC) (c : Cell) : List Nat :=
  match x with
  | .own _ => refsC c
  | .ptr _ _ => refsC c
  | _ => []
def refsLL : List LC → List Cell → List Nat
  | x :: xs, c :: cs => refsLC x c ++ refsLL xs cs
  | _, _ => []
def refsP (p : PS) (v : AV) : List Nat :=
  match p, v with
  | .vc (.c x), .c c => refsLC x c
  | .vc (.agg xs), .agg cs => refsLL xs cs
  | _, _ => []
def refsPs : List PS → List AV → List Nat
  | p :: ps, v :: vs => refsP p v ++ refsPs ps vs
  | _, _ => []

/-- What is handed over, in the callee's numbers. -/
def entLC (T : Nat → Option TI) (σ : List Nat) (Hk : List Blk) (x : LC) (c : Cell) : Cell :=
  match x with
  | .own _ => entC (renC σ c)
  | .ptr _ _ => entC (renC σ c)
  | _ => argC T Hk c
def entLL (T : Nat → Option TI) (σ : List Nat) (Hk : List Blk) : List LC → List Cell → List Cell
  | x :: xs, c :: cs => entLC T σ Hk x c :: entLL T σ Hk xs cs
  | _, cs => cs.map (argC T Hk)
def entP (T : Nat → Option TI) (σ : List Nat) (Hk : List Blk) (p : PS) (v : AV) : AV :=
  match p with
  | .vc (.c x) => match v with
    | .c c => .c (entLC T σ Hk x c)
    | v => argA T Hk v
  | .vc (.agg xs) => match v with
    | .agg cs => .agg (entLL T σ Hk xs cs)
    | v => argA T Hk v
  | _ => argA T Hk v
def entAs (T : Nat → Option TI) (σ : List Nat) (Hk : List Blk) : List PS → List AV → List AV
  | p :: ps, v :: vs => entP T σ Hk p v :: entAs T σ Hk ps vs
  | _, vs => vs.map (argA T Hk)

/-- What was taken out goes back. -/
def attK (H : List Blk) (q : Back) : Option (List Blk) :=
  match H[q.b]?, H[q.k]? with
  | some (.arr t l .un ver (some (i, o))), some (.arr u l' .un _ none) => match setF t (l.getD i t.zero) o u l' with
    | some x' => some ((H.set q.b (.arr t (l.set i x') .un ver none)).set q.k .dead)
    | none => none
  | _, _ => none
def attL : List Back → List Blk → Option (List Blk)
  | [], H => some H
  | q :: r, H => match attK H q with
    | some H => attL r H
    | none => none

def allLive (H : List Blk) : List Nat → Bool
  | [] => true
  | b :: r => cond (match H[b]? with | some x => x.live | none => false) (allLive H r) false

section
variable {R : Type}
/-- Nothing handed over but data. -/
def callS (T : Nat → Option TI) (k : Nat) (c : FnD) (H : List Blk) (vs : List AV) (cont : AV → List Blk → Option R) (els : Option R) : Option R :=
  match decP c.ps (vs.map (argA T H)) with
  | none => els
  | some x => match decB c.pb [] with
    | none => els
    | some y => (c.fn k x y).bind fun z => cont (mapA (bck [] H.length) (c.vc.enc (c.out z).1)) (H ++ (encB c.bs (c.out z).2).map (mapB (bck [] H.length)))
def callG (T : Nat → Option TI) (k : Nat) (c : FnD) (H : List Blk) (vs : List AV) (cont : AV → List Blk → Option R) (els : Option R) : Option R :=
  match prepAs c.pb c.sh c.ps vs H [] with
  | (vs, H, bk) => match reach H 1000 (refsPs c.ps vs) [] with
    | σ => cond (nodupN σ && allLive H σ) (match decP c.ps (entAs T σ (handH c.sh H σ) c.ps vs) with
      | none => els
      | some x => match decB c.pb (σ.map fun b => entB (renB σ (H.getD b .dead))) with
        | none => els
        | some y => (c.fn k x y).bind fun z => match attL bk (updL H σ ((encB c.bs (c.out z).2).map (mapB (bck σ H.length)))) with
          | some H' => cont (mapA (bck σ H.length) (c.vc.enc (c.out z).1)) H'
          | none => none) els
def FnD.simple (c : FnD) : Bool := c.pb.isEmpty && !c.sh
def cfOf (q : Bool) (T : Nat → Option TI) (k : Nat) : List FnD → CF R
  | [], _, _, _, _ => none
  | c :: cs, f, H, vs, cont => cond (Nat.beq c.f f) (match c.simple with
    | true => callS T k c H vs cont (cfOf q T k cs f H vs cont)
    | false => cond q (cfOf q T k cs f H vs cont) (callG T k c H vs cont (cfOf q T k cs f H vs cont))) (cfOf q T k cs f H vs cont)
def ioOf (cs : List FnD) (f : Nat) : Bool := cs.any fun c => Nat.beq c.f f && !c.simple
end

/-! ### It is sound -/

section
variable {P : Program} {R : Type} {C : Cx} {r : R}

def BN (C : Cx) (bk : List Back) : Prop := ∀ q ∈ bk, q.k < C.H.length ∧ CellR C (.nst q.b q.i q.o q.v) (C.ρ q.k)
theorem BN.mono {C C' : Cx} (h : C.le C') {bk : List Back} (hb : BN C bk) : BN C' bk := fun q hq => by
  obtain ⟨h1, h2⟩ := hb q hq
  refine ⟨Nat.lt_of_lt_of_le h1 h.len, ?_⟩
  rw [(h.blk q.k h1).2]
  exact h2.mono h
/-- The rows that something was taken out of. -/
def BH (H : List Blk) (bk : List Back) : Prop := ∀ q ∈ bk, ∃ t l, H[q.b]? = some (.arr t l .un q.v (some (q.i, q.o)))
def BC' (H : List Blk) (bk : List Back) : Prop := ∀ q ∈ bk, ∀ t l ver i o, H[q.b]? = some (.arr t l .un ver (some (i, o))) → ver = q.v ∧ i = q.i ∧ o = q.o
theorem BH.c {H : List Blk} {bk : List Back} (h : BH H bk) : BC' H bk := fun q hq t l ver i o e => by
  obtain ⟨t', l', e'⟩ := h q hq
  rw [e'] at e
  cases e
  exact ⟨rfl, rfl, rfl⟩
theorem frz_hole : ∀ (l : List Cell) (H : List Blk) (b : Nat) (t : Ty) (x : List t.den) (m : Md) (v : Nat) (h : Nat × Nat), H[b]? = some (.arr t x m v (some h)) → (frz H l).2[b]? = some (.arr t x m v (some h))
  | [], H, b, t, x, m, v, h, e => e
  | c :: l, H, b, t, x, m, v, h, e => by
    unfold frz
    split
    · rename_i hc; cases hc
    · rename_i b' r hc
      cases hc
      split
      · rename_i t' l' m' v' e'
        refine frz_hole l _ b t x m v h ?_
        rw [List.getElem?_set_ne (fun q => by subst q; rw [e] at e'; cases e')]
        exact e
      · exact frz_hole l H b t x m v h e
    · rename_i hc
      cases hc
      exact frz_hole l H b t x m v h e
def BK (C : Cx) (bk : List Back) : Prop := BN C bk ∧ BH C.H bk
theorem BK.step {C C' : Cx} (h : C.le C') {bk : List Back} (hb : BK C bk) (hh : ∀ (b : Nat) (t : Ty) (l : List t.den) (v : Nat) (q : Nat × Nat), C.H[b]? = some (.arr t l .un v (some q)) → C'.H[b]? = some (.arr t l .un v (some q))) : BK C' bk :=
  ⟨hb.1.mono h, fun q hq => by obtain ⟨t, l, e⟩ := hb.2 q hq; exact ⟨t, l, hh _ _ _ _ _ e⟩⟩

def StepTo (C C' : Cx) : Prop := C'.w = C.w ∧ C.le C' ∧ HeapR C' ∧ Frm C C'
theorem StepTo.refl (h : HeapR C) : StepTo C C := ⟨rfl, .refl C, h, .refl C⟩
theorem StepTo.trans {A B C : Cx} (h : StepTo A B) (k : StepTo B C) : StepTo A C := ⟨k.1.trans h.1, h.2.1.trans k.2.1, k.2.2.1, h.2.2.2.trans h.2.1 k.2.2.2⟩

theorem ghost_r (pb : List BC) (j : Nat) {c : Cell} {v : Value} {bk : List Back} (hH : HeapR C) (h : CellR C c v) (hv : ∃ A, v = .slice A 0 0) (hb : BK C bk) :
    ∃ C', C'.H = (ghostK pb j c C.H bk).2.1 ∧ StepTo C C' ∧ CellR C' (ghostK pb j c C.H bk).1 v ∧ BK C' (ghostK pb j c C.H bk).2.2 := by
  unfold ghostK
  split
  · rename_i y _
    obtain ⟨C', h1, h2, h3, h4, h5, h6⟩ := hH.nilRow y hv
    exact ⟨C', h1, ⟨h2, h3, h4, h5⟩, h6, hb.step h3 fun b t l v q e => by rw [h1, List.getElem?_append_left (List.getElem?_eq_some_iff.1 e).1]; exact e⟩
  · exact ⟨C, rfl, .refl hH, h, hb⟩
theorem det_r {b i o ver : Nat} {v : Value} {bk : List Back} (hH : HeapR C) (h : CellR C (.nst b i o ver) v) (hb : BK C bk) :
    ∃ C', C'.H = (detK (.nst b i o ver) b i o ver C.H bk).2.1 ∧ StepTo C C' ∧ CellR C' (detK (.nst b i o ver) b i o ver C.H bk).1 v ∧ BK C' (detK (.nst b i o ver) b i o ver C.H bk).2.2 := by
  have plain : ∃ C', C'.H = C.H ∧ StepTo C C' ∧ CellR C' (.nst b i o ver) v ∧ BK C' bk := ⟨C, rfl, .refl hH, h, hb⟩
  unfold detK
  split
  · rename_i t l v' hbb
    cases hv : Nat.beq v' ver
    · exact plain
    have := Nat.eq_of_beq_eq_true hv
    subst this
    simp only [cond_true]
    split
    · rename_i u l' hg
      obtain ⟨C', h1, h2, h3, h4, h5, h6, h7, h8, h9⟩ := hH.detach hbb h hg
      have hlt := (List.getElem?_eq_some_iff.1 hbb).1
      refine ⟨C', h1, ⟨h2, h4, h5, h6⟩, h8, ⟨?_, fun q hq => ?_⟩⟩
      case refine_2 =>
        rcases List.mem_cons.1 hq with rfl | hq
        · refine ⟨t, l, ?_⟩
          rw [h1, List.getElem?_append_left (by rw [List.length_set]; exact hlt), List.getElem?_set_self hlt]
        · obtain ⟨t', x, e⟩ := hb.2 q hq
          refine ⟨t', x, ?_⟩
          rw [h1, List.getElem?_append_left (by rw [List.length_set]; exact (List.getElem?_eq_some_iff.1 e).1), List.getElem?_set_ne (fun z => by rw [z, e] at hbb; cases hbb)]
          exact e
      intro q hq
      rcases List.mem_cons.1 hq with rfl | hq
      · exact ⟨by rw [h1]; simp, by rw [h7]; exact h9⟩
      · exact hb.1.mono h4 q hq
    · exact plain
  · exact plain
theorem frz1_r {sh : Bool} {c : Cell} {v : Value} {bk : List Back} (hH : HeapR C) (h : CellR C c v) (hb : BK C bk) :
    ∃ C', C'.H = (frz1 sh c C.H bk).2.1 ∧ StepTo C C' ∧ CellR C' (frz1 sh c C.H bk).1 v ∧ BK C' (frz1 sh c C.H bk).2.2 := by
  have plain : ∃ C', C'.H = C.H ∧ StepTo C C' ∧ CellR C' c v ∧ BK C' bk := ⟨C, rfl, .refl hH, h, hb⟩
  unfold frz1
  cases sh
  · exact plain
  simp only [cond_true]
  obtain ⟨C', h1, h2, h3, h4, h5, h6, _⟩ := frz_r (l := [c]) (vs := [v]) hH ⟨h, trivial⟩
  split
  · rename_i c' H' e
    rw [e] at h1 h6
    refine ⟨C', h1, ⟨h5, h2, h3, h4⟩, h6.1, hb.step h2 fun b t l v q z => ?_⟩
    have := frz_hole [c] _ b t l .un v q z
    rw [e] at this
    rw [h1]
    exact this
  · exact plain
theorem prepLC_r (pb : List BC) (sh : Bool) (x : LC) {c : Cell} {v : Value} {bk : List Back} (hH : HeapR C) (h : CellR C c v) (hb : BK C bk) :
    ∃ C', C'.H = (prepLC pb sh x c C.H bk).2.1 ∧ StepTo C C' ∧ CellR C' (prepLC pb sh x c C.H bk).1 v ∧ BK C' (prepLC pb sh x c C.H bk).2.2 := by
  have plain : ∃ C', C'.H = C.H ∧ StepTo C C' ∧ CellR C' c v ∧ BK C' bk := ⟨C, rfl, .refl hH, h, hb⟩
  unfold prepLC
  split
  · split
    · exact det_r hH h hb
    · exact ghost_r pb _ hH h ⟨none, h⟩ hb
    · exact ghost_r pb _ hH h h hb
    · exact plain
  · exact plain
  · exact frz1_r hH h hb
theorem prepL_r (pb : List BC) (sh : Bool) : ∀ (xs : List LC) (cs : List Cell) (vs : List Value) {C : Cx} {bk : List Back}, HeapR C → LR C cs vs → BK C bk →
    ∃ C', C'.H = (prepL pb sh xs cs C.H bk).2.1 ∧ StepTo C C' ∧ LR C' (prepL pb sh xs cs C.H bk).1 vs ∧ BK C' (prepL pb sh xs cs C.H bk).2.2
  | [], cs, vs, C, bk, hH, h, hb => by simp only [prepL]; exact ⟨C, rfl, .refl hH, h, hb⟩
  | _ :: _, [], vs, C, bk, hH, h, hb => by simp only [prepL]; exact ⟨C, rfl, .refl hH, h, hb⟩
  | x :: xs, c :: cs, v :: vs, C, bk, hH, h, hb => by
    obtain ⟨C1, h1, h2, h3, h4⟩ := prepLC_r pb sh x hH h.1 hb
    obtain ⟨C', k1, k2, k3, k4⟩ := prepL_r pb sh xs cs vs h2.2.2.1 (h.2.mono h2.2.1) h4
    rw [h1] at k1 k3 k4
    exact ⟨C', k1, h2.trans k2, ⟨h3.mono k2.2.1, k3⟩, k4⟩
  | _ :: _, _ :: _, [], _, _, _, h, _ => h.elim
theorem prepP_r (pb : List BC) (sh : Bool) (p : PS) {v : AV} {u : Value} {bk : List Back} (hH : HeapR C) (h : AVR C v u) (hb : BK C bk) :
    ∃ C', C'.H = (prepP pb sh p v C.H bk).2.1 ∧ StepTo C C' ∧ AVR C' (prepP pb sh p v C.H bk).1 u ∧ BK C' (prepP pb sh p v C.H bk).2.2 := by
  have plain : ∃ C', C'.H = C.H ∧ StepTo C C' ∧ AVR C' v u ∧ BK C' bk := ⟨C, rfl, .refl hH, h, hb⟩
  unfold prepP
  split
  · split
    · exact prepLC_r pb sh _ hH h hb
    · exact plain
  · split
    · obtain ⟨vs, hv, hl⟩ := h
      obtain ⟨C', h1, h2, h3, h4⟩ := prepL_r pb sh _ _ _ hH hl hb
      exact ⟨C', h1, h2, ⟨vs, hv, h3⟩, h4⟩
    · exact plain
  · split
    · exact frz1_r hH h hb
    · cases sh
      · exact plain
      · obtain ⟨vs, hv, hl⟩ := h
        obtain ⟨C', h1, h2, h3, h4, h5, h6, _⟩ := frz_r hH hl
        exact ⟨C', h1, ⟨h5, h2, h3, h4⟩, ⟨vs, hv, h6⟩, hb.step h2 fun b t l v q z => by rw [h1]; exact frz_hole _ _ b t l .un v q z⟩
    · exact plain
theorem prepAs_r (pb : List BC) (sh : Bool) : ∀ (ps : List PS) (vs : List AV) (us : List Value) {C : Cx} {bk : List Back}, HeapR C → AL C vs us → BK C bk →
    ∃ C', C'.H = (prepAs pb sh ps vs C.H bk).2.1 ∧ StepTo C C' ∧ AL C' (prepAs pb sh ps vs C.H bk).1 us ∧ BK C' (prepAs pb sh ps vs C.H bk).2.2
  | [], vs, us, C, bk, hH, h, hb => by simp only [prepAs]; exact ⟨C, rfl, .refl hH, h, hb⟩
  | _ :: _, [], us, C, bk, hH, h, hb => by simp only [prepAs]; exact ⟨C, rfl, .refl hH, h, hb⟩
  | p :: ps, v :: vs, u :: us, C, bk, hH, h, hb => by
    obtain ⟨C1, h1, h2, h3, h4⟩ := prepP_r pb sh p hH h.1 hb
    obtain ⟨C', k1, k2, k3, k4⟩ := prepAs_r pb sh ps vs us h2.2.2.1 (h.2.mono h2.2.1) h4
    rw [h1] at k1 k3 k4
    exact ⟨C', k1, h2.trans k2, ⟨h3.mono k2.2.1, k3⟩, k4⟩
  | _ :: _, _ :: _, [], _, _, _, h, _ => h.elim

theorem allLive_r : ∀ (σ : List Nat), allLive C.H σ = true → ∀ b ∈ σ, live C b
  | [], _, b, hb => by simp at hb
  | a :: σ, h, b, hb => by
    simp only [allLive] at h
    obtain ⟨h1, h2⟩ := andB h
    rcases List.mem_cons.1 hb with rfl | hb
    · split at h1
      · rename_i x hx
        exact ⟨x, hx, fun e => by subst e; cases h1⟩
      · cases h1
    · exact allLive_r σ h2 b hb

theorem LR.mapTo {D : Cx} {f : Cell → Cell} (hf : ∀ c v, CellR C c v → CellR D (f c) v) : ∀ {l : List Cell} {vs : List Value}, LR C l vs → LR D (l.map f) vs
  | [], [], _ => trivial
  | _ :: _, _ :: _, h => ⟨hf _ _ h.1, LR.mapTo hf h.2⟩
  | [], _ :: _, h => h.elim
  | _ :: _, [], h => h.elim

/-! What is handed over, in the callee's view -/
section
variable {T : Nat → Option TI} (hH : HeapR C) {σ : List Nat} (hn : nodupN σ = true) (sh : Bool)
include hH hn

theorem data_r {c : Cell} {v : Value} (h : CellR C c v) : CellR ((C.ren σ).sub sh) (argC T (handH sh C.H σ) c) v := by
  obtain ⟨Ck, h1, h2, h3, h4, h5, h6⟩ := hand_r hH (sh := sh) hn (T := T)
  rw [← h1]
  exact argC_r h4 h5 h6 h3 (h.mono h2)
theorem dataL_r {l : List Cell} {vs : List Value} (h : LR C l vs) : LR ((C.ren σ).sub sh) (l.map (argC T (handH sh C.H σ))) vs := LR.mapTo (fun c v h => data_r hH hn sh h) h
theorem dataA_r {v : AV} {u : Value} (h : AVR C v u) : AVR ((C.ren σ).sub sh) (argA T (handH sh C.H σ) v) u := by
  obtain ⟨Ck, h1, h2, h3, h4, h5, h6⟩ := hand_r hH (sh := sh) hn (T := T)
  rw [← h1]
  exact argA_r h4 h5 h6 h3 (h.mono h2)
theorem entLC_r (x : LC) {c : Cell} {v : Value} (h : CellR C c v) : CellR ((C.ren σ).sub sh) (entLC T σ (handH sh C.H σ) x c) v := by
  unfold entLC
  split
  · exact entC_r (hH.ren hn) (renC_r h)
  · exact entC_r (hH.ren hn) (renC_r h)
  · exact data_r hH hn sh h
theorem entLL_r : ∀ (xs : List LC) (cs : List Cell) (vs : List Value), LR C cs vs → LR ((C.ren σ).sub sh) (entLL T σ (handH sh C.H σ) xs cs) vs
  | [], cs, vs, h => by simp only [entLL]; exact dataL_r hH hn sh h
  | _ :: _, [], vs, h => by simp only [entLL]; exact dataL_r hH hn sh h
  | x :: xs, c :: cs, v :: vs, h => ⟨entLC_r hH hn sh x h.1, entLL_r xs cs vs h.2⟩
  | _ :: _, _ :: _, [], h => h.elim
theorem entP_r (p : PS) {v : AV} {u : Value} (h : AVR C v u) : AVR ((C.ren σ).sub sh) (entP T σ (handH sh C.H σ) p v) u := by
  unfold entP
  split
  · split
    · exact entLC_r hH hn sh _ h
    · exact dataA_r hH hn sh h
  · split
    · obtain ⟨vs, hv, hl⟩ := h; exact ⟨vs, hv, entLL_r hH hn sh _ _ _ hl⟩
    · exact dataA_r hH hn sh h
  · exact dataA_r hH hn sh h
theorem dataAs_r : ∀ {vs : List AV} {us : List Value}, AL C vs us → AL ((C.ren σ).sub sh) (vs.map (argA T (handH sh C.H σ))) us
  | [], [], _ => trivial
  | _ :: _, _ :: _, h => ⟨dataA_r hH hn sh h.1, dataAs_r h.2⟩
  | [], _ :: _, h => h.elim
  | _ :: _, [], h => h.elim
theorem entAs_r : ∀ (ps : List PS) (vs : List AV) (us : List Value), AL C vs us → AL ((C.ren σ).sub sh) (entAs T σ (handH sh C.H σ) ps vs) us
  | [], vs, us, h => by simp only [entAs]; exact dataAs_r hH hn sh h
  | _ :: _, [], us, h => by simp only [entAs]; exact dataAs_r hH hn sh h
  | p :: ps, v :: vs, u :: us, h => ⟨entP_r hH hn sh p h.1, entAs_r ps vs us h.2⟩
  | _ :: _, _ :: _, [], h => h.elim
end

/-- The call itself. -/
theorem call_core (hH : HeapR C) {σ : List Nat} (hn : nodupN σ = true) (hl : ∀ b ∈ σ, live C b) {c : FnD} (hc : c.OK P) {k : Nat} {x : denP c.ps} {y : denB c.pb} {z : c.R} {us : Array Value}
    (ha : AL ((C.ren σ).sub c.sh) (encP c.ps x) us.toList) (hb : (σ.map fun b => entB (renB σ (C.H.getD b .dead))) = encB c.pb y) (hz : c.fn k x y = some z) :
    Calls P c.f us C.w fun e w' => ∃ u C', e = .returned u ∧ C'.w = w' ∧ C'.H = updL C.H σ ((encB c.bs (c.out z).2).map (mapB (bck σ C.H.length))) ∧ C.le C' ∧ HeapR C' ∧ Frm C C' ∧ AVR C' (mapA (bck σ C.H.length) (c.vc.enc (c.out z).1)) u ∧ (σ = [] → Below C.w.heap.size C.w w') ∧ ∀ b : Nat, b < C.H.length → b ∉ σ → C'.H[b]? = C.H[b]? := by
  refine ((hc k x y z hz).2 ((C.ren σ).sub c.sh) us ((hH.ren hn).sub c.sh) rfl ?_ ha).mono fun e w' he => ?_
  · rw [← hb]
    simp [Cx.sub, Cx.ren]
  · obtain ⟨u, D, rfl, rfl, h1, h2, h3, h4⟩ := he
    obtain ⟨C', k1, k2, k3, k4, k5, k6, k7⟩ := hH.back hn hl h2 h3
    refine ⟨u, C', rfl, k2, by rw [k1, h1], k3, k4, k5, k6 _ _ h4, fun e => ?_, k7⟩
    subst e
    refine h2.chg.below (fun g p ho => ?_) (Nat.le_refl _)
    rcases ho with ho | ⟨b, ⟨x, hx, _⟩, _⟩
    · exact ho
    · simp [Cx.ren] at hx

theorem attL_r : ∀ (bk : List Back) {C : Cx} {H' : List Blk}, HeapR C → BN C bk → BC' C.H bk → attL bk C.H = some H' → ∃ C', C'.H = H' ∧ StepTo C C'
  | [], C, H', hH, _, _, h => by cases h; exact ⟨C, rfl, .refl hH⟩
  | q :: r, C, H', hH, hb, hbc, h => by
    simp only [attL] at h
    split at h
    case h_2 => cases h
    rename_i H1 hq
    unfold attK at hq
    split at hq
    case h_2 => cases hq
    rename_i t l ver i o u l' vk e1 e2
    obtain ⟨a1, a2, a3⟩ := hbc q (by simp) _ _ _ _ _ e1
    split at hq
    case h_2 => cases hq
    rename_i x' hx'
    cases hq
    obtain ⟨_, hn⟩ := hb q (by simp)
    rw [← a1, ← a2, ← a3] at hn
    obtain ⟨C1, h1, h2, h3, h4, h5⟩ := hH.attach e1 e2 hn hx'
    rw [← h1] at h
    obtain ⟨C', k1, k2⟩ := attL_r r h4 (BN.mono h3 fun q hq => hb q (by simp [hq])) (fun q' hq' t' l' ver' i' o' z => by
      rw [h1] at z
      by_cases z1 : q.k = q'.b
      · rw [z1, List.getElem?_set_self (by rw [List.length_set, ← z1]; exact (List.getElem?_eq_some_iff.1 e2).1)] at z
        cases z
      · rw [List.getElem?_set_ne z1] at z
        by_cases z2 : q.b = q'.b
        · rw [z2, List.getElem?_set_self (by rw [← z2]; exact (List.getElem?_eq_some_iff.1 e1).1)] at z
          cases z
        · rw [List.getElem?_set_ne z2] at z
          exact hbc q' (by simp [hq']) _ _ _ _ _ z) h
    exact ⟨C', k1, StepTo.trans ⟨h2, h3, h4, h5⟩ k2⟩

def allOK (P : Program) : List FnD → Prop
  | [] => True
  | c :: cs => c.OK P ∧ allOK P cs

theorem encB_full : ∀ (l : List BC) (y : denB l) {t : Ty} {x : List t.den} {m : Md} {v : Nat} {h : Nat × Nat}, .arr t x m v (some h) ∈ encB l y → False
  | [], _, t, x, m, v, h, hm => by simp [encB] at hm
  | b :: l, y, t, x, m, v, h, hm => by
    simp only [encB, List.mem_cons] at hm
    rcases hm with hm | hm
    · cases b <;> simp [BC.enc] at hm
    · exact encB_full l y.2 hm

/-- What a callee's answer means to the caller. -/
def Ans (P : Program) (f : FuncId) (H : List Blk) (args : List AV) (v : AV) (H' : List Blk) (q : Bool) : Prop :=
  ∀ (C : Cx) (us : Array Value), HeapR C → C.H = H → AL C args us.toList → Calls P f us C.w fun e w' => ∃ u C', e = .returned u ∧ C'.w = w' ∧ C'.H = H' ∧ C.le C' ∧ HeapR C' ∧ Frm C C' ∧ AVR C' v u ∧ (q = true → Below C.w.heap.size C.w w')

theorem callS_r {T : Nat → Option TI} {k : Nat} {c : FnD} (hc : c.OK P) {H : List Blk} {vs : List AV} {cont : AV → List Blk → Option R} {els : Option R} (hs : c.simple = true) (h : callS T k c H vs cont els = some r) (q : Bool) :
    els = some r ∨ ((∀ (vs : Array Value) (w : World), (callFunc c.f vs).run P w = .ok (.enter c.f vs) w) ∧ ∃ v H', cont v H' = some r ∧ Ans P c.f H vs v H' q) := by
  unfold callS at h
  split at h
  · exact .inl h
  rename_i x hx
  split at h
  · exact .inl h
  rename_i y hy
  cases hz : c.fn k x y with
  | none => rw [hz] at h; cases h
  | some z =>
    rw [hz] at h
    refine .inr ⟨(hc k x y z hz).1, _, _, h, fun C us hH hh ha => ?_⟩
    subst hh
    simp only [FnD.simple, Bool.and_eq_true, Bool.not_eq_true'] at hs
    have ha' := dataAs_r (T := T) hH (σ := []) rfl false ha
    have := call_core (σ := []) hH rfl (fun b hb => by simp at hb) hc (us := us) (x := x) (y := y) (k := k) (z := z) (by
      rw [hs.2]
      exact decP_r c.ps ha' hx) (decB_some _ hy) hz
    refine this.mono fun e w' he => ?_
    obtain ⟨u, C', a1, a2, a3, a4, a5, a6, a7, a8, _⟩ := he
    exact ⟨u, C', a1, a2, a3, a4, a5, a6, a7, fun _ => a8 rfl⟩

theorem callG_r {T : Nat → Option TI} {k : Nat} {c : FnD} (hc : c.OK P) {H : List Blk} {vs : List AV} {cont : AV → List Blk → Option R} {els : Option R} (h : callG T k c H vs cont els = some r) :
    els = some r ∨ ((∀ (vs : Array Value) (w : World), (callFunc c.f vs).run P w = .ok (.enter c.f vs) w) ∧ ∃ v H', cont v H' = some r ∧ Ans P c.f H vs v H' false) := by
  unfold callG at h
  split at h
  rename_i vs1 H1 bk hp
  dsimp only at h
  cases hg : (nodupN (reach H1 1000 (refsPs c.ps vs1) []) && allLive H1 (reach H1 1000 (refsPs c.ps vs1) []))
  · rw [hg] at h; exact .inl h
  rw [hg] at h
  simp only [cond_true] at h
  simp only [Bool.and_eq_true] at hg
  obtain ⟨hn, hal⟩ := hg
  split at h
  · exact .inl h
  rename_i x hx
  split at h
  · exact .inl h
  rename_i y hy
  cases hz : c.fn k x y with
  | none => rw [hz] at h; cases h
  | some zz =>
    rw [hz] at h
    simp only [Option.bind_some] at h
    split at h
    case h_2 => cases h
    rename_i H' hat
    refine .inr ⟨(hc k x y zz hz).1, _, _, h, fun C us hH hh ha => ?_⟩
    subst hh
    obtain ⟨C1, h1, ⟨h2, h3, h4, h5⟩, h6, h7⟩ := prepAs_r c.pb c.sh c.ps vs us.toList hH ha (bk := []) ⟨fun q hq => by simp at hq, fun q hq => by simp at hq⟩
    rw [hp] at h1 h6 h7
    simp only at h1 h6 h7
    subst h1
    have := call_core h4 hn (allLive_r _ hal) hc (us := us) (k := k) (x := x) (y := y) (z := zz) (decP_r c.ps (entAs_r (T := T) h4 hn c.sh c.ps vs1 us.toList h6) hx) (decB_some _ hy) hz
    rw [← h2]
    refine this.mono fun e w' he => ?_
    obtain ⟨u, C2, rfl, rfl, a3, a4, a5, a6, a7, _, u3⟩ := he
    rw [← a3] at hat
    have hbc : BC' C2.H bk := by
      intro q hq t l ver i o z
      obtain ⟨t0, l0, e0⟩ := h7.2 q hq
      have hqs : q.b ∉ reach C1.H 1000 (refsPs c.ps vs1) [] := by
        intro hm
        have hm' := List.mem_map_of_mem (f := fun b => entB (renB (reach C1.H 1000 (refsPs c.ps vs1) []) (C1.H.getD b .dead))) hm
        rw [decB_some _ hy] at hm'
        have e1 : C1.H.getD q.b .dead = .arr t0 l0 .un q.v (some (q.i, q.o)) := by rw [List.getD_eq_getElem?_getD, e0]; rfl
        rw [e1] at hm'
        exact encB_full _ _ hm'
      rw [u3 q.b (List.getElem?_eq_some_iff.1 e0).1 hqs, e0] at z
      cases z
      exact ⟨rfl, rfl, rfl⟩
    obtain ⟨C', b1, b2, b3, b4, b5⟩ := attL_r bk a5 (h7.1.mono a4) hbc hat
    exact ⟨u, C', rfl, b2, b1, h3.trans (a4.trans b3), b4, h5.trans h3 (a6.trans a4 b5), a7.mono b3, fun e => by cases e⟩

theorem cfOf_r {T : Nat → Option TI} (q : Bool) (k : Nat) : ∀ (cs : List FnD), allOK P cs → ∀ f H vs (cont : AV → List Blk → Option R) r, cfOf q T k cs f H vs cont = some r →
    (∀ (vs : Array Value) (w : World), (callFunc f vs).run P w = .ok (.enter f vs) w) ∧ ∃ v H', cont v H' = some r ∧ Ans P f H vs v H' q
  | [], _, f, H, vs, cont, r, h => by cases h
  | c :: cs, hcs, f, H, vs, cont, r, h => by
    simp only [cfOf] at h
    cases hf : Nat.beq c.f f
    · rw [hf] at h; exact cfOf_r q k cs hcs.2 f H vs cont r h
    rw [hf] at h
    have := Nat.eq_of_beq_eq_true hf
    subst this
    simp only [cond_true] at h
    split at h
    · rename_i hs
      rcases callS_r hcs.1 hs h q with h | h
      · exact cfOf_r q k cs hcs.2 _ H vs cont r h
      · exact h
    · cases q
      · rcases callG_r hcs.1 h with h | h
        · exact cfOf_r false k cs hcs.2 _ H vs cont r h
        · exact h
      · exact cfOf_r true k cs hcs.2 _ H vs cont r h
theorem cfOf_ok {T : Nat → Option TI} (k : Nat) (cs : List FnD) (h : allOK P cs) : CFok P (cfOf (R := R) false T k cs) := by
  intro f H vs cont r hr
  obtain ⟨h1, v, H', h2, h3⟩ := cfOf_r false k cs h f H vs cont r hr
  refine ⟨h1, v, H', h2, fun C us a b c => (h3 C us a b c).mono fun e w' he => ?_⟩
  obtain ⟨u, C', a1, a2, a3, a4, a5, a6, a7, _⟩ := he
  exact ⟨u, C', a1, a2, a3, a4, a5, a6, a7⟩
theorem cfOf_q {T : Nat → Option TI} (k : Nat) (cs : List FnD) (h : allOK P cs) : CFq P (cfOf (R := R) true T k cs) := by
  intro f H vs cont r hr
  obtain ⟨h1, v, H', h2, h3⟩ := cfOf_r true k cs h f H vs cont r hr
  refine ⟨h1, v, H', h2, fun C us a b c => (h3 C us a b c).mono fun e w' he => ?_⟩
  obtain ⟨u, C', a1, a2, a3, a4, a5, a6, a7, a8⟩ := he
  exact ⟨u, C', a1, a2, a3, a4, a5, a6, a7, a8 rfl⟩
end

/-! ### Places where ways meet; the contract -/

structure Lbl (R : Type) where
  lbl : Nat
  live : Live
  ms : List Md
  cc : List (Nat × Nat × Coer) := []
  tn : List Tn := []
  vs : List VC
  bs : List BC
  f : Nat → denV vs → denB bs → Option R

def lowOf {R : Type} (k : Nat) : List (Lbl R) → Lower R
  | [], _, _, _ => none
  | l :: ls, lbl, vs, H => cond (Nat.beq l.lbl lbl) (match decV l.vs vs with
    | none => none
    | some x => match decB l.bs H with
      | none => none
      | some y => l.f k x y) (lowOf k ls lbl vs H)
def annOf {R : Type} : List (Lbl R) → Nat → Option (Live × Dm)
  | [], _ => none
  | l :: ls, lbl => cond (Nat.beq l.lbl lbl) (some (l.live, ⟨l.ms, l.cc, l.tn⟩)) (annOf ls lbl)

def allEq {R : Type} (g : Nat → Nat → List (Nat × AV) → List Blk → Option R) : List (Lbl R) → Prop
  | [] => True
  | l :: ls => ((∀ x y, l.f 0 x y = none) ∧ ∀ k x y, g k l.lbl (mkTmps l.live (encV l.vs x)) (encB l.bs y) = l.f (k + 1) x y) ∧ allEq g ls

theorem lowOf_zero {R : Type} {g : Nat → Nat → List (Nat × AV) → List Blk → Option R} : ∀ (ls : List (Lbl R)), allEq g ls → ∀ lbl vs H, lowOf 0 ls lbl vs H = none
  | [], _, _, _, _ => rfl
  | l :: ls, h, lbl, vs, H => by
    simp only [lowOf]
    cases hb : Nat.beq l.lbl lbl
    · exact lowOf_zero ls h.2 lbl vs H
    · simp only [cond_true]
      cases hx : decV l.vs vs with
      | none => rfl
      | some x =>
        cases hy : decB l.bs H with
        | none => rfl
        | some y => exact h.1.1 x y

theorem lowOf_succ {R : Type} {g : Nat → Nat → List (Nat × AV) → List Blk → Option R} : ∀ (ls : List (Lbl R)), allEq g ls → ∀ k lbl live vs H r, annOf ls lbl = some live → lowOf (k + 1) ls lbl vs H = some r → g k lbl (mkTmps live.1 vs) H = some r
  | [], _, _, _, _, _, _, _, h, _ => by cases h
  | l :: ls, h, k, lbl, live, vs, H, r, ha, hl => by
    simp only [lowOf] at hl
    simp only [annOf] at ha
    cases hb : Nat.beq l.lbl lbl
    · rw [hb] at hl ha; exact lowOf_succ ls h.2 k lbl live vs H r ha hl
    · rw [hb] at hl ha
      simp only [cond_true] at hl ha
      cases ha
      have := Nat.eq_of_beq_eq_true hb
      subst this
      split at hl
      · cases hl
      rename_i x hx
      split at hl
      · cases hl
      rename_i y hy
      rw [decV_some _ hx, decB_some _ hy, h.1.2 k x y]
      exact hl

def bodyOf (fn : Func) : Code := match fn.body with | some c => c | none => .skip

def FnD.fin (c : FnD) (v : AV) (H : List Blk) : Option c.R :=
  match c.vc.dec v with
  | none => none
  | some d => match decB c.bs H with
    | none => none
    | some e => some (c.inn (d, e))

theorem encB_length : ∀ (l : List BC) (y : denB l), (encB l y).length = l.length
  | [], _ => rfl
  | _ :: l, y => by simp [encB, encB_length l y.2]

/-- **A function's contract, out of equations that the kernel checks.** -/
theorem FnD.of {P : Program} {T : Nat → Option TI} (c : FnD) (hmix : P.follows .mixedOrders = true) (hT : TOK P T) {fn : Func} (hf : P.funcs[c.f]? = some fn) (hb : fn.body = some (bodyOf fn))
    (hen : ∀ (vs : Array Value) (w : World), (callFunc c.f vs).run P w = .ok (.enter c.f vs) w) (hnd : nodupN (labelsC (bodyOf fn)) = true) (hlen : Nat.ble c.ps.length fn.ntmps = true)
    (cs : List FnD) (hcs : allOK P cs) (ls : List (Lbl c.R)) (co : Co) (hsh : co.sh = c.sh) (N : Nat)
    (hls : allEq (fun k lbl tmps H => go T (cfOf false T k cs) (cfOf true T k cs) (ioOf cs) (lowOf k ls) (annOf ls) c.pb.length fn co c.fin N (stkOf (bodyOf fn) lbl) ⟨tmps, H⟩) ls)
    (h : ∀ k x y, go T (cfOf false T k cs) (cfOf true T k cs) (ioOf cs) (lowOf k ls) (annOf ls) c.pb.length fn co c.fin N [.code (bodyOf fn)] ⟨initT 0 (encP c.ps x), encB c.pb y⟩ = c.fn k x y) : c.OK P := by
  intro k x y z hz
  rw [← hsh]
  refine contract hmix hT hf hb hen hnd (fun k => cfOf false T k cs) (fun k => cfOf true T k cs) (fun k => cfOf_ok k cs hcs) (fun k => cfOf_q k cs hcs) (fun k => lowOf k ls) N c.pb.length (fun lbl vs H => lowOf_zero ls hls lbl vs H) (fun k lbl live vs H r ha hj => lowOf_succ ls hls k lbl live vs H r ha hj)
    k (encP c.ps x) (encB c.pb y) (encB_length _ _) (by rw [encP_length]; exact Nat.le_of_ble_eq_true hlen) z ((h k x y).trans hz) _ _ fun v H hfin => ?_
  unfold FnD.fin at hfin
  split at hfin
  · cases hfin
  rename_i d hd
  split at hfin
  · cases hfin
  rename_i e he
  cases hfin
  rw [c.inv]
  exact ⟨c.vc.dec_some hd, decB_some _ he⟩

/-- strings.Builder's methods are what the interpreter takes them for. -/
def BldOK (P : Program) (bw : Option Bw) : Prop := ∀ R : Type, CFok P (R := R) fun f H args k => bldK bw f H args k none
theorem bldK_or {R : Type} {bw : Option Bw} {f : Nat} {H : List Blk} {args : List AV} {k : AV → List Blk → Option R} {e : Option R} {r : R} (h : bldK bw f H args k e = some r) : bldK bw f H args k none = some r ∨ e = some r := by
  cases bw with
  | none => exact .inr h
  | some q =>
    simp only [bldK] at h ⊢
    cases h1 : Nat.beq f q.ws
    · simp only [h1, cond_false] at h ⊢
      cases h2 : Nat.beq f q.st
      · simp only [h2, cond_false] at h; exact .inr h
      · simp only [h2, cond_true] at h ⊢; exact .inl h
    · simp only [h1, cond_true] at h ⊢; exact .inl h
theorem cfX_ok {P : Program} {R : Type} {bw : Option Bw} (hb : BldOK P bw) {cf : CF R} (h : CFok P cf) : CFok P (cfX bw cf) := by
  intro f H args k r hr
  rcases bldK_or hr with h1 | h1
  · exact hb R f H args k r h1
  · exact h f H args k r h1

/-- As FnD.of, where the function calls strings.Builder's methods. -/
theorem FnD.ofB {P : Program} {T : Nat → Option TI} (c : FnD) (hmix : P.follows .mixedOrders = true) (hT : TOK P T) (bw : Option Bw) (hbw : BldOK P bw) {fn : Func} (hf : P.funcs[c.f]? = some fn) (hb : fn.body = some (bodyOf fn))
    (hen : ∀ (vs : Array Value) (w : World), (callFunc c.f vs).run P w = .ok (.enter c.f vs) w) (hnd : nodupN (labelsC (bodyOf fn)) = true) (hlen : Nat.ble c.ps.length fn.ntmps = true)
    (cs : List FnD) (hcs : allOK P cs) (ls : List (Lbl c.R)) (co : Co) (hsh : co.sh = c.sh) (N : Nat)
    (hls : allEq (fun k lbl tmps H => go T (cfX bw (cfOf false T k cs)) (cfOf true T k cs) (ioX bw (ioOf cs)) (lowOf k ls) (annOf ls) c.pb.length fn co c.fin N (stkOf (bodyOf fn) lbl) ⟨tmps, H⟩) ls)
    (h : ∀ k x y, go T (cfX bw (cfOf false T k cs)) (cfOf true T k cs) (ioX bw (ioOf cs)) (lowOf k ls) (annOf ls) c.pb.length fn co c.fin N [.code (bodyOf fn)] ⟨initT 0 (encP c.ps x), encB c.pb y⟩ = c.fn k x y) : c.OK P := by
  intro k x y z hz
  rw [← hsh]
  refine contract hmix hT hf hb hen hnd (fun k => cfX bw (cfOf false T k cs)) (fun k => cfOf true T k cs) (fun k => cfX_ok hbw (cfOf_ok k cs hcs)) (fun k => cfOf_q k cs hcs) (fun k => lowOf k ls) N c.pb.length (fun lbl vs H => lowOf_zero ls hls lbl vs H) (fun k lbl live vs H r ha hj => lowOf_succ ls hls k lbl live vs H r ha hj)
    k (encP c.ps x) (encB c.pb y) (encB_length _ _) (by rw [encP_length]; exact Nat.le_of_ble_eq_true hlen) z ((h k x y).trans hz) _ _ fun v H hfin => ?_
  unfold FnD.fin at hfin
  split at hfin
  · cases hfin
  rename_i d hd
  split at hfin
  · cases hfin
  rename_i e he
  cases hfin
  rw [c.inv]
  exact ⟨c.vc.dec_some hd, decB_some _ he⟩
end Go.Proofs.YtcjfheidmlcbfaaGreatDoor.V
