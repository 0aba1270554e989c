/- Arguments opened: whatever can be read as data at a type (ints, bools, strings, slices, structs of these, nested) stands in memory as a datum of the printed kind; numbers fit their kind, strings and slices are no longer than maxLen. A law's row out of its function's contract. -/
import Derived.Test.YtcjfheidmlcbfaaGreatDoorSV11f
import Derived.ChangeArms
import Derived.Deep.Slices
import Derived.WideShapes
set_option linter.unusedVariables false
set_option linter.unusedSimpArgs false
namespace Go.Proofs.YtcjfheidmlcbfaaGreatDoor.V
open Go.RowKit Go.WideShapes

/-- The size of what came in. -/
def Fits : (t : Ty) → t.den → Prop
  | .int k, n => (Lit.int k n).wf = true
  | .bool, _ => True
  | .str, s => s.size ≤ maxLen
  | .sl t, l => l.length ≤ maxLen ∧ ∀ a ∈ l, Fits t a
  | .pair a b, x => Fits a x.1 ∧ Fits b x.2

def Opens (P : Program) (t : TypeId) (d : Ty) : Prop :=
  P.cellsOf t = d.width ∧ ∀ (H : Type) (enc : TypeId × Value → H) (w : World) (base : Nat) (spare : Nat → Bool) (held : Bool) (fuel : Nat) (cs : List Value) (x : DataW H × List MemPlace),
    DataW.trod enc P w base spare held fuel t cs = some x → ∃ a, Rd w (fun g _ => g < w.heap.size) d a cs ∧ Fits d a

theorem choose_list {α : Type} {Q : Nat → α → Prop} {n : Nat} (h : ∀ i, i < n → ∃ y, Q i y) : ∃ l : List α, l.length = n ∧ ∀ i y, l[i]? = some y → Q i y := by
  refine ⟨List.ofFn (fun i : Fin n => Classical.choose (h i.1 i.2)), by simp, fun i y hi => ?_⟩
  have hlt : i < n := by simpa using (List.getElem?_eq_some_iff.1 hi).1
  rw [List.getElem?_eq_getElem (by simpa using hlt)] at hi
  simp only [List.getElem_ofFn, Option.some.injEq] at hi
  rw [← hi]
  exact Classical.choose_spec (h i hlt)

section
variable {P : Program} {t e : TypeId}

theorem opens_slice {d : Ty} (ht : P.underlying t = some (.slice e)) (hc : P.cellsOf t = 1) (h : Opens P e d) : Opens P t (.sl d) := by
  refine ⟨hc, fun H enc w base spare held fuel cs x hx => ?_⟩
  rcases Deep.open_slice ht hx with ⟨rfl, _⟩ | ⟨a, len, cap, m, n, D, Pl, rfl, _, hl, hm, hmm, _, hi⟩
  · exact ⟨([] : List d.den), ⟨none, 0, rfl, Nat.le_refl _, fun h => absurd rfl h⟩, Nat.zero_le _, fun a ha => by cases ha⟩
  · have key : ∀ i, i < len → ∃ y, (∃ c : List Value, c.length = d.width ∧ Rd w (fun g _ => g < w.heap.size) d y c ∧ ∀ j u, c[j]? = some u → w.cell? (a.add (i * d.width + j)) = some u) ∧ Fits d y := by
      intro i hlt
      obtain ⟨cs', hc', ht'⟩ := hi i (by rw [hmm]; split <;> omega)
      obtain ⟨y, hy, hg⟩ := h.2 _ _ _ _ _ _ _ _ _ ht'
      rw [h.1] at hc'
      obtain ⟨_, hcl, hat⟩ := World.cells?_some hc'
      refine ⟨y, ⟨cs', hcl, hy, fun j u hu => ?_⟩, hg⟩
      have h1 := hat j (by have := (List.getElem?_eq_some_iff.1 hu).1; omega)
      rw [← Deep.add_add, h1, hu]
    obtain ⟨l, hln, hq⟩ := choose_list key
    refine ⟨l, ⟨some a, cap, by rw [hln], by omega, fun hne => ?_⟩, ⟨by omega, fun y hy => ?_⟩⟩
    · have h0 : 0 < l.length := List.length_pos_iff.2 hne
      obtain ⟨c, hcl, hr, hat⟩ := (hq 0 _ (List.getElem?_eq_getElem h0)).1
      have hw := d.width_pos
      have h1 := hat 0 _ (List.getElem?_eq_getElem (by omega : 0 < c.length))
      obtain ⟨g, off, spot⟩ := a
      have hs : spot = none := by
        rw [Nat.zero_mul, Nat.zero_add] at h1
        simp only [Addr.add, if_true] at h1
        unfold World.cell? at h1
        simp only at h1
        split at h1
        · cases spot with
          | none => rfl
          | some s => simp at h1
        · cases h1
      subst hs
      refine ⟨g, off, rfl, fun i y hy => ?_⟩
      obtain ⟨c', hcl', hr', hat'⟩ := (hq i y hy).1
      refine ⟨c', fun j u hj => ?_, hr'⟩
      have h2 := hat' j u hj
      rw [addr_add, ← Nat.add_assoc] at h2
      exact ⟨cell_lt h2, h2⟩
    · obtain ⟨i, hi'⟩ := List.getElem?_of_mem hy
      exact (hq i y hi').2

def OpensF (P : Program) (fs : List Field) (off : Nat) (d : Ty) : Prop :=
  ∀ (H : Type) (enc : TypeId × Value → H) (w : World) (base : Nat) (spare : Nat → Bool) (held : Bool) (n : Nat) (cs : List Value),
    cs.length = off + d.width → (∀ f ∈ fs, ∃ x, DataW.trod enc P w base spare held n f.type ((cs.drop f.offset).take (P.cellsOf f.type)) = some x) → ∃ a, Rd w (fun g _ => g < w.heap.size) d a (cs.drop off) ∧ Fits d a
end

def openF (ob : TypeId → Ty → Bool) : List Field → Nat → Ty → Bool
  | [], _, _ => false
  | [f], off, d => Nat.beq f.offset off && ob f.type d
  | f :: fs, off, d => match d with
    | .pair a b => Nat.beq f.offset off && (ob f.type a && openF ob fs (off + a.width) b)
    | _ => false

def openB (P : Program) : Nat → TypeId → Ty → Bool
  | 0, _, _ => false
  | n + 1, t, d => Nat.beq (P.cellsOf t) d.width && match P.underlying t with
    | some (.int k) => (match d with | .int k' => decide (k = k') | _ => false)
    | some .bool => (match d with | .bool => true | _ => false)
    | some .string => (match d with | .str => true | _ => false)
    | some (.slice e) => (match d with | .sl d => openB P n e d | _ => false)
    | some (.struct fs) => openF (openB P n) fs.toList 0 d
    | _ => false

theorem openF_r {P : Program} {ob : TypeId → Ty → Bool} (hob : ∀ t d, ob t d = true → Opens P t d) : ∀ (fs : List Field) (off : Nat) (d : Ty), openF ob fs off d = true → OpensF P fs off d
  | [], off, d, h => by cases h
  | [f], off, d, h => by
    simp only [openF, Bool.and_eq_true] at h
    have ho := Nat.eq_of_beq_eq_true h.1
    have hf' := hob _ _ h.2
    intro H enc w base spare held n cs hl hf
    obtain ⟨x, hx⟩ := hf f (by simp)
    rw [ho, hf'.1, List.take_of_length_le (by simp; omega)] at hx
    exact hf'.2 _ _ _ _ _ _ _ _ _ hx
  | f :: g :: fs, off, d, h => by
    cases d <;> simp only [openF] at h <;> try (cases h; done)
    rename_i a b
    simp only [Bool.and_eq_true] at h
    obtain ⟨h1, h2, h3⟩ := h
    have ho := Nat.eq_of_beq_eq_true h1
    have hf' := hob _ _ h2
    have hr := openF_r hob (g :: fs) _ _ h3
    intro H enc w base spare held n cs hl hf
    have hl' : cs.length = off + (a.width + b.width) := hl
    obtain ⟨x, hx⟩ := hf f (by simp)
    obtain ⟨u, hu, hg⟩ := hf'.2 _ _ _ _ _ _ _ _ _ hx
    obtain ⟨v, hv, hg2⟩ := hr H enc w base spare held n cs (by omega) (fun q hq => hf q (List.mem_cons_of_mem _ hq))
    rw [ho, hf'.1] at hu
    exact ⟨(u, v), ⟨hu, by rw [List.drop_drop]; exact hv⟩, hg, hg2⟩

theorem openB_r {P : Program} : ∀ (n : Nat) (t : TypeId) (d : Ty), openB P n t d = true → Opens P t d
  | 0, _, _, h => by cases h
  | n + 1, t, d, h => by
    simp only [openB, Bool.and_eq_true] at h
    obtain ⟨h0, h⟩ := h
    have hc := Nat.eq_of_beq_eq_true h0
    split at h
    · rename_i k ht
      cases d <;> simp only at h <;> try (cases h; done)
      obtain rfl := of_decide_eq_true h
      exact ⟨hc, fun _ _ _ _ _ _ _ _ _ h => by
        obtain ⟨n, rfl, _, hw⟩ := DataW.trod_int ht h
        exact ⟨n, rfl, hw⟩⟩
    · rename_i ht
      cases d <;> simp only at h <;> try (cases h; done)
      exact ⟨hc, fun _ _ _ _ _ _ _ _ _ h => by
        obtain ⟨n, rfl, _⟩ := DataW.trod_bool ht h
        exact ⟨n, rfl, trivial⟩⟩
    · rename_i ht
      cases d <;> simp only at h <;> try (cases h; done)
      exact ⟨hc, fun _ _ _ _ _ _ _ _ _ h => by
        obtain ⟨n, rfl, _, hs⟩ := DataW.trod_string ht h
        exact ⟨n, rfl, hs⟩⟩
    · rename_i e ht
      cases d <;> simp only at h <;> try (cases h; done)
      exact opens_slice ht hc (openB_r n _ _ h)
    · rename_i fs ht
      have hF := openF_r (openB_r n) _ _ _ h
      refine ⟨hc, fun H enc w base spare held fuel cs x hx => ?_⟩
      obtain ⟨xs, n', _, _, hlen, hxl, hfl⟩ := DataW.trod_struct ht hx
      obtain ⟨a, ha, hga⟩ := hF H enc w base spare held n' cs (by omega) (fun q hq => by
        obtain ⟨i, hi⟩ := List.getElem?_of_mem hq
        have h1 := hfl i q (by simpa using hi)
        have hlt : i < xs.length := by rw [hxl]; simpa using (List.getElem?_eq_some_iff.1 hi).1
        exact ⟨_, h1.trans (List.getElem?_eq_getElem hlt)⟩)
      exact ⟨a, ha, hga⟩
    · cases h

/-- What a row begins with. -/
def rowCx (w : World) : Cx := ⟨w.heap.size, fun _ _ => False, w, fun g _ => g < w.heap.size, [], fun _ => undef, fun _ _ _ => False, fun _ => none, fun _ => none⟩
theorem rowCx_r (w : World) (hg : ∀ q, q ∈ Glob.tab → GlobAt w q) : HeapR (rowCx w) :=
  ⟨Nat.le_refl _, fun _ _ h => h, fun b x hx => by simp [rowCx] at hx, fun b g p _ hf => hf.elim, fun b b' g p _ _ hf _ => hf.elim, fun b v hv => (by cases hv), fun q h => ⟨hg q h, fun p h' => h'.elim (fun h' => absurd (hg q h).lt (Nat.not_lt.2 h')) (fun h' => h'.elim)⟩⟩
theorem noGlob (h : Glob.tab = []) {w : World} : ∀ q, q ∈ Glob.tab → GlobAt w q := by
  rw [h]
  exact fun q hq => absurd hq (List.not_mem_nil)
theorem row_below {sh : Bool} {w : World} {C1 : Cx} (h : Con sh (rowCx w) C1) : Below w.heap.size w C1.w := h.chg.below (fun g p ho => ho.elim (fun h => h) fun h => h.elim) (Nat.le_refl _)

theorem opened {P : Program} {t : TypeId} {d : Ty} (n : Nat) (hb : openB P n t d = true) {H : Type} {enc : TypeId × Value → H} {w : World} {base : Nat} {spare : Nat → Bool} {held : Bool} {v : Value} {x : DataW H} {ps : List MemPlace} (ht : DataW.Trod enc P w base spare held t v x ps) :
    ∃ a, Rd w (rowCx w).S d a v.cells.toList ∧ Fits d a := by
  obtain ⟨fuel, hf⟩ := ht
  exact (openB_r n t d hb).2 _ _ _ _ _ _ _ _ _ hf

theorem arg_in {w : World} {d : Ty} {a : d.den} {vs : List Value} (h : Rd w (rowCx w).S d a vs) : LR (rowCx w) (enc false d a) vs :=
  enc_r d a vs (Rd.mono (fun g p hb => ⟨hb, fun e => by cases e⟩) (fun _ _ _ _ h => h) _ _ _ h)

theorem arg_struct {P : Program} {w : World} {base : Nat} {r : Reach} {t : TypeId} {fs : Array Field} {v : Value} (hu : P.underlying t = some (.struct fs)) (ho : Value.okWide P w r base t v) {d : Ty} {a : d.den} (h : Rd w (rowCx w).S d a v.cells.toList) :
    AVR (rowCx w) (.agg (enc false d a)) v := by
  obtain ⟨cs, rfl, _⟩ := okWide_struct hu ho
  exact ⟨cs, rfl, arg_in h⟩

theorem al_nil {C : Cx} : AL C [] [] := trivial
theorem al_cons {C : Cx} {a : AV} {l : List AV} {v : Value} {vs : List Value} (h : AVR C a v) (h' : AL C l vs) : AL C (a :: l) (v :: vs) := ⟨h, h'⟩

/-- One cell. -/
theorem arg_one {w : World} {d : Ty} {a : d.den} {v : Value} {c : Cell} (hc : enc false d a = [c]) (hv : v.cells = #[v]) (h : Rd w (rowCx w).S d a v.cells.toList) : AVR (rowCx w) (.c c) v := by
  have := arg_in h
  rw [hc, hv] at this
  exact this.1
end Go.Proofs.YtcjfheidmlcbfaaGreatDoor.V
