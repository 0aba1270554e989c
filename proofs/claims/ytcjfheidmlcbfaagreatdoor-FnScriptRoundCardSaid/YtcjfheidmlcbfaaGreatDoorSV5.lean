/- Operations that make or write memory are sound. -/
import Derived.Test.YtcjfheidmlcbfaaGreatDoorSV4b
import Derived.Laws.CopyRow
set_option linter.unusedVariables false
set_option linter.unusedSimpArgs false
set_option linter.unusedSectionVars false
namespace Go.Proofs.YtcjfheidmlcbfaaGreatDoor.V
open Go.RowKit

/-- The cells of a row's room. -/
def roomF (g off n : Nat) : Foot := fun g' p => g' = g ∧ off ≤ p ∧ p < off + n

theorem laid_get (cur us : List Value) (p m : Nat) (h : p + us.length ≤ cur.length) : (cur.take p ++ us ++ cur.drop (p + us.length))[m]? = if p ≤ m ∧ m < p + us.length then us[m - p]? else cur[m]? := by
  rw [List.append_assoc, List.getElem?_append, List.getElem?_append, List.length_take, List.getElem?_take, List.getElem?_drop]
  rw [Nat.min_eq_left (by omega)]
  by_cases h1 : m < p
  · rw [if_pos h1, if_pos h1, if_neg (by omega)]
  · rw [if_neg h1]
    by_cases h2 : m - p < us.length
    · rw [if_pos h2, if_pos (by omega)]
    · rw [if_neg h2, if_neg (by omega)]
      congr 1
      omega

/-- The world behind a store of us at place P of block g. -/
def laid (cs : Array Value) (P : Nat) (us : List Value) : Array Value := (cs.toList.take P ++ us ++ cs.toList.drop (P + us.length)).toArray

section
variable {w : World} {g P : Nat} {cs : Array Value} {ty : TypeId} {us : List Value} (hg : w.heap[g]? = some (Obj.cells cs ty (0, 0))) (hle : P + us.length ≤ cs.size)
include hg hle
theorem laid_size : (laid cs P us).size = cs.size := by
  simp only [laid, List.size_toArray, List.length_append, List.length_take, List.length_drop, Array.length_toList]
  omega
theorem laid_heap : (w.setRow g (laid cs P us)).heap[g]? = some (Obj.cells (laid cs P us) ty (0, 0)) := setRow_heap _ _ _ _ _ _ hg
theorem laid_in {p : Nat} (h1 : P ≤ p) (h2 : p < P + us.length) : (w.setRow g (laid cs P us)).cell? (at_ g p) = us[p - P]? := by
  rw [cell_at (laid_heap hg hle)]
  unfold laid
  rw [List.toList_toArray, laid_get _ _ _ _ (by simpa using hle), if_pos ⟨h1, h2⟩]
theorem laid_out {g' p : Nat} (h : ¬ (g' = g ∧ P ≤ p ∧ p < P + us.length)) : (w.setRow g (laid cs P us)).cell? (at_ g' p) = w.cell? (at_ g' p) := by
  by_cases e : g' = g
  · subst e
    rw [cell_at (laid_heap hg hle), cell_at hg]
    unfold laid
    rw [List.toList_toArray, laid_get _ _ _ _ (by simpa using hle), if_neg fun e => h ⟨rfl, e⟩]
  · unfold World.cell?
    simp only
    rw [setRow_other _ _ _ _ e]
theorem laid_chg : Chg w (w.setRow g (laid cs P us)) (roomF g P us.length) :=
  .setRow hg (laid_size hg hle) fun p hp => by
    have h1 := laid_out hg hle (g' := g) (p := p) hp
    rw [cell_at (laid_heap hg hle), cell_at hg] at h1
    simpa using h1
end

section
variable {P : Program} {R : Type} {C : Cx} {r : R}

/-- What an operation comes to: whatever is shown of the state behind it. -/
def GoodO (P : Program) (C : Cx) (r : R) (k : AV → List Blk → Option R) (a : Act) (o : Oper) : Prop :=
  ∀ (next : Act → World → Prop) (Q : Exit → Act → World → Prop), (∀ v av C', k av C'.H = some r → C.le C' → HeapR C' → Frm C C' → AVR C' av v → next (a.put o.dst v) C'.w) → o.wp P a C.w next Q

theorem GoodO.val {k : AV → List Blk → Option R} {a : Act} {o : Oper} {C' : Cx} {v : Value} {av : AV} (hk : k av C'.H = some r) (h1 : C.le C') (h2 : HeapR C') (h3 : Frm C C') (h4 : AVR C' av v)
    (hr : (execOp a.eval o).run P C.w = .ok (.value v) C'.w) : GoodO P C r k a o := by
  intro next Q h
  unfold Oper.wp
  rw [hr]
  exact h v av C' hk h1 h2 h3 h4
/-- As GoodO, the memory that was there untouched. -/
def GoodB (P : Program) (C : Cx) (r : R) (k : AV → List Blk → Option R) (a : Act) (o : Oper) : Prop :=
  ∀ (next : Act → World → Prop) (Q : Exit → Act → World → Prop), (∀ v av C', k av C'.H = some r → C.le C' → HeapR C' → Frm C C' → Below C.w.heap.size C.w C'.w → AVR C' av v → next (a.put o.dst v) C'.w) → o.wp P a C.w next Q
theorem GoodB.o {k : AV → List Blk → Option R} {a : Act} {o : Oper} (h : GoodB P C r k a o) : GoodO P C r k a o := fun next Q hn => h next Q fun v av C' a1 a2 a3 a4 _ a6 => hn v av C' a1 a2 a3 a4 a6
theorem GoodB.val {k : AV → List Blk → Option R} {a : Act} {o : Oper} {C' : Cx} {v : Value} {av : AV} (hk : k av C'.H = some r) (h1 : C.le C') (h2 : HeapR C') (h3 : Frm C C') (hb : Below C.w.heap.size C.w C'.w) (h4 : AVR C' av v)
    (hr : (execOp a.eval o).run P C.w = .ok (.value v) C'.w) : GoodB P C r k a o := by
  intro next Q hn
  unfold Oper.wp
  rw [hr]
  exact hn v av C' hk h1 h2 h3 hb h4
theorem GoodO.skip {k : AV → List Blk → Option R} {a : Act} {o : Oper} {C' : Cx} (hk : k (.c .un) C'.H = some r) (h1 : C.le C') (h2 : HeapR C') (h3 : Frm C C')
    (hr : (execOp a.eval o).run P C.w = .ok .skip C'.w) : GoodO P C r k a o := by
  intro next Q h
  unfold Oper.wp
  rw [hr]
  exact h undef _ C' hk h1 h2 h3 rfl
theorem GoodO.pure_ {k : AV → List Blk → Option R} {a : Act} {o : Oper} (hH : HeapR C) (h : GoodN P C r (fun v => k v C.H) (execOp a.eval o)) : GoodO P C r k a o := by
  obtain ⟨v, av, h1, h2, h3⟩ := h
  exact .val (C' := C) h1 (.refl C) hH (.refl C) h2 (h3 C.w fun _ _ => rfl)

/-- What a store of cells does. -/
theorem run_store_at {t : Nat} {i : TypeInfo} (hi : P.info? t = some i) {a : Act} {dst : Option Tmp} {type : TypeId} {pos : String} {after : Array Edge} {guard : Option (Nat × Bool)} {p x : Operand} {w : World} {g o : Nat} {ty : TypeId} {cs : Array Value} (hg : w.heap[g]? = some (Obj.cells cs ty (0, 0))) (hp : a.eval p = .pointer (some (at_ g o)))
    (hsz : (a.eval x).cells.size = i.size) (hone : ∀ v ∈ (a.eval x).cells.toList, v.oneCell' = true) (hle : o + (a.eval x).cells.toList.length ≤ cs.size) :
    (execOp a.eval ⟨dst, .store t p x, type, pos, after, guard⟩).run P w = .ok .skip (w.setRow g (laid cs o (a.eval x).cells.toList)) := by
  have hst := run_storeCells_at P g o ty (a.eval x).cells.toList 0 cs w hg (by simpa using hle) hone
  simp only [Nat.add_zero] at hst
  have hne : ¬ (a.eval x).cells.size ≠ i.size := by simpa using hsz
  simp [execOp, hp, Instr.storeAt, Instr.sureAddr, storeVar, sizeOf, typeInfo, hi, hsz, hst, laid]

theorem known_get : ∀ {l : List Cell} {i : Nat} {c : Cell}, known l = true → l[i]? = some c → knownC c = true
  | [], i, c, _, h => by simp at h
  | d :: l, 0, c, hk, h => by simp at h; subst h; exact (known_cons hk).1
  | d :: l, i + 1, c, hk, h => known_get (known_cons hk).2 (by simpa using h)

theorem splice_get {l : List Cell} {o : Nat} {cs : List Cell} (h : o + cs.length ≤ l.length) (j : Nat) : (splice l o cs)[j]? = if o ≤ j ∧ j < o + cs.length then cs[j - o]? else l[j]? := by
  unfold splice
  rw [List.append_assoc, List.getElem?_append, List.getElem?_append, List.length_take, List.getElem?_take, List.getElem?_drop]
  rw [Nat.min_eq_left (by omega)]
  by_cases h1 : j < o
  · rw [if_pos h1, if_pos h1, if_neg (by omega)]
  · rw [if_neg h1]
    by_cases h2 : j - o < cs.length
    · rw [if_pos h2, if_pos (by omega)]
    · rw [if_neg h2, if_neg (by omega)]
      congr 1
      omega
theorem splice_length {l : List Cell} {o : Nat} {cs : List Cell} (h : o + cs.length ≤ l.length) : (splice l o cs).length = l.length := by
  simp only [splice, List.length_append, List.length_take, List.length_drop]; omega

/-- A store into a variable. -/
theorem HeapR.storeCells (hH : HeapR C) {b o : Nat} {ty : Nat} {l cs : List Cell} {us : List Value} (hb : C.H[b]? = some (.cells ty l)) (hle : o + cs.length ≤ l.length) (hkn : known ((l.drop o).take cs.length) = true) (hcs : LR C cs us) {g off : Nat} {cur : Array Value} {ty' : TypeId} (hρ : C.ρ b = .pointer (some (at_ g off))) (hg : C.w.heap[g]? = some (Obj.cells cur ty' (0, 0))) (hcur : off + l.length ≤ cur.size)
    (hl : ∀ j c, l[j]? = some c → c = .undef ∨ (C.fp b g (off + j) ∧ ∃ u, C.w.cell? (at_ g (off + j)) = some u ∧ CellR C c u)) (hsh : C.sh b = none) {C' : Cx}
    (hC' : C' = { C with w := C.w.setRow g (laid cur (off + o) us), H := C.H.set b (.cells ty (splice l o cs)) }) : C.le C' ∧ HeapR C' ∧ Frm C C' := by
  have hlive : live C b := live_of hb (by simp)
  have hlt := live_lt hlive
  have hul := hcs.length
  have hroom : (off + o) + us.length ≤ cur.size := by omega
  have hfp : ∀ g' p, roomF g (off + o) us.length g' p → C.fp b g' p := by
    rintro g' p ⟨rfl, h1, h2⟩
    have hj : p - off < l.length := by omega
    rcases hl (p - off) _ (List.getElem?_eq_getElem hj) with h3 | ⟨h3, _⟩
    · have hk : ((l.drop o).take cs.length)[p - off - o]? = some l[p - off] := by
        rw [List.getElem?_take_of_lt (by omega), List.getElem?_drop, show o + (p - off - o) = p - off by omega, List.getElem?_eq_getElem hj]
      have := known_get hkn hk
      rw [h3] at this
      cases this
    · rwa [show off + (p - off) = p by omega] at h3
  have hvb : C.vn b = none := by
    cases hv : C.vn b with
    | none => rfl
    | some v => obtain ⟨t, l', h, e⟩ := hH.vl b v hv; rw [hb] at e; cases e
  have hx' : ∀ i x, C'.H[i]? = some x → i = b ∧ x = .cells ty (splice l o cs) ∨ i ≠ b ∧ C.H[i]? = some x := by
    subst hC'
    intro i x hx
    by_cases e : b = i
    · subst e
      simp only [List.getElem?_set_self hlt, Option.some.injEq] at hx
      exact .inl ⟨rfl, hx.symm⟩
    · simp only [List.getElem?_set_ne e] at hx
      exact .inr ⟨fun e' => e e'.symm, hx⟩
  refine hH.step (F := roomF g (off + o) us.length) b (fun _ => False) (by subst hC'; rfl) (by subst hC'; rfl) (by subst hC'; exact laid_chg hg hroom) (fun g' p hf => ⟨b, .inr rfl, hlive, hfp g' p hf⟩) (by subst hC'; exact fun _ _ h => h) (by subst hC'; exact fun g p h => .inl h) (by subst hC'; exact fun g' p h => by simpa using hH.st g' p h) (by subst hC'; simp) (by subst hC'; intro i hi; exact ⟨rfl, rfl⟩) (by
    intro i hi hn
    have : C'.vn i = C.vn i := by subst hC'; rfl
    rw [this]
    refine hH.vnone fun ⟨x, hx, hd⟩ => hn ⟨x, ?_, hd⟩
    subst hC'
    simp only [List.getElem?_set_ne (fun e' : b = i => hi e'.symm)]
    exact hx) (fun _ => .inl (by subst hC'; exact hvb)) (fun v hv => by
      have : C'.vn b = C.vn b := by subst hC'; rfl
      rw [this, hvb] at hv; cases hv) (by
    intro i x hx hd
    rcases hx' i x hx with ⟨h, _⟩ | ⟨h1, h2⟩
    · exact .inl h
    · exact .inr ⟨h2, fun h => h, h1, by subst hC'; rfl, by subst hC'; exact fun _ _ => Iff.rfl⟩) (by
    subst hC'
    intro g' p _ hf
    obtain ⟨h1, h2, h3⟩ := hH.own b g' p hlive hf
    exact ⟨h1, by simpa using h3, .inl ⟨b, .inr rfl, hlive, hf⟩⟩) (fun hle' x hx _ => ?_)
  rcases hx' b x hx with ⟨_, rfl⟩ | ⟨h1, _⟩
  case inr => exact absurd rfl h1
  refine ⟨by subst hC'; exact hsh, g, off, laid cur (off + o) us, ty', by subst hC'; exact hρ, by subst hC'; exact laid_heap hg hroom, by rw [splice_length hle, laid_size hg hroom]; exact hcur, fun j c hc => ?_⟩
  rw [splice_get hle] at hc
  have hw : C'.w = C.w.setRow g (laid cur (off + o) us) := by subst hC'; rfl
  have hfpe : C'.fp b = C.fp b := by subst hC'; rfl
  split at hc
  · rename_i hj
    right
    refine ⟨by rw [hfpe]; exact hfp g _ ⟨rfl, by omega, by omega⟩, ?_⟩
    obtain ⟨u, h1, h2⟩ := (hcs.mono hle').get hc
    refine ⟨u, ?_, h2⟩
    rw [hw, laid_in hg hroom (by omega) (by omega), ← h1]
    congr 1
    omega
  · rename_i hj
    rcases hl j c hc with h | ⟨h1, u, h2, h3⟩
    · exact .inl h
    · refine .inr ⟨by rw [hfpe]; exact h1, u, ?_, h3.mono hle'⟩
      rw [hw, laid_out hg hroom fun e => hj (by omega)]
      exact h2

/-- Element i of a row, some of its cells laid anew. -/
theorem elem_laid {w : World} {g off cap n wd i o : Nat} {cur : Array Value} {ty : TypeId} {us ws : List Value} (hg : w.heap[g]? = some (Obj.cells cur ty (0, 0))) (hcur : off + cap * wd ≤ cur.size) (hi : i < n) (hn : n ≤ cap) (ho : o + us.length ≤ wd) (hws : ws.length = wd) (hat : AtW w g (off + i * wd) ws) :
    AtW (w.setRow g (laid cur (off + i * wd + o) us)) g (off + i * wd) (ws.take o ++ us ++ ws.drop (o + us.length)) := by
  have hin : (i + 1) * wd ≤ cap * wd := Nat.mul_le_mul_right _ (by omega)
  rw [Nat.add_mul, Nat.one_mul] at hin
  intro j u hj
  rw [laid_get _ _ _ _ (by omega)] at hj
  split at hj
  · rename_i h
    rw [laid_in hg (by omega) (by omega) (by omega), ← hj]
    congr 1
    omega
  · rename_i h
    rw [laid_out hg (by omega) fun e => h (by omega)]
    exact hat j u hj
theorem elem_other {w : World} {g off cap n wd i j o : Nat} {cur : Array Value} {ty : TypeId} {us ws : List Value} (hg : w.heap[g]? = some (Obj.cells cur ty (0, 0))) (hcur : off + cap * wd ≤ cur.size) (hi : i < n) (hj : j < n) (hn : n ≤ cap) (hne : i ≠ j) (ho : o + us.length ≤ wd) (hws : ws.length = wd) (hat : AtW w g (off + j * wd) ws) :
    AtW (w.setRow g (laid cur (off + i * wd + o) us)) g (off + j * wd) ws := by
  have hin : (i + 1) * wd ≤ cap * wd := Nat.mul_le_mul_right _ (by omega)
  rw [Nat.add_mul, Nat.one_mul] at hin
  have h3 : i * wd + wd ≤ j * wd ∨ j * wd + wd ≤ i * wd := by
    rcases Nat.lt_or_gt_of_ne hne with h | h
    · left; have : (i + 1) * wd ≤ j * wd := Nat.mul_le_mul_right _ h; rwa [Nat.add_mul, Nat.one_mul] at this
    · right; have : (j + 1) * wd ≤ i * wd := Nat.mul_le_mul_right _ h; rwa [Nat.add_mul, Nat.one_mul] at this
  intro q u hq
  have hql := (List.getElem?_eq_some_iff.1 hq).1
  rw [laid_out hg (by omega) fun e => by omega]
  exact hat q u hq

theorem scalL_dec : ∀ (t : Ty) (cs : List Cell) (x : t.den), dec t cs = some x → ∀ (j : Nat) (c : Cell), cs[j]? = some c → scalC c = true → slAt t j = false := by
  intro t
  induction t with
  | int k => intro cs x _ j c _ _; rfl
  | bool => intro cs x _ j c _ _; rfl
  | str => intro cs x _ j c _ _; rfl
  | sl t ih =>
    intro cs x h j c hj hs
    simp only [dec] at h
    simp only [slAt]
    split at h
    · cases j with
      | zero => simp at hj; subst hj; cases hs
      | succ j => rfl
    · cases j with
      | zero => simp at hj; subst hj; cases hs
      | succ j => rfl
    · cases h
  | pair a b iha ihb =>
    intro cs x h j c hj hs
    simp only [dec] at h
    split at h
    · cases h
    rename_i xa ha
    split at h
    · cases h
    rename_i xb hb
    simp only [slAt]
    cases e : Nat.blt j a.width
    · have hge : a.width ≤ j := by
        rcases Nat.lt_or_ge j a.width with q | q
        · rw [show Nat.blt j a.width = true from Nat.ble_eq_true_of_le q] at e; cases e
        · exact q
      exact ihb _ _ hb (j - a.width) c (by rw [List.getElem?_drop, show a.width + (j - a.width) = j by omega]; exact hj) hs
    · have hlt := Nat.le_of_ble_eq_true e
      exact iha _ _ ha j c (by rw [List.getElem?_take_of_lt hlt]; exact hj) hs

theorem scalL_get : ∀ {l : List Cell} {i : Nat} {c : Cell}, scalL l = true → l[i]? = some c → scalC c = true
  | [], i, c, _, h => by simp at h
  | d :: l, 0, c, hk, h => by simp at h; subst h; exact (andB hk).1
  | d :: l, i + 1, c, hk, h => scalL_get (andB hk).2 (by simpa using h)
theorem frz_scal : ∀ (H : List Blk) (l : List Cell), scalL l = true → frz H l = (l, H)
  | H, [], _ => rfl
  | H, c :: l, h => by
    obtain ⟨h1, h2⟩ := andB h
    cases c <;> first | (cases h1; done) | simp only [frz, frz_scal H l h2]

theorem scalL_known : ∀ {l : List Cell}, scalL l = true → known l = true
  | [], _ => rfl
  | c :: l, h => by
    obtain ⟨h1, h2⟩ := andB h
    cases c <;> first | (cases h1; done) | (simp only [known]; exact scalL_known h2)
theorem scalL_mov (H : List Blk) (x : Nat) : ∀ {l : List Cell}, scalL l = true → movL H x l = true
  | [], _ => rfl
  | c :: l, h => by
    obtain ⟨h1, h2⟩ := andB h
    cases c <;> first | (cases h1; done) | (simp only [movL, movC, scalC, cond_true]; exact scalL_mov H x h2)

/-- A store into an element of a row, what the row leads to being its own and staying so. -/
theorem HeapR.storeU (hH : HeapR C) {b i o : Nat} {y : Ty} {l : List y.den} {ver : Nat} {cs : List Cell} {us : List Value} (hb : C.H[b]? = some (.arr y l .un ver none)) (hi : i < l.length) (hle : o + us.length ≤ y.width) (hcs : LR C cs us) (hm : movL C.H b cs = true) {xn : y.den} (hdec : dec y (splice (enc true y (l.getD i y.zero)) o (frz C.H cs).1) = some xn)
    {g off cap : Nat} (hroom : Room C.w (C.fp b) y.width (C.ρ b) l.length g off cap) {cur : Array Value} {ty : TypeId} (hg : C.w.heap[g]? = some (Obj.cells cur ty (0, 0))) (hcur : off + cap * y.width ≤ cur.size) :
    ∃ C', C'.H = (frz C.H cs).2.set b (.arr y (l.set i xn) .un (cond (scalL cs) ver (ver + 1)) none) ∧ C'.w = C.w.setRow g (laid cur (off + i * y.width + o) us) ∧ C.le C' ∧ HeapR C' ∧ Frm C C' := by
  obtain ⟨C1, F, k1, k2, k3, k4, k5, k6, k7, k8, k9, k10, k11, k12, k13, k14, k15, k16⟩ := mov_r b hH hcs hm
  have hlive := live_arr hb
  have hlt := live_lt hlive
  obtain ⟨_, hsh, hvn, hrow⟩ := hH.blk b _ hb
  have hvb := hvn rfl
  have hin : (i + 1) * y.width ≤ cap * y.width := Nat.mul_le_mul_right _ (by have := hroom.len; omega)
  rw [Nat.add_mul, Nat.one_mul] at hin
  have hfit : off + i * y.width + o + us.length ≤ cur.size := by omega
  have hget : l[i]? = some (l.getD i y.zero) := by rw [List.getD_eq_getElem?_getD, List.getElem?_eq_getElem hi]; rfl
  obtain ⟨G, hn, hgx⟩ : ∃ G, Nest (C.fp b) g off (cap * y.width) G ∧ ∀ i x, l[i]? = some x → ∃ us, AtW C.w g (off + i * y.width) us ∧ RdU C.w y x us (G i) := by
    rcases hrow with ⟨e, _⟩ | ⟨g', off', cap', hr, hels⟩
    · subst e; simp at hi
    · have hval := hr.val
      rw [hroom.val] at hval
      obtain ⟨⟨rfl, rfl⟩, rfl⟩ : (g = g' ∧ off = off') ∧ cap = cap' := by simpa using hval
      exact hels
  obtain ⟨ws, hat, hrd⟩ := hgx i _ hget
  have hws := hrd.length
  -- what is new
  have hFout : ∀ g' p, F g' p → ¬ C.fp b g' p := by
    intro g' p hf hfp
    obtain ⟨b', q1, _, q2, q3⟩ := k10 g' p hf
    exact q2 (hH.inj b' b g' p q1 hlive q3 hfp)
  have hnewx : RdU C.w y xn (ws.take o ++ us ++ ws.drop (o + us.length)) (fun g' p => G i g' p ∨ F g' p) := by
    refine decU y _ xn _ _ ?_ hdec
    have h1 := encU _ _ _ _ hrd
    obtain ⟨F1, F2, a1, a2, a3, a4, a5⟩ := h1.split o
    obtain ⟨F3, F4, b1, b2, b3, b4, b5⟩ := h1.split (o + (frz C.H cs).1.length)
    have hkl := k7.length
    unfold splice
    rw [← hkl]
    rw [← hkl] at b5
    -- the parts ahead and behind are apart: taken out of one split of the rest
    obtain ⟨F5, F6, c1, c2, c3, c4, c5⟩ := a5.split us.length
    rw [List.drop_drop] at c5
    rw [List.drop_drop] at c5
    refine LU.append (Fa := fun g' p => F1 g' p ∨ F g' p) (Fb := F6) (LU.append a4 k7 (fun g' p h => .inl h) (fun g' p h => .inr h) fun g' p q q' => ?_) ?_ (fun g' p h => h.elim (fun h => .inl (a1 g' p h)) .inr) (fun g' p h => .inl (a2 g' p (c2 g' p h))) fun g' p q q' => q.elim (fun q => a3 g' p q (c2 g' p q')) fun q => ?_
    · exact hFout g' p q' (hn.sub i g' p (a1 g' p q))
    · exact c5
    · exact hFout g' p q (hn.sub i g' p (a2 g' p (c2 g' p q')))
  have hkept : ∀ j, Kept C.w (C.w.setRow g (laid cur (off + i * y.width + o) us)) (G j) := fun j => (laid_chg hg hfit).kept fun g' p hG e => by
    obtain ⟨rfl, e1, e2⟩ := e
    exact hn.out j p hG (by omega) (by omega)
  have hkF : Kept C.w (C.w.setRow g (laid cur (off + i * y.width + o) us)) F := (laid_chg hg hfit).kept fun g' p hF e => by
    obtain ⟨rfl, e1, e2⟩ := e
    exact hFout g' p hF (hroom.foot p (by omega) (by omega))
  let C' : Cx := { C with w := C.w.setRow g (laid cur (off + i * y.width + o) us), H := (frz C.H cs).2.set b (.arr y (l.set i xn) .un (cond (scalL cs) ver (ver + 1)) none), fp := fun j => if j = b then (fun g' p => C.fp b g' p ∨ F g' p) else C.fp j, vn := fun j => if j = b then some (cond (scalL cs) ver (ver + 1)) else C1.vn j }
  have hH1 : ∀ j : Nat, C1.H[j]? = (frz C.H cs).2[j]? := fun j => by rw [k1]
  have hblt : b < (frz C.H cs).2.length := by
    have := live_lt (C := C1) (b := b) (by rw [show live C1 b = ∃ x, C1.H[b]? = some x ∧ x ≠ .dead from rfl, k12]; exact hlive)
    rwa [k1] at this
  have hx' : ∀ j x, C'.H[j]? = some x → j = b ∧ x = .arr y (l.set i xn) .un (cond (scalL cs) ver (ver + 1)) none ∨ j ≠ b ∧ C1.H[j]? = some x := by
    intro j x hx
    by_cases e : b = j
    · subst e
      simp only [C', List.getElem?_set_self hblt, Option.some.injEq] at hx
      exact .inl ⟨rfl, hx.symm⟩
    · simp only [C', List.getElem?_set_ne e] at hx
      exact .inr ⟨fun e' => e e'.symm, by rw [hH1]; exact hx⟩
  have hnl : ∀ j, ¬ live C' j → j ≠ b → ¬ live C1 j := by
    rintro j hn' hj ⟨x, q1, q2⟩
    refine hn' ⟨x, ?_, q2⟩
    simp only [C', List.getElem?_set_ne (fun e : b = j => hj e.symm)]
    rw [← hH1]; exact q1
  refine ⟨C', rfl, rfl, hH.step (F := roomF g (off + i * y.width + o) us.length) b (fun j => ¬ live C1 j) rfl rfl (laid_chg hg hfit) (fun g' p hf => ⟨b, .inr rfl, hlive, ?_⟩) (fun _ _ h => h) (fun g' p h => .inl h) (fun g' p h => by simpa [C'] using hH.st g' p h) (by
    have : C1.H.length ≥ C.H.length := k2.len
    simp only [C', List.length_set]
    rw [← k1]; exact this) (fun j hj => ⟨rfl, rfl⟩) (fun j hj hn' => ?_) (fun _ => .inr ⟨ver, cond (scalL cs) ver (ver + 1), hvb, by simp [C'], by cases scalL cs <;> simp, fun e t g' off' n' cap' i' o' u q1 q2 q3 q4 q5 => ?_⟩) (fun v hv => ?_) (fun j x hx hd => ?_) (fun g' p _ hf => ?_) (fun hle' x hx hd => ?_)⟩
  · obtain ⟨rfl, e1, e2⟩ := hf
    exact hroom.foot p (by omega) (by omega)
  · have hd := hnl j hn' hj
    simp only [C', hj, if_false]
    exact k3.vnone hd
  · -- scalars laid: the slices stand where they stood
    have hsc : scalL cs = true := by
      cases h : scalL cs
      · rw [h] at e; simp only [cond_false] at e; omega
      · rfl
    rw [hsh] at q1
    cases q1
    rw [hroom.val] at q2
    obtain ⟨⟨rfl, rfl⟩, rfl, rfl⟩ : (g = g' ∧ off = off') ∧ l.length = n' ∧ cap = cap' := by simpa using q2
    show (C.w.setRow g (laid cur (off + i * y.width + o) us)).cell? _ = _
    rw [laid_out hg hfit fun e => ?_]
    · exact q5
    · obtain ⟨_, e1, e2⟩ := e
      have ho' := slAt_lt _ _ q4
      have hii : i' = i := by
        rcases Nat.lt_trichotomy i i' with h | h | h
        · have : (i + 1) * y.width ≤ i' * y.width := Nat.mul_le_mul_right _ h
          rw [Nat.add_mul, Nat.one_mul] at this; omega
        · exact h.symm
        · have : (i' + 1) * y.width ≤ i * y.width := Nat.mul_le_mul_right _ h
          rw [Nat.add_mul, Nat.one_mul] at this; omega
      subst hii
      rw [frz_scal _ _ hsc] at hdec
      have hul := hcs.length
      have hcl : o' - o < cs.length := by omega
      have hlen : o + cs.length ≤ (enc true y (l.getD i' y.zero)).length := by rw [enc_length]; omega
      have := scalL_dec y _ xn hdec o' cs[o' - o] (by rw [splice_get hlen, if_pos (by omega), List.getElem?_eq_getElem hcl]) (scalL_get hsc (List.getElem?_eq_getElem hcl))
      rw [this] at q4
      cases q4
  · simp only [C', if_true] at hv
    cases hv
    exact ⟨y, l.set i xn, none, by simp only [C', List.getElem?_set_self hblt]⟩
  · rcases hx' j x hx with ⟨h, _⟩ | ⟨h1, h2⟩
    · exact .inl h
    · obtain ⟨q1, q2, q3⟩ := k11 j x h2 hd
      refine .inr ⟨q1, fun h => h ⟨x, h2, hd⟩, h1, by simp only [C', h1, if_false]; exact q2, fun g' p => by simp only [C', h1, if_false]⟩
  · simp only [C', if_true] at hf
    rcases hf with hf | hf
    · obtain ⟨h1, h2, h3⟩ := hH.own b g' p hlive hf
      exact ⟨h1, by simpa [C'] using h3, .inl ⟨b, .inr rfl, hlive, hf⟩⟩
    · obtain ⟨h1, h2, h3⟩ := k8 g' p hf
      obtain ⟨b', q1, q2, q3, q4⟩ := k10 g' p hf
      exact ⟨h1, by simpa [C'] using h3, .inl ⟨b', .inl q2, q1, q4⟩⟩
  · rcases hx' b x hx with ⟨_, rfl⟩ | ⟨h1, _⟩
    case inr => exact absurd rfl h1
    refine ⟨rfl, hsh, fun _ => by simp [C'], .inr ⟨g, off, cap, ⟨?_, ⟨laid cur (off + i * y.width + o) us, ty, laid_heap hg hfit, by rw [laid_size hg hfit]; exact hcur⟩, ?_, hroom.most, fun p q1 q2 => ?_⟩, fun j => if j = i then (fun g' p => G i g' p ∨ F g' p) else G j, ⟨fun j g' p hG => ?_, fun j p hG q1 q2 => ?_, fun j j' g' p hG hG' => ?_⟩, fun j u hu => ?_⟩⟩
    · rw [List.length_set]; exact hroom.val
    · rw [List.length_set]; exact hroom.len
    · simp only [C', if_true]; exact .inl (hroom.foot p q1 q2)
    · simp only [C', if_true]
      split at hG
      · rcases hG with h | h
        · exact .inl (hn.sub i g' p h)
        · exact .inr h
      · exact .inl (hn.sub j g' p hG)
    · split at hG
      · rcases hG with h | h
        · exact hn.out i p h q1 q2
        · exact hFout g p h (hroom.foot p q1 q2)
      · exact hn.out j p hG q1 q2
    · have key : ∀ j, (if j = i then (fun g' p => G i g' p ∨ F g' p) else G j) g' p → (G j g' p) ∨ (j = i ∧ F g' p) := by
        intro j h
        split at h
        · rename_i e
          subst e
          rcases h with h | h
          · exact .inl h
          · exact .inr ⟨rfl, h⟩
        · exact .inl h
      rcases key j hG with h | ⟨h, h'⟩ <;> rcases key j' hG' with k | ⟨k, k'⟩
      · exact hn.inj j j' g' p h k
      · exact absurd (hn.sub j g' p h) (hFout g' p k')
      · exact absurd (hn.sub j' g' p k) (hFout g' p h')
      · rw [h, k]
    · by_cases e : i = j
      · subst e
        rw [List.getElem?_set_self hi] at hu
        cases hu
        refine ⟨_, elem_laid hg hcur hi hroom.len hle hws hat, ?_⟩
        simp only [if_true]
        refine RdU.keep _ _ _ _ _ ⟨(hkept i).obj, fun g' p u h => h.elim (fun h => (hkept i).cell g' p u h) (fun h => hkF.cell g' p u h)⟩ (fun _ _ h => h) hnewx
      · rw [List.getElem?_set_ne e] at hu
        obtain ⟨ws', h1, h2⟩ := hgx j u hu
        have hjl := (List.getElem?_eq_some_iff.1 hu).1
        refine ⟨ws', elem_other hg hcur hi hjl hroom.len e hle h2.length h1, ?_⟩
        simp only [if_neg (fun e' : j = i => e e'.symm)]
        exact RdU.keep _ _ _ _ _ (hkept j) (fun _ _ h => h) h2

/-- Cells that lead nowhere. -/
theorem scalL_U {C : Cx} {w : World} : ∀ {l : List Cell} {vs : List Value}, scalL l = true → LR C l vs → LU w l vs (fun _ _ => False)
  | [], [], _, _ => trivial
  | c :: l, v :: vs, hs, h => by
    obtain ⟨h1, h2⟩ := andB hs
    exact ⟨fun _ _ => False, fun _ _ => False, fun _ _ h => h, fun _ _ h => h, fun _ _ h => h.elim, scalC_U h1 h.1 _, scalL_U h2 h.2⟩
  | [], _ :: _, _, h => h.elim
  | _ :: _, [], _, h => h.elim
theorem live_mix {C : Cx} {b : Nat} {t : Ty} {l : List t.den} {n : Nat} (h : C.H[b]? = some (.mix t l n)) : live C b := ⟨_, h, by intro e; cases e⟩

/-- A store that makes element n of a mixed row the row's own. -/
theorem HeapR.storeM (hH : HeapR C) {b o i : Nat} {y : Ty} {l : List y.den} {cs : List Cell} {us : List Value} (hb : C.H[b]? = some (.mix y l i)) (hi : i < l.length) (hle : o + us.length ≤ y.width) (hcs : LR C cs us) (hm : movL C.H b cs = true) (hs1 : scalL ((enc false y (l.getD i y.zero)).take o) = true) (hs2 : scalL ((enc false y (l.getD i y.zero)).drop (o + us.length)) = true) {xn : y.den} (hdec : dec y (splice (enc false y (l.getD i y.zero)) o (frz C.H cs).1) = some xn)
    {g off cap : Nat} (hroom : Room C.w (C.fp b) y.width (C.ρ b) l.length g off cap) {cur : Array Value} {ty : TypeId} (hg : C.w.heap[g]? = some (Obj.cells cur ty (0, 0))) (hcur : off + cap * y.width ≤ cur.size) :
    ∃ C', C'.H = (frz C.H cs).2.set b (.mix y (l.set i xn) (i + 1)) ∧ C'.w = C.w.setRow g (laid cur (off + i * y.width + o) us) ∧ C.le C' ∧ HeapR C' ∧ Frm C C' := by
  obtain ⟨C1, F, k1, k2, k3, k4, k5, k6, k7, k8, k9, k10, k11, k12, k13, k14, k15, k16⟩ := mov_r b hH hcs hm
  have hlive := live_mix hb
  have hlt := live_lt hlive
  obtain ⟨hsh, hrow⟩ := hH.blk b _ hb
  have hvb : C.vn b = none := by
    cases hv : C.vn b with
    | none => rfl
    | some v => obtain ⟨t, l, h, e⟩ := hH.vl b v hv; rw [hb] at e; cases e
  have hvb1 : C1.vn b = none := by
    rcases k16 b with h | ⟨h, _⟩
    · rw [h, hvb]
    · exact h
  have hin : (i + 1) * y.width ≤ cap * y.width := Nat.mul_le_mul_right _ (by have := hroom.len; omega)
  rw [Nat.add_mul, Nat.one_mul] at hin
  have hfit : off + i * y.width + o + us.length ≤ cur.size := by omega
  have hget : l[i]? = some (l.getD i y.zero) := by rw [List.getD_eq_getElem?_getD, List.getElem?_eq_getElem hi]; rfl
  obtain ⟨G, hn, hgx⟩ : ∃ G, Nest (C.fp b) g off (cap * y.width) G ∧ ∀ j x, l[j]? = some x → ∃ us, AtW C.w g (off + j * y.width) us ∧ (j < i → RdU C.w y x us (G j)) ∧ (i ≤ j → Rd C.w (C.Sf false) y x us) := by
    rcases hrow with ⟨e, _⟩ | ⟨g', off', cap', G, hr, hels⟩
    · subst e; simp at hi
    · have hval := hr.val
      rw [hroom.val] at hval
      obtain ⟨⟨rfl, rfl⟩, rfl⟩ : (g = g' ∧ off = off') ∧ cap = cap' := by simpa using hval
      exact ⟨G, hels⟩
  obtain ⟨ws, hat, _, hrd⟩ := hgx i _ hget
  have hrd := hrd (Nat.le_refl _)
  have hws := hrd.length
  -- what is new
  have hFout : ∀ g' p, F g' p → ¬ C.fp b g' p := by
    intro g' p hf hfp
    obtain ⟨b', q1, _, q2, q3⟩ := k10 g' p hf
    exact q2 (hH.inj b' b g' p q1 hlive q3 hfp)
  have hnewx : RdU C.w y xn (ws.take o ++ us ++ ws.drop (o + us.length)) F := by
    refine decU y _ xn _ _ ?_ hdec
    have h1 : LR C (enc false y (l.getD i y.zero)) ws := enc_r (f := false) y _ _ hrd
    have hkl := k7.length
    unfold splice
    rw [← hkl]
    exact LU.append (Fa := F) (Fb := fun _ _ => False) (LU.append (scalL_U hs1 (h1.take o)) k7 (fun _ _ h => h.elim) (fun _ _ h => h) fun _ _ h => h.elim) (scalL_U hs2 (h1.drop (o + us.length))) (fun _ _ h => h) (fun _ _ h => h.elim) fun _ _ _ h => h
  have hkept : ∀ j, Kept C.w (C.w.setRow g (laid cur (off + i * y.width + o) us)) (G j) := fun j => (laid_chg hg hfit).kept fun g' p hG e => by
    obtain ⟨rfl, e1, e2⟩ := e
    exact hn.out j p hG (by omega) (by omega)
  have hkF : Kept C.w (C.w.setRow g (laid cur (off + i * y.width + o) us)) F := (laid_chg hg hfit).kept fun g' p hF e => by
    obtain ⟨rfl, e1, e2⟩ := e
    exact hFout g' p hF (hroom.foot p (by omega) (by omega))
  let C' : Cx := { C with w := C.w.setRow g (laid cur (off + i * y.width + o) us), H := (frz C.H cs).2.set b (.mix y (l.set i xn) (i + 1)), fp := fun j => if j = b then (fun g' p => C.fp b g' p ∨ F g' p) else C.fp j, vn := C1.vn }
  have hH1 : ∀ j : Nat, C1.H[j]? = (frz C.H cs).2[j]? := fun j => by rw [k1]
  have hblt : b < (frz C.H cs).2.length := by
    have := live_lt (C := C1) (b := b) (by rw [show live C1 b = ∃ x, C1.H[b]? = some x ∧ x ≠ .dead from rfl, k12]; exact hlive)
    rwa [k1] at this
  have hx' : ∀ j x, C'.H[j]? = some x → j = b ∧ x = .mix y (l.set i xn) (i + 1) ∨ j ≠ b ∧ C1.H[j]? = some x := by
    intro j x hx
    by_cases e : b = j
    · subst e
      simp only [C', List.getElem?_set_self hblt, Option.some.injEq] at hx
      exact .inl ⟨rfl, hx.symm⟩
    · simp only [C', List.getElem?_set_ne e] at hx
      exact .inr ⟨fun e' => e e'.symm, by rw [hH1]; exact hx⟩
  have hnl : ∀ j, ¬ live C' j → j ≠ b → ¬ live C1 j := by
    rintro j hn' hj ⟨x, q1, q2⟩
    refine hn' ⟨x, ?_, q2⟩
    simp only [C', List.getElem?_set_ne (fun e : b = j => hj e.symm)]
    rw [← hH1]; exact q1
  refine ⟨C', rfl, rfl, hH.step (F := roomF g (off + i * y.width + o) us.length) b (fun j => ¬ live C1 j) rfl rfl (laid_chg hg hfit) (fun g' p hf => ⟨b, .inr rfl, hlive, ?_⟩) (fun _ _ h => h) (fun g' p h => .inl h) (fun g' p h => by simpa [C'] using hH.st g' p h) (by
    have : C1.H.length ≥ C.H.length := k2.len
    simp only [C', List.length_set]
    rw [← k1]; exact this) (fun j hj => ⟨rfl, rfl⟩) (fun j hj hn' => ?_) (fun _ => .inl hvb1) (fun v hv => ?_) (fun j x hx hd => ?_) (fun g' p _ hf => ?_) (fun hle' x hx hd => ?_)⟩
  · obtain ⟨rfl, e1, e2⟩ := hf
    exact hroom.foot p (by omega) (by omega)
  · exact k3.vnone (hnl j hn' hj)
  · have hv : C1.vn b = some v := hv
    rw [hvb1] at hv
    cases hv
  · rcases hx' j x hx with ⟨h, _⟩ | ⟨h1, h2⟩
    · exact .inl h
    · obtain ⟨q1, q2, q3⟩ := k11 j x h2 hd
      refine .inr ⟨q1, fun h => h ⟨x, h2, hd⟩, h1, q2, fun g' p => by simp only [C', h1, if_false]⟩
  · simp only [C', if_true] at hf
    rcases hf with hf | hf
    · obtain ⟨h1, h2, h3⟩ := hH.own b g' p hlive hf
      exact ⟨h1, by simpa [C'] using h3, .inl ⟨b, .inr rfl, hlive, hf⟩⟩
    · obtain ⟨h1, h2, h3⟩ := k8 g' p hf
      obtain ⟨b', q1, q2, q3, q4⟩ := k10 g' p hf
      exact ⟨h1, by simpa [C'] using h3, .inl ⟨b', .inl q2, q1, q4⟩⟩
  · rcases hx' b x hx with ⟨_, rfl⟩ | ⟨h1, _⟩
    case inr => exact absurd rfl h1
    refine ⟨hsh, .inr ⟨g, off, cap, fun j => if j = i then F else G j, ⟨?_, ⟨laid cur (off + i * y.width + o) us, ty, laid_heap hg hfit, by rw [laid_size hg hfit]; exact hcur⟩, ?_, hroom.most, fun p q1 q2 => ?_⟩, ⟨fun j g' p hG => ?_, fun j p hG q1 q2 => ?_, fun j j' g' p hG hG' => ?_⟩, fun j u hu => ?_⟩⟩
    · rw [List.length_set]; exact hroom.val
    · rw [List.length_set]; exact hroom.len
    · simp only [C', if_true]; exact .inl (hroom.foot p q1 q2)
    · simp only [C', if_true]
      split at hG
      · exact .inr hG
      · exact .inl (hn.sub j g' p hG)
    · split at hG
      · exact hFout g p hG (hroom.foot p q1 q2)
      · exact hn.out j p hG q1 q2
    · have key : ∀ j, (if j = i then F else G j) g' p → (j ≠ i ∧ G j g' p) ∨ (j = i ∧ F g' p) := by
        intro j h
        split at h
        · rename_i e; exact .inr ⟨e, h⟩
        · rename_i e; exact .inl ⟨e, h⟩
      rcases key j hG with ⟨_, h⟩ | ⟨h, h'⟩ <;> rcases key j' hG' with ⟨_, k⟩ | ⟨k, k'⟩
      · exact hn.inj j j' g' p h k
      · exact absurd (hn.sub j g' p h) (hFout g' p k')
      · exact absurd (hn.sub j' g' p k) (hFout g' p h')
      · rw [h, k]
    · by_cases e : i = j
      · subst e
        rw [List.getElem?_set_self hi] at hu
        cases hu
        refine ⟨_, elem_laid hg hcur hi hroom.len hle hws hat, fun _ => ?_, fun h => absurd h (by omega)⟩
        simp only [if_true]
        exact RdU.keep _ _ _ _ _ hkF (fun _ _ h => h) hnewx
      · rw [List.getElem?_set_ne e] at hu
        obtain ⟨ws', h1, h2, h3⟩ := hgx j u hu
        have hjl := (List.getElem?_eq_some_iff.1 hu).1
        have hwl : ws'.length = y.width := by
          rcases Nat.lt_or_ge j i with e | e
          · exact (h2 e).length
          · exact (h3 e).length
        refine ⟨ws', elem_other hg hcur hi hjl hroom.len e hle hwl h1, fun hj => ?_, fun hj => Rd.mono (hle'.Sf _) (hle'.cell _) _ _ _ (h3 (by omega))⟩
        simp only [if_neg (fun e' : j = i => e e'.symm)]
        exact RdU.keep _ _ _ _ _ (hkept j) (fun _ _ h => h) (h2 (by omega))

/-- Whole numbers laid over a row's elements from lo on. -/
theorem HeapR.fillU (hH : HeapR C) {b lo : Nat} {kd : IntKind} {l ns : List Int} {ver : Nat} (hb : C.H[b]? = some (.arr (.int kd) l .un ver none)) (hin : lo + ns.length ≤ l.length)
    {g off cap : Nat} (hroom : Room C.w (C.fp b) 1 (C.ρ b) l.length g off cap) {cur : Array Value} {ty : TypeId} (hg : C.w.heap[g]? = some (Obj.cells cur ty (0, 0))) (hcur : off + cap * 1 ≤ cur.size) :
    ∃ C', C'.H = C.H.set b (.arr (.int kd) (l.take lo ++ ns ++ l.drop (lo + ns.length)) .un ver none) ∧ C'.w = C.w.setRow g (laid cur (off + lo) (ns.map (Value.int kd))) ∧ C.le C' ∧ HeapR C' ∧ Frm C C' := by
  have hlive := live_arr hb
  have hlt := live_lt hlive
  obtain ⟨_, hsh, hvn, hrow⟩ := hH.blk b _ hb
  have hvb := hvn rfl
  have hle := hroom.len
  have hfit : off + lo + (ns.map (Value.int kd)).length ≤ cur.size := by rw [List.length_map]; omega
  have hlen2 : (l.take lo ++ ns ++ l.drop (lo + ns.length)).length = l.length := by
    simp only [List.length_append, List.length_take, List.length_drop]
    omega
  have hgx : ∀ (i : Nat) (x : Int), l[i]? = some x → C.w.cell? (at_ g (off + i)) = some (.int kd x) := by
    rcases hrow with ⟨e, _⟩ | ⟨g', off', cap', hr, G, hn, hx⟩
    · have e : l = [] := e
      subst e
      intro i x hi
      simp at hi
    · have hval := hr.val
      rw [hroom.val] at hval
      obtain ⟨⟨rfl, rfl⟩, rfl⟩ : (g = g' ∧ off = off') ∧ cap = cap' := by simpa using hval
      intro i x hi
      obtain ⟨us, h1, h2⟩ := hx i x hi
      obtain rfl : us = [.int kd x] := h2
      have := h1 0 _ rfl
      simpa [Ty.width] using this
  let C' : Cx := { C with w := C.w.setRow g (laid cur (off + lo) (ns.map (Value.int kd))), H := C.H.set b (.arr (.int kd) (l.take lo ++ ns ++ l.drop (lo + ns.length)) .un ver none) }
  have hx' : ∀ j x, C'.H[j]? = some x → j = b ∧ x = .arr (.int kd) (l.take lo ++ ns ++ l.drop (lo + ns.length)) .un ver none ∨ j ≠ b ∧ C.H[j]? = some x := by
    intro j x hx
    by_cases e : b = j
    · subst e
      simp only [C', List.getElem?_set_self hlt, Option.some.injEq] at hx
      exact .inl ⟨rfl, hx.symm⟩
    · simp only [C', List.getElem?_set_ne e] at hx
      exact .inr ⟨fun e' => e e'.symm, hx⟩
  refine ⟨C', rfl, rfl, hH.step (F := roomF g (off + lo) (ns.map (Value.int kd)).length) b (fun _ => False) rfl rfl (laid_chg hg hfit) (fun g' p hf => ⟨b, .inr rfl, hlive, ?_⟩) (fun _ _ h => h) (fun g' p h => .inl h) (fun g' p h => by simpa [C'] using hH.st g' p h) (by simp [C']) (fun j hj => ⟨rfl, rfl⟩) (fun j hj hn' => ?_) (fun _ => .inr ⟨ver, ver, hvb, hvb, Nat.le_refl _, fun _ t g' off' n' cap' i' o' u q1 q2 q3 q4 q5 => ?_⟩) (fun v hv => ?_) (fun j x hx hd => ?_) (fun g' p _ hf => ?_) (fun hle' x hx hd => ?_)⟩
  · obtain ⟨rfl, e1, e2⟩ := hf
    rw [List.length_map] at e2
    exact hroom.foot p (by omega) (by omega)
  · refine hH.vnone fun ⟨x, hx, hd⟩ => hn' ⟨x, ?_, hd⟩
    simp only [C', List.getElem?_set_ne (fun e : b = j => hj e.symm)]
    exact hx
  · rw [hsh] at q1
    cases q1
    cases q4
  · have hv : C.vn b = some v := hv
    rw [hvb] at hv
    cases hv
    exact ⟨.int kd, l.take lo ++ ns ++ l.drop (lo + ns.length), none, by simp only [C', List.getElem?_set_self hlt]⟩
  · rcases hx' j x hx with ⟨h, _⟩ | ⟨h1, h2⟩
    · exact .inl h
    · exact .inr ⟨h2, fun h => h, h1, rfl, fun _ _ => Iff.rfl⟩
  · obtain ⟨h1, h2, h3⟩ := hH.own b g' p hlive hf
    exact ⟨h1, by simpa [C'] using h3, .inl ⟨b, .inr rfl, hlive, hf⟩⟩
  · rcases hx' b x hx with ⟨_, rfl⟩ | ⟨h1, _⟩
    case inr => exact absurd rfl h1
    refine ⟨rfl, hsh, fun _ => hvb, .inr ⟨g, off, cap, ⟨?_, ⟨laid cur (off + lo) (ns.map (Value.int kd)), ty, laid_heap hg hfit, by rw [laid_size hg hfit]; exact hcur⟩, ?_, hroom.most, hroom.foot⟩, fun _ _ _ => False, ⟨fun _ _ _ h => h.elim, fun _ _ h => h.elim, fun _ _ _ _ h => h.elim⟩, fun j u hu => ⟨[.int kd u], fun q z hq => ?_, rfl⟩⟩⟩
    · rw [hlen2]; exact hroom.val
    · rw [hlen2]; exact hroom.len
    · cases q with
      | succ q => simp at hq
      | zero =>
        simp only [List.getElem?_cons_zero, Option.some.injEq] at hq
        subst hq
        simp only [Ty.width, Nat.mul_one, Nat.add_zero]
        show (C.w.setRow g (laid cur (off + lo) (ns.map (Value.int kd)))).cell? (at_ g (off + j)) = _
        by_cases h1 : lo ≤ j ∧ j < lo + ns.length
        · rw [laid_in hg hfit (by omega) (by rw [List.length_map]; omega), List.getElem?_map, show off + j - (off + lo) = j - lo by omega]
          have : ns[j - lo]? = some u := by
            rw [List.append_assoc, List.getElem?_append_right (by rw [List.length_take]; omega), List.length_take, Nat.min_eq_left (by omega), List.getElem?_append_left (by omega)] at hu
            exact hu
          rw [this]
          rfl
        · rw [laid_out hg hfit fun e => h1 (by have := e.2; rw [List.length_map] at this; omega)]
          refine hgx j u ?_
          rcases Nat.lt_or_ge j lo with h2 | h2
          · rw [List.append_assoc, List.getElem?_append_left (by rw [List.length_take]; omega), List.getElem?_take_of_lt h2] at hu
            exact hu
          · rw [List.getElem?_append_right (by simp only [List.length_append, List.length_take]; omega), List.getElem?_drop] at hu
            simp only [List.length_append, List.length_take] at hu
            rw [← hu]
            congr 1
            omega

/-- How an element is held as data, its row going on as one that is read only. -/
theorem HeapR.storeF (hH : HeapR C) {b i o : Nat} {y : Ty} {l : List y.den} {m : Md} {ver : Nat} {cs : List Cell} {us : List Value} (hb : C.H[b]? = some (.arr y l m ver none)) (hi : i < l.length) (hle : o + us.length ≤ y.width) (hcs : LR C cs us) {xn : y.den} (hdec : dec y (splice (enc (!m.isSh) y (l.getD i y.zero)) o cs) = some xn)
    {g off cap : Nat} (hroom : Room C.w (C.fp b) y.width (C.ρ b) l.length g off cap) {cur : Array Value} {ty : TypeId} (hg : C.w.heap[g]? = some (Obj.cells cur ty (0, 0))) (hcur : off + cap * y.width ≤ cur.size) :
    ∃ C', C'.H = C.H.set b (.arr y (l.set i xn) (mdOf (!m.isSh && fresh cs)) ver none) ∧ C'.w = C.w.setRow g (laid cur (off + i * y.width + o) us) ∧ C.le C' ∧ HeapR C' ∧ Frm C C' := by
  have hlive := live_arr hb
  have hlt := live_lt hlive
  obtain ⟨_, hsh, hvn, hrow⟩ := hH.blk b _ hb
  have hin : (i + 1) * y.width ≤ cap * y.width := Nat.mul_le_mul_right _ (by have := hroom.len; omega)
  rw [Nat.add_mul, Nat.one_mul] at hin
  have hfit : off + i * y.width + o + us.length ≤ cur.size := by omega
  have hget : l[i]? = some (l.getD i y.zero) := by rw [List.getD_eq_getElem?_getD, List.getElem?_eq_getElem hi]; rfl
  have hels : Els C b y l m g off cap := by
    rcases hrow with ⟨e, _⟩ | ⟨g', off', cap', hr, hels⟩
    · subst e; simp at hi
    · have hval := hr.val
      rw [hroom.val] at hval
      obtain ⟨⟨rfl, rfl⟩, rfl⟩ : (g = g' ∧ off = off') ∧ cap = cap' := by simpa using hval
      exact hels
  let C' : Cx := { C with w := C.w.setRow g (laid cur (off + i * y.width + o) us), S := fun g' p => C.S g' p ∨ (C.fp b g' p ∧ ¬ roomF g off (cap * y.width) g' p), H := C.H.set b (.arr y (l.set i xn) (mdOf (!m.isSh && fresh cs)) ver none), fp := fun j => if j = b then roomF g off (cap * y.width) else C.fp j, vn := fun j => if j = b then none else C.vn j }
  have hx' : ∀ j x, C'.H[j]? = some x → j = b ∧ x = .arr y (l.set i xn) (mdOf (!m.isSh && fresh cs)) ver none ∨ j ≠ b ∧ C.H[j]? = some x := by
    intro j x hx
    by_cases e : b = j
    · subst e
      simp only [C', List.getElem?_set_self hlt, Option.some.injEq] at hx
      exact .inl ⟨rfl, hx.symm⟩
    · simp only [C', List.getElem?_set_ne e] at hx
      exact .inr ⟨fun e' => e e'.symm, hx⟩
  refine ⟨C', rfl, rfl, hH.step (F := roomF g (off + i * y.width + o) us.length) b (fun _ => False) rfl rfl (laid_chg hg hfit) (fun g' p hf => ⟨b, .inr rfl, hlive, ?_⟩) (fun _ _ h => .inl h) (fun g' p h => ?_) (fun g' p h => ?_) (by simp [C']) (fun j hj => ⟨rfl, rfl⟩) (fun j hj hn' => ?_) (fun _ => .inl (by simp [C'])) (fun v hv => ?_) (fun j x hx hd => ?_) (fun g' p _ hf => ?_) (fun hle' x hx hd => ?_)⟩
  · obtain ⟨rfl, e1, e2⟩ := hf
    exact hroom.foot p (by omega) (by omega)
  · rcases h with h | h
    · exact .inl h
    · exact .inr (.inl ⟨b, .inr rfl, hlive, h.1⟩)
  · have : g' < C.w.heap.size := by
      rcases h with h | h
      · exact hH.st g' p h
      · exact (hH.own b g' p hlive h.1).2.2
    simpa [C'] using this
  · simp only [C', hj, if_false]
    refine hH.vnone fun ⟨x, hx, hd⟩ => hn' ⟨x, ?_, hd⟩
    simp only [C', List.getElem?_set_ne (fun e : b = j => hj e.symm)]
    exact hx
  · simp [C'] at hv
  · rcases hx' j x hx with ⟨h, _⟩ | ⟨h1, h2⟩
    · exact .inl h
    · exact .inr ⟨h2, fun h => h, h1, by simp only [C', h1, if_false], fun g' p => by simp only [C', h1, if_false]⟩
  · simp only [C', if_true] at hf
    have hfb : C.fp b g' p := by
      obtain ⟨rfl, e1, e2⟩ := hf
      exact hroom.foot p e1 e2
    obtain ⟨h1, h2, h3⟩ := hH.own b g' p hlive hfb
    refine ⟨fun h => ?_, by simpa [C'] using h3, .inl ⟨b, .inr rfl, hlive, hfb⟩⟩
    rcases h with h | h
    · exact h1 h
    · exact h.2 hf
  · rcases hx' b x hx with ⟨_, rfl⟩ | ⟨h1, _⟩
    case inr => exact absurd rfl h1
    -- an old element, held as data from now on
    have old : ∀ j u, l[j]? = some u → ∃ ws, AtW C.w g (off + j * y.width) ws ∧ ws.length = y.width ∧ Rd C'.w (C'.Sf (!m.isSh)) y u ws := by
      intro j u hu
      cases m with
      | un =>
        obtain ⟨G, hn, hgx⟩ := hels
        obtain ⟨ws, h1, h2⟩ := hgx j u hu
        refine ⟨ws, h1, h2.length, ?_⟩
        have hk : Kept C.w C'.w (G j) := (laid_chg hg hfit).kept fun g' p hG e => by
          obtain ⟨rfl, e1, e2⟩ := e
          exact hn.out j p hG (by omega) (by omega)
        refine RdU.rd _ _ _ _ (fun g' p hG => ⟨.inr ⟨hn.sub j g' p hG, ?_⟩, fun _ => (hH.own b g' p hlive (hn.sub j g' p hG)).2.1⟩) (RdU.keep _ _ _ _ _ hk (fun _ _ h => h) h2)
        rintro ⟨rfl, e1, e2⟩
        exact hn.out j p hG e1 e2
      | fr =>
        obtain ⟨ws, h1, h2⟩ := hels j u hu
        exact ⟨ws, h1, h2.length, Rd.mono (hle'.Sf _) (hle'.cell _) _ _ _ h2⟩
      | sh =>
        obtain ⟨ws, h1, h2⟩ := hels j u hu
        exact ⟨ws, h1, h2.length, Rd.mono (hle'.Sf _) (hle'.cell _) _ _ _ h2⟩
    have weak : ∀ {f f' : Bool} {u : y.den} {ws : List Value}, (f' = true → f = true) → Rd C'.w (C'.Sf f) y u ws → Rd C'.w (C'.Sf f') y u ws := fun hff h => Rd.mono (fun g p hs => ⟨hs.1, fun e => hs.2 (hff e)⟩) (fun _ _ _ _ h => h) _ _ _ h
    have elems : ∀ j u, (l.set i xn)[j]? = some u → ∃ ws, AtW C'.w g (off + j * y.width) ws ∧ Rd C'.w (C'.Sf (!m.isSh && fresh cs)) y u ws := by
      intro j u hu
      by_cases e : i = j
      · subst e
        rw [List.getElem?_set_self hi] at hu
        cases hu
        obtain ⟨ws, h1, h2, h3⟩ := old i _ hget
        refine ⟨_, elem_laid hg hcur hi hroom.len hle h2 h1, ?_⟩
        refine dec_r (C := C') (f := !m.isSh && fresh cs) y _ xn _ ((enc_r (C := C') (f := !m.isSh) y _ _ h3).splice (o := o) (hcs.mono hle')) hdec fun e => ?_
        rw [Bool.and_eq_true] at e
        rw [fresh_iff]
        intro c hc
        unfold splice at hc
        rw [e.1] at hc
        rcases List.mem_append.1 hc with h | h
        · rcases List.mem_append.1 h with h | h
          · exact (fresh_iff _).1 (enc_fresh _ _) c (List.mem_of_mem_take h)
          · exact (fresh_iff _).1 e.2 c h
        · exact (fresh_iff _).1 (enc_fresh _ _) c (List.mem_of_mem_drop h)
      · rw [List.getElem?_set_ne e] at hu
        obtain ⟨ws, h1, h2, h3⟩ := old j u hu
        exact ⟨ws, elem_other hg hcur hi (List.getElem?_eq_some_iff.1 hu).1 hroom.len e hle h2 h1, weak (fun e => (Bool.and_eq_true_iff.1 e).1) h3⟩
    refine ⟨rfl, hsh, fun e => ?_, .inr ⟨g, off, cap, ⟨?_, ⟨laid cur (off + i * y.width + o) us, ty, laid_heap hg hfit, by rw [laid_size hg hfit]; exact hcur⟩, ?_, hroom.most, fun p q1 q2 => ?_⟩, ?_⟩⟩
    · cases h : (!m.isSh && fresh cs) <;> rw [h] at e <;> cases e
    · rw [List.length_set]; exact hroom.val
    · rw [List.length_set]; exact hroom.len
    · simp only [C', if_true]; exact ⟨rfl, q1, q2⟩
    · cases h : (!m.isSh && fresh cs) <;> rw [h] at elems <;> exact elems

section
variable {T : Nat → Option TI} (hT : TOK P T) {s : St} {nt : Nat} {a : Act} (hH : HeapR C) (hh : C.H = s.heap) (ht : TR C nt s.tmps a)
include hT hH hh

theorem alloc_b {k : AV → List Blk → Option R} {dst : Option Tmp} {type : TypeId} {pos : String} {after : Array Edge} {guard : Option (Nat × Bool)} {t : Nat} {ti : TI} (hti : T t = some ti)
    (h : k (.c (.ptr s.heap.length 0)) (s.heap ++ [match ti.k with | .bld u => .bld t u ByteArray.empty | _ => .cells t ti.zero]) = some r) : GoodB P C r k a ⟨dst, .alloc t, type, pos, after, guard⟩ := by
  obtain ⟨⟨i, z, hi, hs, hby, hz, hzs, hzr, hzu⟩, ⟨d, _, _, hd⟩, _⟩ := hT t ti hti
  split at h
  · rename_i u hk
    rw [hk] at hd
    obtain ⟨i', hi', hz'⟩ := hd
    rw [hi] at hi'
    cases hi'
    rw [hz] at hz'
    cases hz'
    obtain ⟨h1, h2, h3, h4⟩ := hH.newBld t u rfl
    refine .val (C' := _) ?_ h1 h2 h3 ⟨rfl, rfl, rfl, by simp, fun k hk => heap_alloc_old _ _ _ hk⟩ h4 ?_
    · simpa [hh] using h
    · simp [execOp, Instr.alloc, zeroValue, typeInfo, hi, hz, newVar, newRow]
      rfl
  · obtain ⟨h1, h2, h3, h4⟩ := hH.newCells (ty := t) (hzr C) rfl
    refine .val (C' := _) ?_ h1 h2 h3 ⟨rfl, rfl, rfl, by simp, fun k hk => heap_alloc_old _ _ _ hk⟩ h4 ?_
    · simpa [hh] using h
    · simp [execOp, Instr.alloc, zeroValue, typeInfo, hi, hz, newVar, newRow]

include ht
theorem box_b {k : AV → List Blk → Option R} {dst : Option Tmp} {type : TypeId} {pos : String} {after : Array Edge} {guard : Option (Nat × Bool)} {t : Nat} {x : Operand} {ti : TI} (hti : T t = some ti)
    (hk : known (s.ev x).cells = true) (h : k (.c (.ptr s.heap.length 0)) (s.heap ++ [.cells t (s.ev x).cells]) = some r) : GoodB P C r k a ⟨dst, .box t x, type, pos, after, guard⟩ := by
  obtain ⟨h1, h2, h3, h4⟩ := hH.newCells (ty := t) ((ev_r ht x).cells hk) rfl
  refine .val (C' := _) ?_ h1 h2 h3 ⟨rfl, rfl, rfl, by simp, fun k hk => heap_alloc_old _ _ _ hk⟩ h4 ?_
  · simpa [hh] using h
  · simp [execOp, Instr.box, newVar, newRow]

theorem store_r {k : AV → List Blk → Option R} {dst : Option Tmp} {type : TypeId} {pos : String} {after : Array Edge} {guard : Option (Nat × Bool)} {t : Nat} {p x : Operand}
    (h : storeK T s t (s.ev p) (s.ev x) k = some r) : GoodO P C r k a ⟨dst, .store t p x, type, pos, after, guard⟩ := by
  unfold storeK at h
  split at h
  · cases h
  rename_i ti hti
  obtain ⟨⟨i, z, hi, hs, _⟩, _⟩ := hT t ti hti
  obtain ⟨hsz, h⟩ := beq_cond h
  obtain ⟨hkn, h⟩ := bool_cond h
  have hx := (ev_r ht x).cells hkn
  have hone := hx.one hkn
  have hxl : (a.eval x).cells.toList.length = (s.ev x).cells.length := hx.length
  have hxs : (a.eval x).cells.size = i.size := by rw [hs, ← hsz, ← hxl]; simp
  split at h
  · rename_i b o hp
    split at h
    case h_2 => cases h
    rename_i ty l hb
    obtain ⟨hle, h⟩ := ble_cond h
    obtain ⟨hkn2, h⟩ := bool_cond h
    rw [← hh] at hb h
    have hpv := ev_r ht p
    rw [hp] at hpv
    obtain ⟨_, hbl, g', off', hr, hv⟩ := hpv
    obtain ⟨hsh, g, off, cs, ty', hρ, hg, hcur, hl⟩ := hH.blk b _ hb
    rw [hρ] at hr
    obtain ⟨rfl, rfl⟩ : g = g' ∧ off = off' := by simpa using hr
    rw [← hsz] at hkn2 hle
    obtain ⟨h1, h2, h3⟩ := hH.storeCells hb hle hkn2 hx hρ hg hcur hl hsh rfl
    exact .skip (C' := _) h h1 h2 h3 (run_store_at hi hg hv hxs hone (by omega))
  · rename_i b i' o hp
    split at h
    rename_i cs1 H1 hfrz
    split at h
    case h_3 => cases h
    case h_2 =>
      rename_i y l nm hb
      obtain ⟨hle, h3⟩ := ble_cond h
      clear h
      split at h3
      case h_2 => cases h3
      rename_i xn hdec
      obtain ⟨hq, h3⟩ := bool_cond h3
      simp only [Bool.and_eq_true] at hq
      obtain ⟨hs1, hs2, hmv⟩ := hq
      split at h3
      case isFalse => cases h3
      rename_i hin
      subst hin
      have h := h3
      clear h3
      have hpv := ev_r ht p
      rw [hp] at hpv
      obtain ⟨_, hbl, t', g', off', n, cap', hsh', hr, hlt, hv⟩ := hpv
      have hmv' : movL C.H b (s.ev x).cells = true := by rw [hh]; exact hmv
      obtain ⟨C1, F, k1, k2, k3, k4, k5, k6, k7, k8, k9, k10, k11, k12, k13, k14, k15, k16⟩ := mov_r b hH hx hmv'
      have e1 : (frz C.H (s.ev x).cells).2 = H1 := by rw [hh, hfrz]
      have e2 : (frz C.H (s.ev x).cells).1 = cs1 := by rw [hh, hfrz]
      have hb0 : C.H[b]? = some (.mix y l i') := by rw [← k12, k1, e1]; exact hb
      obtain ⟨hsh, hrow⟩ := hH.blk b _ hb0
      rw [hsh'] at hsh
      cases hsh
      rcases hrow with ⟨_, A, hA⟩ | ⟨g, off, cap, G, hroom, _⟩
      · rw [hr] at hA; cases hA; omega
      have hval := hroom.val
      rw [hr] at hval
      obtain ⟨⟨rfl, rfl⟩, rfl, rfl⟩ : (g' = g ∧ off' = off) ∧ n = l.length ∧ cap' = cap := by simpa using hval
      obtain ⟨cur, ty, hg, hcur⟩ := hroom.cur
      have hin : (i' + 1) * y.width ≤ cap' * y.width := Nat.mul_le_mul_right _ (by have := hroom.len; omega)
      rw [Nat.add_mul, Nat.one_mul] at hin
      have hrun := run_store_at (P := P) hi (a := a) (dst := dst) (type := type) (pos := pos) (after := after) (guard := guard) (p := p) (x := x) hg hv hxs hone (by omega)
      obtain ⟨C', q1, q2, q3, q4, q5⟩ := hH.storeM (o := o) hb0 hlt (us := (a.eval x).cells.toList) (by omega) hx hmv' hs1 (by rw [hxl]; exact hs2) (xn := xn) (by rw [e2]; exact hdec) hroom hg hcur
      rw [e1] at q1
      rw [← q1] at h
      refine .skip h q3 q4 q5 ?_
      rw [q2]
      exact hrun
    rename_i y l m ver hb
    obtain ⟨hle, h3⟩ := ble_cond h
    clear h
    split at h3
    case h_2 => cases h3
    rename_i xn hdec
    have h := h3
    clear h3
    have hpv := ev_r ht p
    rw [hp] at hpv
    obtain ⟨_, hbl, t', g', off', n, cap', hsh', hr, hlt, hv⟩ := hpv
    obtain ⟨C1, k1, k2, k3, k4, k5, k6, k7⟩ := frz_r hH hx
    have e1 : (frz C.H (s.ev x).cells).2 = H1 := by rw [hh, hfrz]
    have e2 : (frz C.H (s.ev x).cells).1 = cs1 := by rw [hh, hfrz]
    have hb1 : C1.H[b]? = some (.arr y l m ver none) := by rw [k1, e1]; exact hb
    obtain ⟨hb0, hvb, hfpb⟩ := k7 b _ hb1 (by simp)
    obtain ⟨_, hsh, _⟩ := hH.blk b _ hb0
    rw [hsh'] at hsh
    cases hsh
    rcases row_nil hH hb0 with ⟨_, A, hA⟩ | ⟨g, off, cap, hroom⟩
    · rw [hr] at hA; cases hA; omega
    have hval := hroom.val
    rw [hr] at hval
    obtain ⟨⟨rfl, rfl⟩, rfl, rfl⟩ : (g' = g ∧ off' = off) ∧ n = l.length ∧ cap' = cap := by simpa using hval
    obtain ⟨cur, ty, hg, hcur⟩ := hroom.cur
    have hin : (i' + 1) * y.width ≤ cap' * y.width := Nat.mul_le_mul_right _ (by have := hroom.len; omega)
    rw [Nat.add_mul, Nat.one_mul] at hin
    have hrun := run_store_at (P := P) hi (a := a) (dst := dst) (type := type) (pos := pos) (after := after) (guard := guard) (p := p) (x := x) hg hv hxs hone (by omega)
    cases hq : m.isUn && movL s.heap b (s.ev x).cells
    · rw [hq] at h
      simp only [cond_false] at h
      have hroom1 : Room C1.w (C1.fp b) y.width (C1.ρ b) l.length g' off' cap' := by
        rw [k5, hfpb, (k2.blk b hbl).2]; exact hroom
      obtain ⟨C', q1, q2, q3, q4, q5⟩ := k3.storeF (o := o) hb1 hlt (us := (a.eval x).cells.toList) (by omega) k6 (xn := xn) (by rw [e2]; exact hdec) hroom1 (cur := cur) (ty := ty) (by rw [k5]; exact hg) hcur
      rw [k1, e1, e2] at q1
      rw [← q1] at h
      refine .skip h (k2.trans q3) q4 (k4.trans k2 q5) ?_
      rw [q2, k5]
      exact hrun
    · rw [hq] at h
      simp only [cond_true] at h
      rw [Bool.and_eq_true] at hq
      have hm : m = .un := by cases m <;> first | rfl | (have := hq.1; cases this)
      subst hm
      obtain ⟨C', q1, q2, q3, q4, q5⟩ := hH.storeU (o := o) hb0 hlt (us := (a.eval x).cells.toList) (by omega) hx (by rw [hh]; exact hq.2) (xn := xn) (by rw [e2]; exact hdec) hroom hg hcur
      rw [e1] at q1
      rw [← q1] at h
      refine .skip h q3 q4 q5 ?_
      rw [q2]
      exact hrun
  · cases h
theorem storeN_r {k : AV → List Blk → Option R} {dst : Option Tmp} {type : TypeId} {pos : String} {after : Array Edge} {guard : Option (Nat × Bool)} {t : Nat} {p x : Operand} {b i o ver j q : Nat} (hp : s.ev p = .c (.neptr b i o ver j q))
    (h : storeN T s t b i o ver j q (s.ev x) k = some r) : GoodO P C r k a ⟨dst, .store t p x, type, pos, after, guard⟩ := by
  unfold storeN at h
  split at h
  · cases h
  rename_i ti hti
  obtain ⟨⟨inf, z, hi, hs, _⟩, _⟩ := hT t ti hti
  obtain ⟨hsz, h⟩ := beq_cond h
  obtain ⟨hsc, h⟩ := bool_cond h
  have hkn := scalL_known hsc
  have hx := (ev_r ht x).cells hkn
  have hone := hx.one hkn
  have hxl : (a.eval x).cells.toList.length = (s.ev x).cells.length := hx.length
  have hxs : (a.eval x).cells.size = inf.size := by rw [hs, ← hsz, ← hxl]; simp
  split at h
  case h_2 => cases h
  rename_i y l ver' hb
  rw [← hh] at hb
  cases hv : Nat.beq ver' ver
  · rw [hv] at h; cases h
  have := Nat.eq_of_beq_eq_true hv
  subst this
  rw [hv] at h
  simp only [cond_true] at h
  split at h
  case h_2 => cases h
  rename_i u l' hg
  obtain ⟨hle, h⟩ := ble_cond h
  split at h
  case h_2 => cases h
  rename_i xn hdec
  split at h
  case h_2 => cases h
  rename_i xo hset
  have hpv := ev_r ht p
  rw [hp] at hpv
  obtain ⟨g, off, n, cap, hn, hj, hpe⟩ := neptr_nst hH hb (hpv : CellR C (.neptr b i o ver' j q) _) hg
  obtain ⟨C1, e1, e2, e3, e4, e5, e6, e7, e8, e9⟩ := hH.detach hb hn hg
  have hbl := (List.getElem?_eq_some_iff.1 hb).1
  have hk1 : C1.H[C.H.length]? = some (.arr u l' .un 0 none) := by
    rw [e1, List.getElem?_append_right (by simp)]
    simp
  have hb1 : C1.H[b]? = some (.arr y l .un ver' (some (i, o))) := by
    rw [e1, List.getElem?_append_left (by rw [List.length_set]; exact hbl), List.getElem?_set_self hbl]
  rcases row_nil e5 hk1 with ⟨_, A, hA⟩ | ⟨g1, off1, cap1, hroom⟩
  · rw [e7] at hA; cases hA; omega
  have hval := hroom.val
  rw [e7] at hval
  obtain ⟨⟨rfl, rfl⟩, rfl, rfl⟩ : (g = g1 ∧ off = off1) ∧ n = l'.length ∧ cap = cap1 := by simpa using hval
  obtain ⟨cur, ty, hgc, hcur⟩ := hroom.cur
  have hin : (j + 1) * u.width ≤ cap * u.width := Nat.mul_le_mul_right _ (by have := hroom.len; omega)
  rw [Nat.add_mul, Nat.one_mul] at hin
  have hfrz := frz_scal C1.H _ hsc
  obtain ⟨C2, f1, f2, f3, f4, f5⟩ := e5.storeU (i := j) (o := q) hk1 hj (us := (a.eval x).cells.toList) (by omega) (hx.mono e4) (scalL_mov _ _ hsc) (xn := xn) (by rw [hfrz]; exact hdec) hroom hgc hcur
  rw [hfrz, hsc] at f1
  simp only [cond_true] at f1
  have hbk : b ≠ C.H.length := by omega
  have hb2 : C2.H[b]? = some (.arr y l .un ver' (some (i, o))) := by rw [f1, List.getElem?_set_ne fun e => hbk e.symm]; exact hb1
  have hlen1 : C.H.length < C1.H.length := (List.getElem?_eq_some_iff.1 hk1).1
  have hk2 : C2.H[C.H.length]? = some (.arr u (l'.set j xn) .un 0 none) := by rw [f1, List.getElem?_set_self hlen1]
  have hρ : C2.ρ C.H.length = .slice (some (at_ g off)) l'.length cap := by rw [(f3.blk _ hlen1).2, e7]
  obtain ⟨C3, g1, g2, g3, g4, g5⟩ := f4.attach hb2 hk2 (by rw [hρ]; exact e9.mono f3) hset
  refine .skip (C' := C3) ?_ (e4.trans (f3.trans g3)) g4 (e6.trans e4 (f5.trans f3 g5)) ?_
  · rw [g1, f1, e1, ← h, hh]
    congr 1
    apply List.ext_getElem?
    intro m
    have hbl' : b < s.heap.length := by rw [← hh]; exact hbl
    rcases Nat.lt_trichotomy m s.heap.length with hm | hm | hm
    · rw [List.getElem?_set_ne (by omega), List.getElem?_append_left (by rw [List.length_set]; exact hm)]
      by_cases e : b = m
      · subst e
        rw [List.getElem?_set_self (by simp; omega), List.getElem?_set_self hm]
      · rw [List.getElem?_set_ne e, List.getElem?_set_ne (by omega), List.getElem?_append_left (by rw [List.length_set]; exact hm), List.getElem?_set_ne e, List.getElem?_set_ne e]
    · subst hm
      rw [List.getElem?_set_self (by simp), List.getElem?_append_right (by simp)]
      simp
    · rw [List.getElem?_eq_none (by simp; omega), List.getElem?_eq_none (by simp; omega)]
  · have := run_store_at (P := P) hi (a := a) (dst := dst) (type := type) (pos := pos) (after := after) (guard := guard) (p := p) (x := x) hgc (w := C1.w) (o := off + j * u.width + q) hpe hxs hone (by omega)
    rw [g2, f2, ← e2]
    exact this

theorem storeA_r {k : AV → List Blk → Option R} {dst : Option Tmp} {type : TypeId} {pos : String} {after : Array Edge} {guard : Option (Nat × Bool)} {t : Nat} {p x : Operand}
    (h : storeA T s t (s.ev p) (s.ev x) k = some r) : GoodO P C r k a ⟨dst, .store t p x, type, pos, after, guard⟩ := by
  unfold storeA at h
  split at h
  · rename_i e; exact storeN_r hT hH hh ht e h
  · exact store_r hT hH hh ht h

/-- The bytes of what is copied. -/
theorem srcK_r {c : Cell} {v : Value} {xs : List Int} (hc : CellR C c v) (h : srcK s c = some xs) (hn : 0 < xs.length) : ∃ g off cap, v = .slice (some (at_ g off)) xs.length cap ∧ ∀ i x, xs[i]? = some x → C.w.cell? (at_ g (off + i)) = some (.int .u8 x) := by
  have key : ∀ {S : Foot}, Rd C.w S (.sl (.int .u8)) xs [v] → ∃ g off cap, v = .slice (some (at_ g off)) xs.length cap ∧ ∀ i x, xs[i]? = some x → C.w.cell? (at_ g (off + i)) = some (.int .u8 x) := by
    intro S hr
    obtain ⟨A, cap, hv, hlc, hne⟩ := hr
    obtain rfl : v = _ := by simpa using hv
    obtain ⟨g, off, rfl, hall⟩ := hne (List.length_pos_iff.1 hn)
    refine ⟨g, off, cap, rfl, fun i x hx => ?_⟩
    obtain ⟨us, h1, h2⟩ := hall i x hx
    obtain rfl : us = [.int .u8 x] := h2
    have := (h1 0 _ rfl).2
    simpa [Ty.width] using this
  unfold srcK at h
  split at h
  · cases h
    exact key hc
  · rename_i b
    split at h
    case h_2 => cases h
    rename_i l' m ver hb
    cases h
    rw [← hh] at hb
    obtain ⟨_, _, hv⟩ := (hc : CellR C (.own b) v)
    have := own_rd hH hb (S := fun _ _ => True) (fun _ _ _ => trivial) (fun _ _ _ => trivial)
    rw [← hv] at this
    exact key this
  · cases h

theorem copy_r {k : AV → List Blk → Option R} {dst : Option Tmp} {type : TypeId} {pos : String} {after : Array Edge} {guard : Option (Nat × Bool)} {t t2 : Nat} {d x : Operand}
    (h : copyK T s t (s.ev d) (s.ev x) k = some r) : GoodO P C r k a ⟨dst, .call ⟨.builtin .copy, #[d, x], #[t, t2]⟩, type, pos, after, guard⟩ := by
  unfold copyK at h
  split at h
  · cases h
  rename_i ti hti
  obtain ⟨_, ⟨dd, hu, ha, hd⟩, _⟩ := hT t ti hti
  split at h
  case h_2 => cases h
  rename_i e hk
  rw [hk] at hd
  obtain rfl : dd = .slice e := hd
  split at h
  · cases h
  rename_i te hte
  obtain ⟨⟨inf, z, hi', hsz, _⟩, _, _⟩ := hT e te hte
  obtain ⟨hw1, h⟩ := beq_cond h
  split at h
  case h_2 => cases h
  rename_i b i o ver lo c hd hx
  split at h
  case h_2 => cases h
  rename_i y l ver' xs hb hxs
  rw [← hh] at hb
  obtain ⟨hv, h⟩ := beq_cond h
  subst hv
  split at h
  case h_2 => cases h
  rename_i l' hg
  split at h
  case isFalse => cases h
  rename_i hpos
  split at h
  case h_2 => cases h
  rename_i zz hset
  have hdv := ev_r ht d
  rw [hd] at hdv
  have hxv := ev_r ht x
  rw [hx] at hxv
  obtain ⟨g, off, n, cap, hn, hlo, hde⟩ := nsv_nst hH hb (hdv : CellR C (.nsv b i o ver' lo) _) hg
  obtain ⟨sg, soff, scap, hxe, hsrc⟩ := srcK_r hT hH hh ht hxv hxs hpos
  obtain ⟨C1, e1, e2, e3, e4, e5, e6, e7, e8, e9⟩ := hH.detach hb hn hg
  have hbl := (List.getElem?_eq_some_iff.1 hb).1
  have hk1 : C1.H[C.H.length]? = some (.arr (.int .u8) l' .un 0 none) := by
    rw [e1, List.getElem?_append_right (by simp)]
    simp
  have hb1 : C1.H[b]? = some (.arr y l .un ver' (some (i, o))) := by
    rw [e1, List.getElem?_append_left (by rw [List.length_set]; exact hbl), List.getElem?_set_self hbl]
  rcases row_nil e5 hk1 with ⟨_, A, hA⟩ | ⟨g1, off1, cap1, hroom⟩
  · rw [e7] at hA; cases hA; omega
  have hval := hroom.val
  rw [e7] at hval
  obtain ⟨⟨rfl, rfl⟩, rfl, rfl⟩ : (g = g1 ∧ off = off1) ∧ n = l'.length ∧ cap = cap1 := by simpa using hval
  obtain ⟨cur, ty, hgc, hcur⟩ := hroom.cur
  have hmin : (xs.take (l'.length - lo)).length = min (l'.length - lo) xs.length := List.length_take
  obtain ⟨C2, f1, f2, f3, f4, f5⟩ := e5.fillU (lo := lo) (ns := xs.take (l'.length - lo)) hk1 (by omega) hroom hgc hcur
  have hbk : b ≠ C.H.length := by omega
  have hb2 : C2.H[b]? = some (.arr y l .un ver' (some (i, o))) := by rw [f1, List.getElem?_set_ne fun e => hbk e.symm]; exact hb1
  have hlen1 : C.H.length < C1.H.length := (List.getElem?_eq_some_iff.1 hk1).1
  have hk2 : C2.H[C.H.length]? = some (.arr (.int .u8) (l'.take lo ++ xs.take (l'.length - lo) ++ l'.drop (lo + (xs.take (l'.length - lo)).length)) .un 0 none) := by rw [f1, List.getElem?_set_self hlen1]
  have hρ : C2.ρ C.H.length = .slice (some (at_ g off)) l'.length cap := by rw [(f3.blk _ hlen1).2, e7]
  obtain ⟨C3, g1, g2, g3, g4, g5⟩ := f4.attach hb2 hk2 (by rw [hρ]; exact e9.mono f3) hset
  have hcl := hroom.len
  have hcur' : off + cap * 1 ≤ cur.size := hcur
  have hrun := run_copy_row (P := P) C.w t t2 type e g (off + lo) (l'.length - lo) (cap - lo) (at_ sg soff) xs.length scap cur ty ((xs.take (l'.length - lo)).map (Value.int .u8)) hu (by rw [hi']; simp [hsz, hw1]) (by rw [← e2]; exact hgc) (by rw [List.length_map, hmin]; exact Nat.min_comm _ _) (fun j v hj => by
    rw [List.getElem?_map] at hj
    cases hlj : (xs.take (l'.length - lo))[j]? with
    | none => rw [hlj] at hj; cases hj
    | some n =>
      rw [hlj] at hj
      simp only [Option.map_some, Option.some.injEq] at hj
      subst hj
      rw [List.getElem?_take] at hlj
      split at hlj
      case isFalse => cases hlj
      rw [addr_add]
      exact hsrc j n hlj) (by rw [List.length_map]; omega) (fun v hv => by obtain ⟨n, _, rfl⟩ := List.mem_map.1 hv; rfl)
  refine .val (C' := C3) (v := goInt ((xs.take (l'.length - lo)).map (Value.int .u8)).length) (av := .c .undef) ?_ (e4.trans (f3.trans g3)) g4 (e6.trans e4 (f5.trans f3 g5)) trivial ?_
  · rw [g1, f1, e1, ← h, hh]
    congr 1
    apply List.ext_getElem?
    intro m
    have hbl' : b < s.heap.length := by rw [← hh]; exact hbl
    rcases Nat.lt_trichotomy m s.heap.length with hm | hm | hm
    · rw [List.getElem?_set_ne (by omega), List.getElem?_append_left (by rw [List.length_set]; exact hm)]
      by_cases e : b = m
      · subst e
        rw [List.getElem?_set_self (by simp; omega), List.getElem?_set_self hm]
      · rw [List.getElem?_set_ne e, List.getElem?_set_ne (by omega), List.getElem?_append_left (by rw [List.length_set]; exact hm), List.getElem?_set_ne e, List.getElem?_set_ne e]
    · subst hm
      rw [List.getElem?_set_self (by simp), List.getElem?_append_right (by simp)]
      simp
    · rw [List.getElem?_eq_none (by simp; omega), List.getElem?_eq_none (by simp; omega)]
  · rw [g2, f2, e2]
    have hde' : a.eval d = .slice (some (at_ g (off + lo))) (l'.length - lo) (cap - lo) := by rw [hde]; simp [Ty.width]
    simp [execOp, resolve, invoke, builtin, hde', hxe, hrun, laid]

end

theorem flat_get (zs : List Value) (w : Nat) (hw : zs.length = w) (hp : 0 < w) : ∀ (n m : Nat), ((List.replicate n zs).flatten)[m]? = if m < n * w then zs[m % w]? else none
  | 0, m => by simp
  | n + 1, m => by
    rw [List.replicate_succ, List.flatten_cons, List.getElem?_append, flat_get zs w hw hp n, hw, Nat.add_mul, Nat.one_mul]
    by_cases h : m < w
    · rw [if_pos h, if_pos (by omega), Nat.mod_eq_of_lt h]
    · rw [if_neg h]
      by_cases h2 : m - w < n * w
      · rw [if_pos h2, if_pos (by omega), Nat.mod_eq_sub_mod (by omega : m ≥ w)]
      · rw [if_neg h2, if_neg (by omega)]

theorem made_flat (z : Array Value) (w n : Nat) (hw : z.size = w) (hp : 0 < w) : (madeCells z (n * w)).toList = (List.replicate n z.toList).flatten := by
  apply List.ext_getElem?
  intro m
  rw [flat_get _ w (by simpa using hw) hp]
  by_cases h : m < n * w
  · have hm : m % w < z.size := by rw [hw]; exact Nat.mod_lt _ hp
    rw [if_pos h]
    simp [madeCells, h, hw, hm]
    rw [getElem!_pos z (m % w) hm, Array.getElem?_eq_getElem hm]
  · rw [if_neg h]
    simp [madeCells, h]

theorem made_win (zs : List Value) (w n i : Nat) (hw : zs.length = w) (hp : 0 < w) (hi : i < n) : (((List.replicate n zs).flatten).drop (i * w)).take w = zs := by
  have h1 : (i + 1) * w ≤ n * w := Nat.mul_le_mul_right _ hi
  rw [Nat.add_mul, Nat.one_mul] at h1
  apply List.ext_getElem?
  intro m
  rw [List.getElem?_take, List.getElem?_drop, flat_get _ w hw hp]
  by_cases h : m < w
  · rw [if_pos h, if_pos (by omega), show (i * w + m) % w = m by rw [Nat.mul_comm, Nat.mul_add_mod]; exact Nat.mod_eq_of_lt h]
  · rw [if_neg h, List.getElem?_eq_none (by omega)]


theorem frz_len : ∀ (l : List Cell) (H : List Blk), (frz H l).2.length = H.length
  | [], H => rfl
  | c :: l, H => by
    cases c with
    | own b =>
      simp only [frz]
      split
      · simp [frz_len l]
      · exact frz_len l H
    | _ => simp only [frz]; exact frz_len l H

theorem buildSlice_go {C : Cx} {s : St} {nt : Nat} {a : Act} (ht : TR C nt s.tmps a) {sz : Nat} {k : List Cell → Option R} :
    ∀ (parts : List (Nat × Operand)) (acc : List Cell) (cs : Array Value), LR C acc cs.toList → buildSliceK.go s sz parts acc k = some r →
      ∃ (out : Array Value) (l : List Cell), Instr.fill (fun i => some (i * sz, sz)) cs (parts.map fun (i, x) => (i, a.eval x)) = some out ∧ LR C l out.toList ∧ k l = some r
  | [], acc, cs, hl, h => ⟨cs, acc, rfl, hl, h⟩
  | (f, x) :: rest, acc, cs, hl, h => by
    simp only [buildSliceK.go] at h
    obtain ⟨hsz, h⟩ := beq_cond h
    obtain ⟨hkn, h⟩ := bool_cond h
    obtain ⟨hle, h⟩ := ble_cond h
    have hx := (ev_r ht x).cells hkn
    have hxl := hx.length
    rw [hsz] at hxl
    have hcl := hl.length
    have hfc := fill_cells cs (f * sz) (a.eval x).cells.toList 0 cs (by simp at hxl hcl ⊢; omega)
    simp only [Nat.add_zero] at hfc
    obtain ⟨out, l, h1, h2, h3⟩ := buildSlice_go ht rest (splice acc (f * sz) (s.ev x).cells) ((a.eval x).cells.zipIdx.foldl (fun cs (c, j) => cs.setIfInBounds (f * sz + j) c) cs) (by
      have e : ((a.eval x).cells.zipIdx.foldl (fun cs (c, j) => cs.setIfInBounds (f * sz + j) c) cs).toList = ((a.eval x).cells.toList.zipIdx.foldl (fun cs (c, j) => cs.setIfInBounds (f * sz + j) c) cs).toList := by
        rw [← Array.foldl_toList]; simp
      rw [e, hfc]
      exact hl.splice hx) h
    refine ⟨out, l, ?_, h2, h3⟩
    simp only [List.map_cons, Instr.fill]
    have c1 : (a.eval x).cells.size = sz := by simpa using hxl
    have c2 : ¬ (f * sz + sz > cs.size) := by simp at hcl; omega
    rw [if_neg (by simp [c1]; omega)]
    exact h1

theorem decRows_r {f : Bool} {y : Ty} : ∀ (n : Nat) (cs : List Cell) (l : List y.den) (vs : List Value), LR C cs vs → decRows y n cs = some l → (f = true → fresh cs = true) →
    l.length = n ∧ ∀ i x, l[i]? = some x → Rd C.w (C.Sf f) y x ((vs.drop (i * y.width)).take y.width)
  | 0, cs, l, vs, hl, h, hf => by cases h; exact ⟨rfl, fun i x hx => by simp at hx⟩
  | n + 1, cs, l, vs, hl, h, hf => by
    simp only [decRows] at h
    split at h
    · cases h
    rename_i x hx
    split at h
    · cases h
    rename_i l' hl'
    cases h
    have h1 := dec_r (f := f) y _ x _ (hl.take y.width) hx fun e => (fresh_iff _).2 fun c hc => (fresh_iff _).1 (hf e) c (List.mem_of_mem_take hc)
    obtain ⟨h2, h3⟩ := decRows_r n _ l' _ (hl.drop y.width) hl' fun e => (fresh_iff _).2 fun c hc => (fresh_iff _).1 (hf e) c (List.mem_of_mem_drop hc)
    refine ⟨by simp [h2], fun i u hu => ?_⟩
    cases i with
    | zero => simp at hu; subst hu; simpa using h1
    | succ i =>
      have := h3 i u (by simpa using hu)
      rw [List.drop_drop] at this
      rw [Nat.add_mul, Nat.one_mul, Nat.add_comm]
      exact this

/-- Rows out of cells that hold what they lead to alone. -/
theorem decRowsU {w : World} {y : Ty} : ∀ (n : Nat) (cs : List Cell) (l : List y.den) (vs : List Value) (F : Foot), LU w cs vs F → decRows y n cs = some l →
    l.length = n ∧ ∃ G : Nat → Foot, (∀ i g p, G i g p → F g p) ∧ (∀ i j g p, G i g p → G j g p → i = j) ∧ ∀ i x, l[i]? = some x → RdU w y x ((vs.drop (i * y.width)).take y.width) (G i)
  | 0, cs, l, vs, F, hl, h => by cases h; exact ⟨rfl, fun _ _ _ => False, fun _ _ _ h => h.elim, fun _ _ _ _ h => h.elim, fun i x hx => by simp at hx⟩
  | n + 1, cs, l, vs, F, hl, h => by
    simp only [decRows] at h
    split at h
    · cases h
    rename_i x hx
    split at h
    · cases h
    rename_i l' hl'
    cases h
    obtain ⟨Fa, Fb, h1, h2, h3, h4, h5⟩ := hl.split y.width
    have k1 := decU y _ x _ _ h4 hx
    obtain ⟨k2, G, k3, k4, k5⟩ := decRowsU n _ l' _ Fb h5 hl'
    refine ⟨by simp [k2], fun i => match i with | 0 => Fa | i + 1 => G i, fun i g p hg => ?_, fun i j g p hg hg' => ?_, fun i u hu => ?_⟩
    · cases i with
      | zero => exact h1 g p hg
      | succ i => exact h2 g p (k3 i g p hg)
    · cases i <;> cases j
      · rfl
      · exact (h3 g p hg (k3 _ g p hg')).elim
      · exact (h3 g p hg' (k3 _ g p hg)).elim
      · rw [k4 _ _ g p hg hg']
    · cases i with
      | zero => simp at hu; subst hu; simpa using k1
      | succ i =>
        have := k5 i u (by simpa using hu)
        rw [List.drop_drop] at this
        rw [Nat.add_mul, Nat.one_mul, Nat.add_comm]
        exact this

theorem row_cells {w : World} {cs : Array Value} {e : TypeId} {y : Ty} {n i : Nat} (hcs : cs.size = n * y.width) (hi : i < n) : AtW (w.alloc (.cells cs e)) w.heap.size (0 + i * y.width) ((cs.toList.drop (i * y.width)).take y.width) := by
  intro j u hj
  rw [cell_at (heap_alloc_new w (.cells cs e)), Nat.zero_add]
  rw [List.getElem?_take] at hj
  split at hj
  · rw [List.getElem?_drop] at hj; exact hj
  · cases hj

/-- A new row of the call's own that holds what it leads to alone. -/
theorem HeapR.newRowU (hH : HeapR C) {y : Ty} {n : Nat} {l : List y.den} {l0 : List Cell} {cs : Array Value} {e : TypeId} (hl0 : LR C l0 cs.toList) (hm : movL C.H C.H.length l0 = true) (hdec : decRows y n (frz C.H l0).1 = some l) (hcs : cs.size = n * y.width) (hn : n ≤ maxLen) :
    ∃ C', C'.H = (frz C.H l0).2 ++ [.arr y l .un 0 none] ∧ C'.w = C.w.alloc (.cells cs e) ∧ C.le C' ∧ HeapR C' ∧ Frm C C' ∧ AVR C' (.c (.own C.H.length)) (.slice (some (at_ C.w.heap.size 0)) n n) := by
  obtain ⟨C1, F, k1, k2, k3, k4, k5, k6, k7, k8, k9, k10, k11, k12, k13, k14, k15, k16⟩ := mov_r C.H.length hH hl0 hm
  obtain ⟨hl, G, g1, g2, g3⟩ := decRowsU n _ l _ F k7 hdec
  have hFlt : ∀ g p, F g p → g < C.w.heap.size := fun g p h => (k8 g p h).2.2
  obtain ⟨q1, q2, q3⟩ := hH.grow (F := fun _ _ => False) (fun j => ¬ live C1 j) (w' := C.w.alloc (.cells cs e)) (S' := C.S) (H1 := (frz C.H l0).2) (blk := .arr y l .un 0 none) (v' := .slice (some (at_ C.w.heap.size 0)) n n) (Fn := fun g p => g = C.w.heap.size ∨ F g p) (tn := some y) (vnew := some 0) (vn' := C1.vn)
    (.alloc _ _ _) (fun _ _ h => h.elim) (fun _ _ h => h) (fun _ _ h => .inl h) (fun g p h => by simpa using Nat.lt_succ_of_lt (hH.st g p h)) (frz_len _ _) (fun i x hx hd => by
      rw [← k1] at hx
      obtain ⟨r1, r2, r3⟩ := k11 i x hx hd
      exact ⟨r1, fun h => h ⟨x, hx, hd⟩, r2⟩) (fun b hb => k3.vnone fun ⟨x, hx, hd⟩ => hd (hb x (by rw [← k1]; exact hx))) (fun v hv => by cases hv; exact ⟨_, _, _, rfl⟩) (fun g p hg => by
      rcases hg with rfl | hg
      · exact ⟨fun h => by have := hH.st _ _ h; omega, by simp, .inr (Nat.le_refl _)⟩
      · obtain ⟨b', r1, r2, r3, r4⟩ := k10 g p hg
        exact ⟨(k8 g p hg).1, by have := hFlt g p hg; simp; omega, .inl ⟨b', r2, r1, r4⟩⟩) rfl (fun hle => by
      refine ⟨rfl, by simp, fun _ => by simp, .inr ⟨C.w.heap.size, 0, n, ⟨by simp [hl], ⟨cs, e, heap_alloc_new _ _, by omega⟩, by omega, hn, fun p _ _ => by simp⟩, G, ⟨fun i g p hg => by simp only [if_true]; exact .inr (g1 i g p hg), fun i p hg _ _ => by have := hFlt _ p (g1 i _ p hg); omega, g2⟩, fun i x hx => ⟨_, row_cells hcs (by have := (List.getElem?_eq_some_iff.1 hx).1; omega), ?_⟩⟩⟩
      refine RdU.keep _ _ _ _ _ ((Chg.alloc C.w (.cells cs e) (fun _ _ => False)).kept (fun _ _ _ h => h)) (fun _ _ h => h) (g3 i x hx))
  exact ⟨_, rfl, rfl, q1, q2, q3, rfl, by simp [frz_len], by simp⟩

/-- A new row of the call's own whose elements are read only. -/
theorem HeapR.newRowF (hH : HeapR C) {y : Ty} {n : Nat} {l : List y.den} {f : Bool} {cs : Array Value} {e : TypeId} (hl : l.length = n) (hcs : cs.size = n * y.width) (hn : n ≤ maxLen)
    (hrd : ∀ i x, l[i]? = some x → Rd C.w (C.Sf f) y x ((cs.toList.drop (i * y.width)).take y.width)) :
    ∃ C', C'.H = C.H ++ [.arr y l (mdOf f) 0 none] ∧ C'.w = C.w.alloc (.cells cs e) ∧ C.le C' ∧ HeapR C' ∧ Frm C C' ∧ AVR C' (.c (.own C.H.length)) (.slice (some (at_ C.w.heap.size 0)) n n) := by
  obtain ⟨q1, q2, q3⟩ := hH.grow0 (w' := C.w.alloc (.cells cs e)) (blk := .arr y l (mdOf f) 0 none) (v' := .slice (some (at_ C.w.heap.size 0)) n n) (Fn := fun g p => g = C.w.heap.size) (tn := some y) (vnew := none) ⟨rfl, rfl, rfl, by simp, fun k hk => heap_alloc_old _ _ _ hk⟩ (fun v hv => by cases hv) (fun g p hg => by subst hg; exact ⟨Nat.le_refl _, by simp⟩) rfl (fun hle => by
      refine ⟨rfl, by simp, (fun e => by cases f <;> cases e), .inr ⟨C.w.heap.size, 0, n, ⟨by simp [hl], ⟨cs, e, heap_alloc_new _ _, by omega⟩, by omega, hn, fun p _ _ => by simp⟩, ?_⟩⟩
      have key : ∀ i x, l[i]? = some x → ∃ us, AtW (C.w.alloc (.cells cs e)) C.w.heap.size (0 + i * y.width) us ∧ Rd (C.w.alloc (.cells cs e)) (C.Sf f) y x us := fun i x hx =>
        ⟨_, row_cells hcs (by have := (List.getElem?_eq_some_iff.1 hx).1; omega), Rd.mono (fun _ _ h => h) (fun g p u _ hc => ((Chg.alloc C.w (.cells cs e) (fun _ _ => False)).kept (G := fun _ _ => True) (fun _ _ _ h => h)).cell g p u trivial hc) _ _ _ (hrd i x hx)⟩
      cases f <;> exact key)
  exact ⟨_, rfl, rfl, q1, q2, q3, rfl, by simp, by simp⟩

theorem LR.flat {C : Cx} {l : List Cell} {vs : List Value} (h : LR C l vs) : ∀ n, LR C (List.replicate n l).flatten (List.replicate n vs).flatten
  | 0 => trivial
  | n + 1 => by
    simp only [List.replicate_succ, List.flatten_cons]
    exact h.append (LR.flat h n)


section
variable {T : Nat → Option TI} (hT : TOK P T) {s : St} {nt : Nat} {a : Act} (hH : HeapR C) (hh : C.H = s.heap) (ht : TR C nt s.tmps a)
include hT hH hh ht

theorem make_b {k : AV → List Blk → Option R} {dst : Option Tmp} {type : TypeId} {pos : String} {after : Array Edge} {guard : Option (Nat × Bool)} {t : Nat} {x y : Operand}
    (h : makeK T s t (s.ev x) (s.ev y) k = some r) : GoodB P C r k a ⟨dst, .makeSlice t x y, type, pos, after, guard⟩ := by
  unfold makeK at h
  split at h
  · cases h
  rename_i ti hti
  obtain ⟨_, ⟨d, hu, _, hd⟩, _⟩ := hT t ti hti
  split at h
  case h_2 => cases h
  rename_i e hk
  rw [hk] at hd
  obtain rfl : d = .slice e := hd
  split at h
  · cases h
  rename_i te hte
  obtain ⟨⟨i, zv, hi, hs, hby, hz, hzs, hzr, hzu⟩, _⟩ := hT e te hte
  split at h
  case h_2 => cases h
  rename_i yt kn n kc c hyt hn hc
  obtain ⟨hw, h⟩ := beq_cond h
  split at h
  · cases h
  rename_i z hdz
  split at h
  case isFalse => cases h
  rename_i h0
  split at h
  case isFalse => cases h
  rename_i h1
  split at h
  case isFalse => cases h
  rename_i h2
  have en := ev_r ht x
  have ec := ev_r ht y
  rw [hn] at en
  rw [hc] at ec
  obtain en : a.eval x = .int kn n := en
  obtain ec : a.eval y = .int kc c := ec
  have hbytes : c.toNat * te.bytes ≤ 281474976710656 := Nat.le_trans (Nat.mul_le_mul_right _ h2) (Nat.div_mul_le_self _ _)
  have hc0 : 0 ≤ c := by omega
  have hpos := yt.width_pos
  have hby1 : (i.bytes : Int) * c ≤ 281474976710656 := by
    rw [hby]
    have h3 : ((c.toNat * te.bytes : Nat) : Int) ≤ 281474976710656 := by omega
    rw [Int.natCast_mul, Int.toNat_of_nonneg hc0, Int.mul_comm] at h3
    exact h3
  have h63 : c ≤ 9223372036854775807 := by
    have h3 : c.toNat ≤ 281474976710656 := Nat.le_trans h2 (Nat.div_le_self _ _)
    omega
  have hrun := run_make (P := P) C.w t e i zv hu hi hz kn kc n c h0 h1 hby1 h63
  have hcur : (madeCells zv.cells (c.toNat * i.size)).toList = (List.replicate c.toNat zv.cells.toList).flatten := by
    rw [hs]
    exact made_flat _ _ _ hzs (by omega)
  have hzl : zv.cells.toList.length = yt.width := by rw [← hw]; simpa using hzs
  have hnew := heap_alloc_new C.w (.cells (madeCells zv.cells (c.toNat * i.size)) e)
  obtain ⟨q1, q2, q3⟩ := hH.grow0 (w' := C.w.alloc (.cells (madeCells zv.cells (c.toNat * i.size)) e)) (blk := .arr yt (List.replicate n.toNat z) .un 0 none) (v' := .slice (some (at_ C.w.heap.size 0)) n.toNat c.toNat) (Fn := fun g p => g = C.w.heap.size) (tn := some yt) (vnew := some 0) ⟨rfl, rfl, rfl, by simp, fun k hk => heap_alloc_old _ _ _ hk⟩ (fun v hv => by cases hv; exact ⟨_, _, _, rfl⟩) (fun g p hg => by subst hg; exact ⟨Nat.le_refl _, by simp⟩) rfl (fun hle => by
    refine ⟨rfl, by simp, fun _ => by simp, .inr ⟨C.w.heap.size, 0, c.toNat, ⟨by simp, ⟨_, e, hnew, by rw [size_madeCells, hs, hw]; omega⟩, by rw [List.length_replicate]; omega, by unfold maxLen; omega, fun p _ _ => by simp⟩, fun _ _ _ => False, ⟨fun _ _ _ h => h.elim, fun _ _ h => h.elim, fun _ _ _ _ h => h.elim⟩, fun j u hu => ⟨zv.cells.toList, fun q v hq => ?_, ?_⟩⟩⟩
    · rw [List.getElem?_replicate] at hu
      split at hu
      case isFalse => cases hu
      rename_i hj
      have hql := (List.getElem?_eq_some_iff.1 hq).1
      rw [cell_at hnew, hcur, flat_get _ yt.width hzl hpos]
      have : (j + 1) * yt.width ≤ c.toNat * yt.width := Nat.mul_le_mul_right _ (by omega)
      rw [Nat.add_mul, Nat.one_mul] at this
      rw [if_pos (by omega), ← hq]
      congr 1
      rw [Nat.zero_add, Nat.mul_comm, Nat.mul_add_mod, Nat.mod_eq_of_lt (by omega)]
    · rw [List.getElem?_replicate] at hu
      split at hu
      case isFalse => cases hu
      cases hu
      exact decU _ _ _ _ _ (hzu (by rw [hyt]; rfl) _ _) hdz)
  refine .val (C' := _) (v := .slice (some (at_ C.w.heap.size 0)) n.toNat c.toNat) ?_ q1 q2 q3 ⟨rfl, rfl, rfl, by simp, fun k hk => heap_alloc_old _ _ _ hk⟩ (av := .c (.own C.H.length)) ?_ ?_
  · simpa [hh] using h
  · exact ⟨rfl, by simp, by simp⟩
  · simp [execOp, en, ec, hrun]

theorem buildSlice_b {k : AV → List Blk → Option R} {dst : Option Tmp} {type : TypeId} {pos : String} {after : Array Edge} {guard : Option (Nat × Bool)} {t n : Nat} {parts : Array (Nat × Operand)}
    (h : buildSliceK T s t n parts.toList k = some r) : GoodB P C r k a ⟨dst, .buildSlice t n parts, type, pos, after, guard⟩ := by
  unfold buildSliceK at h
  split at h
  · cases h
  rename_i ti hti
  obtain ⟨_, ⟨d, hu, _, hd⟩, _⟩ := hT t ti hti
  split at h
  case h_2 => cases h
  rename_i e hk
  rw [hk] at hd
  obtain rfl : d = .slice e := hd
  split at h
  · cases h
  rename_i te hte
  obtain ⟨⟨i, zv, hi, hs, hby, hz, hzs, hzr, hzu⟩, _⟩ := hT e te hte
  split at h
  case h_2 => cases h
  rename_i y hyt
  obtain ⟨hw, h⟩ := beq_cond h
  obtain ⟨hle, h⟩ := ble_cond h
  have hpos := y.width_pos
  have hmf := made_flat zv.cells te.size n hzs (by omega)
  obtain ⟨out, l0, h1, h2, h3⟩ := buildSlice_go ht parts.toList _ (madeCells zv.cells (n * te.size)) (by rw [hmf]; exact (hzr C).flat n) h
  have hos : out.size = n * y.width := by
    have fs : ∀ (ps : List (Nat × Value)) (cs out : Array Value), Instr.fill (fun i => some (i * te.size, te.size)) cs ps = some out → out.size = cs.size := by
      intro ps
      induction ps with
      | nil => intro cs out h; cases h; rfl
      | cons p ps ih =>
        intro cs out h
        obtain ⟨j, v⟩ := p
        simp only [Instr.fill] at h
        split at h
        · cases h
        · rw [ih _ _ h]
          have : ∀ (us : Array (Value × Nat)) (cs : Array Value), (us.foldl (fun cs (c, q) => cs.setIfInBounds (j * te.size + q) c) cs).size = cs.size := by
            intro us cs
            rw [← Array.foldl_toList]
            generalize us.toList = us'
            induction us' generalizing cs with
            | nil => rfl
            | cons u us' ih => rw [List.foldl_cons, ih]; simp
          exact this _ _
    rw [fs _ _ _ h1, size_madeCells, hw]
  have hmax : n ≤ maxLen := by
    have : n ≤ n * te.size := Nat.le_mul_of_pos_right _ (by omega)
    unfold maxLen; omega
  have hrun : (execOp a.eval ⟨dst, .buildSlice t n parts, type, pos, after, guard⟩).run P C.w = .ok (.value (.slice (some (at_ C.w.heap.size 0)) n n)) (C.w.alloc (.cells out e)) := by
    have h16 : ¬ (16777216 < n * te.size) := by omega
    by_cases h0 : n * te.size = 0
    · have hm0 : madeCells zv.cells (n * te.size) = #[] := by rw [h0]; simp [madeCells]
      rw [hm0] at h1
      simp [execOp, Instr.buildSlice, run_underlying hu, sizeOf, typeInfo, hi, hs, h16, h0, newRow]
      have h1' : Instr.fill (fun i => some (i * te.size, te.size)) (Array.map (fun _ => (default : Value)) (Array.range 0)) (List.map (fun x => (x.fst, a.eval x.snd)) parts.toList) = some out := by
        have hz0 : Array.map (fun _ => (default : Value)) (Array.range 0) = #[] := by apply Array.ext'; simp
        rw [hz0]
        exact h1
      rw [h1']
      simp
    · simp [execOp, Instr.buildSlice, run_underlying hu, sizeOf, typeInfo, zeroValue, hi, hz, hs, h16, h0, newRow]
      have h1' : Instr.fill (fun i => some (i * te.size, te.size)) (Array.map (fun x => zv.cells[x % zv.cells.size]!) (Array.range (n * te.size))) (List.map (fun x => (x.fst, a.eval x.snd)) parts.toList) = some out := h1
      rw [h1']
      simp
  simp only at h3
  split at h3
  case h_2 => cases h3
  rename_i l hl
  cases hm : movL s.heap s.heap.length l0
  · rw [hm] at h3
    simp only [cond_false] at h3
    obtain ⟨C1, k1, k2, k3, k4, k5, k6, k7⟩ := frz_r hH h2
    rw [hh] at k1 k6
    have hdr := decRows_r (f := fresh (frz s.heap l0).1) n _ l _ k6 hl id
    obtain ⟨C', m1, m2, m3, m4, m5, m6⟩ := k3.newRowF (e := e) (f := fresh (frz s.heap l0).1) (cs := out) hdr.1 (by simpa using hos) hmax hdr.2
    refine .val (C' := C') ?_ (k2.trans m3) m4 (k4.trans k2 m5) (by rw [m2, k5]; exact ⟨rfl, rfl, rfl, by simp, fun k hk => heap_alloc_old _ _ _ hk⟩) m6 ?_
    · rw [m1, k1]; exact h3
    · rw [m2, k5]; exact hrun
  · rw [hm] at h3
    simp only [cond_true] at h3
    obtain ⟨C', m1, m2, m3, m4, m5, m6⟩ := hH.newRowU (e := e) h2 (by rw [hh]; exact hm) (y := y) (by rw [hh]; exact hl) hos hmax
    refine .val (C' := C') ?_ m3 m4 m5 (by rw [m2]; exact ⟨rfl, rfl, rfl, by simp, fun k hk => heap_alloc_old _ _ _ hk⟩) m6 ?_
    · rw [m1, hh]
      rw [frz_len] at h3
      exact h3
    · rw [m2]; exact hrun
end
end
end Go.Proofs.YtcjfheidmlcbfaaGreatDoor.V
