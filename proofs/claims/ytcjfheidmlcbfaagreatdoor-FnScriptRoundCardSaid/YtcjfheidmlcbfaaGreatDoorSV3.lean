/- The interpreter's operations that leave memory alone are sound. -/
import Derived.Test.YtcjfheidmlcbfaaGreatDoorSV2
import Derived.Laws.Strings
import Derived.Laws.Small
import Derived.Laws.StructEq
import Derived.Laws.BytesString
set_option linter.unusedVariables false
set_option linter.unusedSimpArgs false
namespace Go.Proofs.YtcjfheidmlcbfaaGreatDoor.V
open Go.RowKit

def aggD : TypeDesc → Bool
  | .struct _ => true
  | .array _ _ => true
  | _ => false

/-- What the table says of a type is so. -/
structure TIok (P : Program) (t : Nat) (ti : TI) : Prop where
  info : ∃ i z, P.info? t = some i ∧ i.size = ti.size ∧ i.bytes = ti.bytes ∧ i.zero = some z ∧ z.cells.size = ti.size ∧ (∀ C, LR C ti.zero z.cells.toList) ∧ (ti.ty.isSome = true → ∀ w F, LU w ti.zero z.cells.toList F)
  desc : ∃ d, P.underlying t = some d ∧ aggD d = ti.agg ∧
    match ti.k with
    | .int k => d = .int k
    | .bool => d = .bool
    | .str => d = .string
    | .slice e => d = .slice e
    | .struct => ∃ fs : Array Field, d = .struct fs ∧ fs.size = ti.offs.length ∧ ∀ (f off sz : Nat), ti.offs[f]? = some (off, sz) → ∃ fl : Field, fs[f]? = some fl ∧ fl.offset = off ∧ ∃ i, P.info? fl.type = some i ∧ i.size = sz
    | .arr n e => d = .array n e ∧ (∃ de i, P.underlying e = some de ∧ aggD de = false ∧ P.info? e = some i ∧ i.size = 1) ∧ ∀ (f off sz : Nat), ti.offs[f]? = some (off, sz) → off = f ∧ sz = 1
    | .bld u => ∃ i, P.info? t = some i ∧ i.zero = some (.agg #[.pointer none, .slice none 0 0])
    | .other => True
  eqs : ti.eq = true → P.eqGuardType P.depth t = false ∧ ∀ ty, ti.ty = some ty → ∀ (w0 : World) (S0 : Foot) (a b : ty.den) (us vs : List Value), Rd w0 S0 ty a us → Rd w0 S0 ty b vs → ∀ w : World, (Op.equalIn 10000 t (.agg us.toArray) (.agg vs.toArray)).run P w = .ok (@decide (a = b) (ty.deq a b)) w

def TOK (P : Program) (T : Nat → Option TI) : Prop := ∀ t ti, T t = some ti → TIok P t ti

def Ext (w w' : World) : Prop := ∀ b, b < w.heap.size → w'.heap[b]? = w.heap[b]?

theorem Ext.get {w w' : World} (h : Ext w w') {b : Nat} {o : Obj} (hb : w.heap[b]? = some o) : w'.heap[b]? = some o := by
  rw [h b (Array.getElem?_eq_some_iff.1 hb).1]; exact hb

theorem cell_at {w : World} {g : Nat} {cs : Array Value} {ty : TypeId} {fr : Nat × Nat} (h : w.heap[g]? = some (.cells cs ty fr)) (o : Nat) : w.cell? (at_ g o) = cs.toList[o]? := by
  simp [World.cell?, h]
theorem cell_lt {w : World} {g p : Nat} {u : Value} (h : w.cell? (at_ g p) = some u) : g < w.heap.size := by
  unfold World.cell? at h
  cases hb : w.heap[g]? with
  | none => rw [hb] at h; cases h
  | some o => exact (Array.getElem?_eq_some_iff.1 hb).1
theorem Ext.cell {w w' : World} (h : Ext w w') {g p : Nat} {u : Value} (hb : w.cell? (at_ g p) = some u) : w'.cell? (at_ g p) = some u := by
  have := h g (cell_lt hb)
  unfold World.cell? at *
  simp only at *
  rw [this]
  exact hb

section
variable {P : Program} {R : Type} {C : Cx} {r : R}

/-- It yields, in this world and in whatever one that holds the same memory and more, a value that the walk goes on with. -/
def GoodV (P : Program) (C : Cx) (r : R) (k : AV → Option R) (X : Sem Value) : Prop :=
  ∃ v av, k av = some r ∧ AVR C av v ∧ ∀ w', Ext C.w w' → X.run P w' = .ok v w'
def GoodN (P : Program) (C : Cx) (r : R) (k : AV → Option R) (X : Sem Next) : Prop :=
  ∃ v av, k av = some r ∧ AVR C av v ∧ ∀ w', Ext C.w w' → X.run P w' = .ok (.value v) w'

/-- As GoodV, in every world. -/
def GoodW (P : Program) (C : Cx) (r : R) (k : AV → Option R) (X : Sem Value) : Prop :=
  ∃ v av, k av = some r ∧ AVR C av v ∧ ∀ w', X.run P w' = .ok v w'
theorem GoodW.n {k : AV → Option R} {X : Sem Value} (h : GoodW P C r k X) : GoodN P C r k (do pure (.value (← X))) := by
  obtain ⟨v, av, h1, h2, h3⟩ := h
  exact ⟨v, av, h1, h2, fun w' _ => by simp [h3 w']⟩
theorem GoodW.u {k : AV → Option R} {X : Sem Value} (h : GoodW P C r k X) : ∃ v av, k av = some r ∧ AVR C av v ∧ ∀ w', (do pure (.value (← X)) : Sem Next).run P w' = .ok (.value v) w' := by
  obtain ⟨v, av, h1, h2, h3⟩ := h
  exact ⟨v, av, h1, h2, fun w' => by simp [h3 w']⟩

theorem GoodV.n {k : AV → Option R} {X : Sem Value} (h : GoodV P C r k X) : GoodN P C r k (do pure (.value (← X))) := by
  obtain ⟨v, av, h1, h2, h3⟩ := h
  exact ⟨v, av, h1, h2, fun w' hw => by simp [h3 w' hw]⟩

theorem addr_add (g o n : Nat) : (⟨g, o, none⟩ : Addr).add n = ⟨g, o + n, none⟩ := by
  unfold Addr.add; split <;> simp_all

theorem bool_cond {b : Bool} {x : Option R} (h : cond b x none = some r) : b = true ∧ x = some r := by
  cases b
  · cases h
  · exact ⟨rfl, h⟩
theorem beq_cond {a b : Nat} {x : Option R} (h : cond (Nat.beq a b) x none = some r) : a = b ∧ x = some r := by
  obtain ⟨h1, h2⟩ := bool_cond h
  exact ⟨Nat.eq_of_beq_eq_true h1, h2⟩
theorem ble_cond {a b : Nat} {x : Option R} (h : cond (Nat.ble a b) x none = some r) : a ≤ b ∧ x = some r := by
  obtain ⟨h1, h2⟩ := bool_cond h
  exact ⟨Nat.le_of_ble_eq_true h1, h2⟩

theorem sameO_r {x y : Option R} (h : sameO x y = some r) : x = some r ∧ y = some r := by
  unfold sameO at h
  split at h
  · rename_i e; exact ⟨h, e ▸ h⟩
  · cases h
theorem condC_r {c : Cell} {v : Value} {x y : Option R} (hc : CellR C c v) (h : condC c x y = some r) : ∃ b, v = .bool b ∧ (bif b then x else y) = some r := by
  cases c <;> simp only [condC, CellR] at h hc
  case lit b => exact ⟨b, hc, by cases b <;> exact h⟩
  case bool b => exact ⟨b, hc, by cases b <;> simpa using h⟩
  case nbool b => exact ⟨!b, hc, by cases b <;> simpa using h⟩
  case prop p d => exact ⟨_, hc, by cases d <;> simpa [*] using h⟩
  case nprop p d => exact ⟨_, hc, by cases d <;> simpa [*] using h⟩
  case isn n =>
    obtain ⟨b, rfl, hb⟩ := hc
    refine ⟨b, rfl, ?_⟩
    split at h
    · obtain ⟨h1, h2⟩ := sameO_r h
      cases b
      · exact h2
      · exact h1
    · rename_i hn
      rw [hb hn]
      exact h
  case nisn n =>
    obtain ⟨b, rfl, hb⟩ := hc
    refine ⟨!b, rfl, ?_⟩
    split at h
    · obtain ⟨h1, h2⟩ := sameO_r h
      cases b
      · exact h1
      · exact h2
    · rename_i hn
      rw [hb hn]
      exact h
  all_goals cases h
theorem condA_r {c : AV} {v : Value} {x y : Option R} (hc : AVR C c v) (h : condA c x y = some r) : ∃ b, v = .bool b ∧ (bif b then x else y) = some r := by
  cases c with
  | c c => exact condC_r hc h
  | agg l => cases h
  | tup l => cases h

theorem mkV_r {agg : Bool} {cs : List Cell} {k : AV → Option R} (h : mkV agg cs k = some r) : (agg = true ∧ k (.agg cs) = some r) ∨ (agg = false ∧ ∃ x, cs = [x] ∧ k (.c x) = some r) := by
  cases agg
  · refine .inr ⟨rfl, ?_⟩
    simp only [mkV] at h
    split at h
    · rename_i x; exact ⟨x, rfl, h⟩
    · cases h
  · exact .inl ⟨rfl, h⟩

theorem enc_r {f : Bool} : ∀ (t : Ty) (x : t.den) (vs : List Value), Rd C.w (C.Sf f) t x vs → LR C (enc f t x) vs := by
  intro t
  induction t with
  | int k => intro x vs h; obtain rfl : vs = _ := h; exact ⟨rfl, trivial⟩
  | bool => intro x vs h; obtain rfl : vs = _ := h; exact ⟨rfl, trivial⟩
  | str => intro x vs h; obtain rfl : vs = _ := h; exact ⟨rfl, trivial⟩
  | sl t ih =>
    intro x vs h
    obtain ⟨A, cap, hv, h2⟩ := h
    subst hv
    exact ⟨⟨A, cap, rfl, h2⟩, trivial⟩
  | pair a b iha ihb =>
    intro x vs h
    rw [← List.take_append_drop a.width vs]
    exact (iha _ _ h.1).append (ihb _ _ h.2)

theorem enc_length (f : Bool) : ∀ (t : Ty) (x : t.den), (enc f t x).length = t.width := by
  intro t
  induction t with
  | pair a b iha ihb => intro x; simp [enc, Ty.width, iha, ihb]
  | _ => intro x; rfl

theorem run_isAgg {t : Nat} {d : TypeDesc} (hu : P.underlying t = some d) (w : World) : (isAgg t).run P w = .ok (aggD d) w := by
  unfold isAgg
  rw [Sem.run_bind, run_underlying hu w]
  cases d <;> rfl

theorem fresh_iff : ∀ l : List Cell, fresh l = true ↔ ∀ c ∈ l, freshC c = true
  | [] => by simp [fresh]
  | c :: l => by
    simp only [fresh, List.mem_cons, forall_eq_or_imp]
    cases freshC c <;> simp [fresh_iff l]

theorem dec_r {f : Bool} : ∀ (t : Ty) (cs : List Cell) (x : t.den) (vs : List Value), LR C cs vs → dec t cs = some x → (f = true → fresh cs = true) → Rd C.w (C.Sf f) t x vs := by
  intro t
  induction t with
  | int k =>
    intro cs x vs hl h hf
    simp only [dec] at h
    split at h
    case h_2 => cases h
    rename_i k' n
    split at h
    case isFalse => cases h
    rename_i e
    cases h
    subst e
    match vs, hl with
    | [v], hl => obtain ⟨rfl, _⟩ := hl; rfl
    | v :: _ :: _, hl => exact hl.2.elim
  | bool =>
    intro cs x vs hl h hf
    simp only [dec] at h
    split at h
    case h_2 => cases h
    rename_i c
    match vs, hl with
    | [v], hl =>
      have hc := hl.1
      cases c <;> simp only [Cell.toB, Option.some.injEq] at h <;> first | (cases h; done) | (subst h; obtain rfl : v = _ := hc; rfl)
    | v :: _ :: _, hl => exact hl.2.elim
  | str =>
    intro cs x vs hl h hf
    simp only [dec] at h
    split at h
    case h_2 => cases h
    rename_i s
    cases h
    match vs, hl with
    | [v], hl => obtain ⟨rfl, _⟩ := hl; rfl
    | v :: _ :: _, hl => exact hl.2.elim
  | sl t ih =>
    intro cs x vs hl h hf
    simp only [dec] at h
    split at h
    · rename_i fl t' l
      split at h
      case isFalse => cases h
      rename_i e
      cases h
      subst e
      match vs, hl with
      | [v], hl =>
        refine Rd.mono (fun g p hb => ⟨hb.1, fun e => hb.2 ?_⟩) (fun _ _ _ _ h => h) (.sl t') l [v] hl.1
        have := (fresh_iff _).1 (hf e) _ (List.mem_singleton.2 rfl)
        simpa [freshC] using this
      | v :: _ :: _, hl => exact hl.2.elim
    · cases h
      match vs, hl with
      | [v], hl => obtain ⟨rfl, _⟩ := hl; exact ⟨none, 0, rfl, Nat.le_refl _, fun h => absurd rfl h⟩
      | v :: _ :: _, hl => exact hl.2.elim
    · cases h
  | pair a b iha ihb =>
    intro cs x vs hl h hf
    simp only [dec] at h
    split at h
    · cases h
    rename_i xa ha
    split at h
    · cases h
    rename_i xb hb
    cases h
    exact ⟨iha _ _ _ (hl.take _) ha fun e => (fresh_iff _).2 fun c hc => (fresh_iff _).1 (hf e) c (List.mem_of_mem_take hc),
      ihb _ _ _ (hl.drop _) hb fun e => (fresh_iff _).2 fun c hc => (fresh_iff _).1 (hf e) c (List.mem_of_mem_drop hc)⟩

theorem enc_fresh : ∀ (t : Ty) (x : t.den), fresh (enc true t x) = true := by
  intro t
  induction t with
  | pair a b iha ihb =>
    intro x
    rw [fresh_iff]
    intro c hc
    rcases List.mem_append.1 hc with h | h
    · exact (fresh_iff _).1 (iha _) c h
    · exact (fresh_iff _).1 (ihb _) c h
  | _ => intro x; rfl


/-- A load out of cells that are known. -/
theorem load_cut {t : Nat} {ti : TI} (hti : TIok P t ti) {l : List Cell} {vs : List Value} (hl : LR C l vs) {o : Nat} {k : AV → Option R} (h : cutK ti l o k = some r) {g base : Nat}
    (hc : ∀ w', Ext C.w w' → ∀ j v, vs[j]? = some v → w'.cell? ⟨g, base + j, none⟩ = some v) : GoodV P C r k (loadVar t ⟨g, base + o, none⟩) := by
  obtain ⟨hle, hm⟩ := ble_cond h
  obtain ⟨⟨i, z, hi, hs, _⟩, ⟨d, hu, ha, _⟩, _⟩ := hti
  have hlr := (hl.drop o).take ti.size
  have hlen := hlr.length
  have hln : ((l.drop o).take ti.size).length = ti.size := by rw [List.length_take, List.length_drop]; omega
  rw [hln] at hlen
  rcases mkV_r hm with ⟨hag, hk⟩ | ⟨hag, x, hx, hk⟩
  · refine ⟨.agg ((vs.drop o).take ti.size).toArray, _, hk, ⟨_, rfl, by simpa using hlr⟩, fun w' hw => ?_⟩
    have hld := run_loadCells_list (P := P) w' ⟨g, base + o, none⟩ ((vs.drop o).take ti.size) (fun j v hv => by
      rw [addr_add, Nat.add_assoc]
      refine hc w' hw (o + j) v ?_
      rw [List.getElem?_take] at hv
      split at hv
      · rw [List.getElem?_drop] at hv; exact hv
      · cases hv)
    rw [hlen] at hld
    simp [loadVar, run_isAgg hu, ha, hag, sizeOf, typeInfo, hi, hs, hld]
  · rw [hx] at hlr hln
    have hsz : ti.size = 1 := by simpa using hln.symm
    cases hvs : (vs.drop o).take ti.size with
    | nil => rw [hvs] at hlr; exact hlr.elim
    | cons v rest =>
      rw [hvs] at hlr
      refine ⟨v, _, hk, hlr.1, fun w' hw => ?_⟩
      have hv : vs[o]? = some v := by
        have h1 := congrArg (·[0]?) hvs
        simp only [List.getElem?_cons_zero, List.getElem?_take, hsz] at h1
        simpa using h1
      have := hc w' hw o v hv
      simp [loadVar, run_isAgg hu, ha, hag, this]

/-- The values that cells of the call's own hold. -/
theorem cells_vals {g off : Nat} {cs : Array Value} {ty : TypeId} {l : List Cell} {F : Foot} (hg : C.w.heap[g]? = some (Obj.cells cs ty (0, 0))) (hle : off + l.length ≤ cs.size)
    (hl : ∀ j c, l[j]? = some c → c = .undef ∨ (F g (off + j) ∧ ∃ u, C.w.cell? (at_ g (off + j)) = some u ∧ CellR C c u)) : LR C l ((cs.toList.drop off).take l.length) := by
  refine LR.of (by simp; omega) fun i c v h1 h2 => ?_
  rcases hl i c h1 with rfl | ⟨_, u, h3, h4⟩
  · trivial
  · rw [cell_at hg] at h3
    have hi := (List.getElem?_eq_some_iff.1 h1).1
    rw [List.getElem?_take_of_lt hi, List.getElem?_drop, h3] at h2
    cases h2
    exact h4

theorem encM_flat {m : Md} {b i v : Nat} : ∀ (t : Ty) (x : t.den) (o : Nat), (encM m b i v t x o).length = t.width := by
  intro t
  induction t with
  | pair a b iha ihb => intro x o; simp [encM, Ty.width, iha, ihb]
  | sl t ih => intro x o; rfl
  | _ => intro x o; rfl

theorem slAt_lt : ∀ (t : Ty) (q : Nat), slAt t q = true → q < t.width := by
  intro t
  induction t with
  | sl t ih => intro q hq; simp only [slAt] at hq; have := Nat.eq_of_beq_eq_true hq; simp [Ty.width]; omega
  | pair c d ihc ihd =>
    intro q hq
    simp only [slAt] at hq
    cases hb : Nat.blt q c.width
    · rw [hb] at hq
      have := ihd (q - c.width) hq
      simp only [Ty.width]
      omega
    · have := Nat.le_of_ble_eq_true hb
      simp only [Ty.width]
      omega
  | int k => intro q hq; cases hq
  | bool => intro q hq; cases hq
  | str => intro q hq; cases hq

/-- A slice among the cells of a datum that is held alone. -/
theorem getF_r {w : World} : ∀ (t : Ty) (x : t.den) (us : List Value) (F : Foot) (o : Nat) (u : Ty) (l : List u.den), RdU w t x us F → getF t x o = some ⟨u, l⟩ → slAt t o = true ∧ ∃ v F', us[o]? = some v ∧ (∀ g p, F' g p → F g p) ∧ RdU w (.sl u) l [v] F' := by
  intro t
  induction t with
  | int k => intro x us F o u l _ h; cases h
  | bool => intro x us F o u l _ h; cases h
  | str => intro x us F o u l _ h; cases h
  | sl t ih =>
    intro x us F o u l hr h
    cases o with
    | succ o => cases h
    | zero =>
      simp only [getF, Option.some.injEq] at h
      cases h
      obtain ⟨v, rfl, hv⟩ := hr
      exact ⟨rfl, v, F, rfl, fun _ _ h => h, v, rfl, hv⟩
  | pair a b iha ihb =>
    intro x us F o u l hr h
    obtain ⟨Fa, Fb, h1, h2, h3, ha, hb⟩ := hr
    simp only [getF] at h
    simp only [slAt]
    cases e : Nat.blt o a.width
    · rw [e] at h
      have hge : a.width ≤ o := by
        rcases Nat.lt_or_ge o a.width with q | q
        · have := Nat.ble_eq_true_of_le q; rw [show Nat.blt o a.width = true from this] at e; cases e
        · exact q
      obtain ⟨k1, v, F', k2, k3, k4⟩ := ihb _ _ _ _ _ _ hb h
      refine ⟨k1, v, F', ?_, fun g p h => h2 g p (k3 g p h), k4⟩
      rw [List.getElem?_drop] at k2
      rw [← k2]; congr 1; omega
    · rw [e] at h
      have hlt := Nat.le_of_ble_eq_true e
      obtain ⟨k1, v, F', k2, k3, k4⟩ := iha _ _ _ _ _ _ ha h
      refine ⟨k1, v, F', ?_, fun g p h => h1 g p (k3 g p h), k4⟩
      rw [List.getElem?_take] at k2
      split at k2
      · exact k2
      · cases k2

/-- Element i of a row, held alone. -/
theorem encU_r {T : Ty} {b i ver g off n cap : Nat} (hb : b < C.H.length) (hsh : C.sh b = some T) (hρ : C.ρ b = .slice (some (at_ g off)) n cap) (hi : i < n) (hvn : C.vn b = some ver) :
    ∀ (t : Ty) (x : t.den) (o : Nat) (us : List Value) (F : Foot), RdU C.w t x us F → AtW C.w g (off + i * T.width + o) us → (∀ q, slAt t q = true → slAt T (o + q) = true) → LR C (encM .un b i ver t x o) us := by
  intro t
  induction t with
  | int k => intro x o us F h _ _; obtain rfl : us = _ := h; exact ⟨rfl, trivial⟩
  | bool => intro x o us F h _ _; obtain rfl : us = _ := h; exact ⟨rfl, trivial⟩
  | str => intro x o us F h _ _; obtain rfl : us = _ := h; exact ⟨rfl, trivial⟩
  | sl t ih =>
    intro x o us F h ha hs
    have h1 := h.one
    obtain ⟨v, rfl, _⟩ := h
    refine ⟨⟨h1 v (by simp), hb, fun v0 e => ?_⟩, trivial⟩
    rw [hvn] at e
    cases e
    refine ⟨Nat.le_refl _, fun _ => ⟨T, g, off, n, cap, hsh, by simpa using hs 0 rfl, hρ, hi, ?_⟩⟩
    simpa using ha 0 v rfl
  | pair a b iha ihb =>
    intro x o us F h ha hs
    obtain ⟨Fa, Fb, _, _, _, h1, h2⟩ := h
    have hl := h1.length
    rw [← List.take_append_drop a.width us]
    refine LR.append (iha _ _ _ _ h1 (fun j u hj => ?_) fun q hq => ?_) (ihb _ _ _ _ h2 (fun j u hj => ?_) fun q hq => ?_)
    · rw [List.getElem?_take] at hj
      split at hj
      · exact ha j u hj
      · cases hj
    · refine hs q ?_
      have hlt := slAt_lt a q hq
      simp only [slAt]
      rw [show Nat.blt q a.width = true from Nat.ble_eq_true_of_le hlt]
      exact hq
    · rw [List.getElem?_drop] at hj
      have := ha _ u hj
      rw [← this]
      congr 2
      omega
    · have := hs (a.width + q) ?_
      · rw [Nat.add_assoc]; exact this
      · simp only [slAt]
        have : Nat.blt (a.width + q) a.width = false := by
          cases e : Nat.blt (a.width + q) a.width
          · rfl
          · have := Nat.le_of_ble_eq_true e; omega
        rw [this, Nat.add_sub_cancel_left]
        exact hq

theorem encM_enc (m : Md) (hm : m ≠ .un) (b i v : Nat) : ∀ (t : Ty) (x : t.den) (o : Nat), encM m b i v t x o = enc (!m.isSh) t x := by
  intro t
  induction t with
  | pair a b iha ihb => intro x o; simp [encM, enc, iha, ihb]
  | sl t ih => intro x o; cases m <;> first | exact absurd rfl hm | rfl
  | _ => intro x o; rfl

/-- An element of a row of the call's own: where it stands, what it is. -/
theorem row_elem (hH : HeapR C) {b : Nat} {t : Ty} {l : List t.den} {m : Md} {ver : Nat} (hb : C.H[b]? = some (.arr t l m ver none)) {i : Nat} (hi : i < l.length) :
    ∃ g off cap us, Room C.w (C.fp b) t.width (C.ρ b) l.length g off cap ∧ AtW C.w g (off + i * t.width) us ∧ us.length = t.width ∧ (m = .un → ∃ F, (∀ g p, F g p → C.fp b g p) ∧ RdU C.w t (l.getD i t.zero) us F) ∧ (m ≠ .un → Rd C.w (C.Sf (!m.isSh)) t (l.getD i t.zero) us) ∧ LR C (encM m b i ver t (l.getD i t.zero) 0) us := by
  obtain ⟨_, hsh, hvn, hr⟩ := hH.blk b _ hb
  have hbl := (List.getElem?_eq_some_iff.1 hb).1
  have hget : l[i]? = some (l.getD i t.zero) := by rw [List.getD_eq_getElem?_getD, List.getElem?_eq_getElem hi]; rfl
  rcases hr with ⟨hl, _⟩ | ⟨g, off, cap, hroom, hels⟩
  · subst hl; simp at hi
  · cases m with
    | un =>
      obtain ⟨G, hn, hx⟩ := hels
      obtain ⟨us, h1, h2⟩ := hx i _ hget
      exact ⟨g, off, cap, us, hroom, h1, RdU.length _ _ _ _ h2, fun _ => ⟨G i, hn.sub i, h2⟩, fun e => absurd rfl e, encU_r hbl hsh hroom.val hi (hvn rfl) t _ 0 us _ h2 (by simpa using h1) (fun q hq => by simpa using hq)⟩
    | fr =>
      obtain ⟨us, h1, h2⟩ := hels i _ hget
      refine ⟨g, off, cap, us, hroom, h1, Rd.length _ _ _ h2, (fun e => (Md.noConfusion e : False).elim), fun _ => h2, ?_⟩
      rw [encM_enc _ (by simp)]
      exact enc_r t _ _ h2
    | sh =>
      obtain ⟨us, h1, h2⟩ := hels i _ hget
      refine ⟨g, off, cap, us, hroom, h1, Rd.length _ _ _ h2, (fun e => (Md.noConfusion e : False).elim), fun _ => h2, ?_⟩
      rw [encM_enc _ (by simp)]
      exact enc_r t _ _ h2

theorem row_nil (hH : HeapR C) {b : Nat} {t : Ty} {l : List t.den} {m : Md} {ver : Nat} {h : Option (Nat × Nat)} (hb : C.H[b]? = some (.arr t l m ver h)) : (l = [] ∧ ∃ A, C.ρ b = .slice A 0 0) ∨ ∃ g off cap, Room C.w (C.fp b) t.width (C.ρ b) l.length g off cap := by
  obtain ⟨_, hsh, hvn, hr⟩ := hH.blk b _ hb
  cases h with
  | none =>
    rcases hr with h | ⟨g, off, cap, hroom, _⟩
    · exact .inl h
    · exact .inr ⟨g, off, cap, hroom⟩
  | some q =>
    obtain ⟨_, g, off, cap, G, hroom, _⟩ := hr
    exact .inr ⟨g, off, cap, hroom⟩

theorem nst_data (hH : HeapR C) {b i o ver : Nat} {t : Ty} {l : List t.den} {v : Value} (hb : C.H[b]? = some (.arr t l .un ver none)) (hc : CellR C (.nst b i o ver) v) {u : Ty} {l' : List u.den} (hg : getF t (l.getD i t.zero) o = some ⟨u, l'⟩) :
    ∃ F, (∀ g p, F g p → C.fp b g p) ∧ RdU C.w (.sl u) l' [v] F := by
  obtain ⟨_, _, h3⟩ := hc
  obtain ⟨_, hsh, hvn, _⟩ := hH.blk b _ hb
  obtain ⟨_, h5⟩ := h3 ver (hvn rfl)
  obtain ⟨t', g, off, n, cap, q1, q2, q3, q4, q5⟩ := h5 rfl
  rw [hsh] at q1
  cases q1
  rcases row_nil hH hb with ⟨_, A, hA⟩ | ⟨g0, off0, cap0, hroom0⟩
  · rw [q3] at hA; cases hA; omega
  have hval := hroom0.val
  rw [q3] at hval
  obtain ⟨⟨rfl, rfl⟩, rfl, rfl⟩ : (g = g0 ∧ off = off0) ∧ n = l.length ∧ cap = cap0 := by simpa using hval
  obtain ⟨g1, off1, cap1, us, hroom, hat, hlen, hun, _, _⟩ := row_elem hH hb q4
  have hval := hroom.val
  rw [q3] at hval
  obtain ⟨⟨rfl, rfl⟩, rfl⟩ : (g = g1 ∧ off = off1) ∧ cap = cap1 := by simpa using hval
  obtain ⟨F, hF, hrd⟩ := hun rfl
  obtain ⟨_, v', F', k1, k2, k3⟩ := getF_r t _ _ _ _ _ _ hrd hg
  have := hat _ _ k1
  rw [q5] at this
  cases this
  exact ⟨F', fun g p h => hF g p (k2 g p h), k3⟩

theorem getF_el : ∀ (t : Ty) (x : t.den) (o : Nat) (u : Ty) (l : List u.den), getF t x o = some ⟨u, l⟩ → elAt t o = some u := by
  intro t
  induction t with
  | int k => intro x o u l h; cases h
  | bool => intro x o u l h; cases h
  | str => intro x o u l h; cases h
  | sl t ih =>
    intro x o u l h
    cases o with
    | succ o => cases h
    | zero => simp only [getF, Option.some.injEq] at h; cases h; rfl
  | pair a b iha ihb =>
    intro x o u l h
    simp only [getF] at h
    simp only [elAt]
    cases e : Nat.blt o a.width
    · rw [e] at h; exact ihb _ _ _ _ h
    · rw [e] at h; exact iha _ _ _ _ h
/-- The slice that a pointer into an element's slice leads into. -/
theorem neptr_nst (hH : HeapR C) {b i o ver j q : Nat} {t : Ty} {l : List t.den} {v : Value} (hb : C.H[b]? = some (.arr t l .un ver none)) (hc : CellR C (.neptr b i o ver j q) v) {u : Ty} {l' : List u.den} (hg : getF t (l.getD i t.zero) o = some ⟨u, l'⟩) :
    ∃ g off n cap, CellR C (.nst b i o ver) (.slice (some (at_ g off)) n cap) ∧ j < n ∧ v = .pointer (some (at_ g (off + j * u.width + q))) := by
  obtain ⟨_, _, h2, h3⟩ := hc
  obtain ⟨_, hsh, hvn, _⟩ := hH.blk b _ hb
  obtain ⟨_, h5⟩ := h3 ver (hvn rfl)
  obtain ⟨t1, g, off, n, cap, u1, g', off', n', cap', q1, q2, q3, q4, q5, q6, q7, q8⟩ := h5 rfl
  have q1' := q1
  rw [hsh] at q1
  cases q1
  rw [getF_el _ _ _ _ _ hg] at q3
  cases q3
  refine ⟨g', off', n', cap', ⟨rfl, h2, fun v0 e => ?_⟩, q7, q8⟩
  rw [hvn rfl] at e
  cases e
  exact ⟨Nat.le_refl _, fun _ => ⟨t, g, off, n, cap, q1', q2, q4, q5, q6⟩⟩
theorem nsv_nst (hH : HeapR C) {b i o ver lo : Nat} {t : Ty} {l : List t.den} {v : Value} (hb : C.H[b]? = some (.arr t l .un ver none)) (hc : CellR C (.nsv b i o ver lo) v) {u : Ty} {l' : List u.den} (hg : getF t (l.getD i t.zero) o = some ⟨u, l'⟩) :
    ∃ g off n cap, CellR C (.nst b i o ver) (.slice (some (at_ g off)) n cap) ∧ lo < n ∧ v = .slice (some (at_ g (off + lo * u.width))) (n - lo) (cap - lo) := by
  obtain ⟨_, h2, h3⟩ := hc
  obtain ⟨_, hsh, hvn, _⟩ := hH.blk b _ hb
  obtain ⟨_, h5⟩ := h3 ver (hvn rfl)
  obtain ⟨t1, g, off, n, cap, u1, g', off', n', cap', q1, q2, q3, q4, q5, q6, q7, q8⟩ := h5 rfl
  have q1' := q1
  rw [hsh] at q1
  cases q1
  rw [getF_el _ _ _ _ _ hg] at q3
  cases q3
  refine ⟨g', off', n', cap', ⟨rfl, h2, fun v0 e => ?_⟩, q7, q8⟩
  rw [hvn rfl] at e
  cases e
  exact ⟨Nat.le_refl _, fun _ => ⟨t, g, off, n, cap, q1', q2, q4, q5, q6⟩⟩
/-- An element of a slice that is held alone. -/
theorem rdU_el {w : World} {u : Ty} {l : List u.den} {g off n cap : Nat} {F : Foot} (h : RdU w (.sl u) l [.slice (some (at_ g off)) n cap] F) {j : Nat} (hj : j < n) :
    n = l.length ∧ Room w F u.width (.slice (some (at_ g off)) n cap) l.length g off cap ∧ ∃ us F', AtW w g (off + j * u.width) us ∧ RdU w u (l.getD j u.zero) us F' := by
  obtain ⟨v, hv, h⟩ := h
  cases hv
  rcases h with ⟨_, A, hA⟩ | ⟨g0, off0, cap0, G, hroom, hn, hx⟩
  · cases hA; omega
  · have hval := hroom.val
    obtain ⟨⟨rfl, rfl⟩, rfl, rfl⟩ : (g = g0 ∧ off = off0) ∧ n = l.length ∧ cap = cap0 := by simpa using hval
    have hget : l[j]? = some (l.getD j u.zero) := by rw [List.getD_eq_getElem?_getD, List.getElem?_eq_getElem hj]; rfl
    obtain ⟨us, h1, h2⟩ := hx j _ hget
    exact ⟨rfl, hroom, us, _, h1, h2⟩

theorem loadK_r {T : Nat → Option TI} (hT : TOK P T) {s : St} (hH : HeapR C) (hh : C.H = s.heap) {t : Nat} {p : AV} {v : Value} (hp : AVR C p v) {k : AV → Option R} (h : loadK T s t p k = some r) :
    GoodV P C r k (Instr.loadAt t v) := by
  unfold loadK at h
  split at h
  · cases h
  rename_i ti hti
  have hok := hT t ti hti
  split at h
  · -- a variable of the call's own
    rename_i b o
    split at h
    · rename_i ty l hb
      rw [← hh] at hb
      obtain ⟨_, _, g', off', hr, rfl⟩ := (hp : CellR C (.ptr b o) v)
      obtain ⟨_, g, off, cs, ty', hρ, hg, hle, hl⟩ := hH.blk b _ hb
      rw [hρ] at hr
      obtain ⟨rfl, rfl⟩ : g = g' ∧ off = off' := by simpa using hr
      have := load_cut (g := g) (base := off) hok (cells_vals hg hle hl) h (fun w' hw j u hu => by
        rw [cell_at (hw.get hg)]
        rw [List.getElem?_take] at hu
        split at hu
        · rw [List.getElem?_drop] at hu; exact hu
        · cases hu)
      simpa [Instr.loadAt, Instr.sureAddr] using this
    · cases h
  · rename_i b i o
    split at h
    · rename_i y l m ver hb
      rw [← hh] at hb
      obtain ⟨_, _, t', g', off', n, cap', hsh, hr, hlt, rfl⟩ := (hp : CellR C (.eptr b i o) v)
      obtain ⟨_, hsh', _⟩ := hH.blk b _ hb
      rw [hsh] at hsh'
      cases hsh'
      rcases row_nil hH hb with ⟨_, A, hA⟩ | ⟨g0, off0, cap0, hroom0⟩
      · rw [hr] at hA; cases hA; omega
      have hval := hroom0.val
      rw [hr] at hval
      obtain ⟨⟨rfl, rfl⟩, rfl, rfl⟩ : (g' = g0 ∧ off' = off0) ∧ n = l.length ∧ cap' = cap0 := by simpa using hval
      obtain ⟨g, off, cap, us, hroom, hat, hlen, _, _, hlr⟩ := row_elem hH hb hlt
      have hval := hroom.val
      rw [hr] at hval
      obtain ⟨⟨rfl, rfl⟩, rfl⟩ : (g' = g ∧ off' = off) ∧ cap' = cap := by simpa using hval
      have := load_cut (g := g') (base := off' + i * y.width) hok hlr h (fun w' hw j u hu => hw.cell (hat j u hu))
      simpa [Instr.loadAt, Instr.sureAddr] using this
    · rename_i y l m hb
      rw [← hh] at hb
      split at h
      case isFalse => cases h
      rename_i hn
      obtain ⟨_, _, t', g', off', n', cap', hsh, hr, hlt, rfl⟩ := (hp : CellR C (.eptr b i o) v)
      obtain ⟨hsh', hrow⟩ := hH.blk b _ hb
      rw [hsh] at hsh'
      cases hsh'
      rcases hrow with ⟨_, A, hA⟩ | ⟨g, off, cap, G, hroom, hnest, hall⟩
      · rw [hr] at hA; cases hA; omega
      have hval := hroom.val
      rw [hr] at hval
      obtain ⟨⟨rfl, rfl⟩, rfl, rfl⟩ : (g' = g ∧ off' = off) ∧ n' = l.length ∧ cap' = cap := by simpa using hval
      obtain ⟨us, hat, _, hrd⟩ := hall i (l.getD i y.zero) (by rw [List.getD_eq_getElem?_getD, List.getElem?_eq_getElem hlt]; rfl)
      have := load_cut (g := g') (base := off' + i * y.width) hok (enc_r (f := false) y _ _ (hrd hn)) h (fun w' hw j u hu => hw.cell (hat j u hu))
      simpa [Instr.loadAt, Instr.sureAddr] using this
    · cases h
  · rename_i f y x o
    obtain ⟨g, off, us, hat, hrd, rfl⟩ := (hp : CellR C (.sptr f y x o) v)
    have := load_cut (g := g) (base := off) hok (enc_r y _ _ hrd) h (fun w' hw j u hu => hw.cell (hat j u hu).2)
    simpa [Instr.loadAt, Instr.sureAddr] using this
  · rename_i b i o ver j q
    split at h
    case h_2 => cases h
    rename_i y l ver' hb
    rw [← hh] at hb
    cases hv : Nat.beq ver' ver
    · rw [hv] at h; cases h
    have := Nat.eq_of_beq_eq_true hv
    subst this
    rw [hv] at h
    simp only [cond_true] at h
    split at h
    case h_2 => cases h
    rename_i u l' hg
    obtain ⟨hfl, h⟩ := bool_cond h
    obtain ⟨g, off, n, cap, h1, h2, rfl⟩ := neptr_nst hH hb (hp : CellR C (.neptr b i o ver' j q) v) hg
    obtain ⟨F, _, hF⟩ := nst_data hH hb h1 hg
    obtain ⟨_, _, us, F', hat, hrd⟩ := rdU_el hF h2
    have := load_cut (g := g) (base := off + j * u.width) hok (enc_r (f := false) u _ _ (Rd.flat (S := F') u _ _ hfl (RdU.rd u _ _ F' (fun _ _ h => h) hrd))) h (fun w' hw m x hm => hw.cell (hat m x hm))
    simpa [Instr.loadAt, Instr.sureAddr] using this
  · cases h

theorem fieldAddrK_r {T : Nat → Option TI} (hT : TOK P T) {s : St} (hh : C.H = s.heap) {t : Nat} {p : AV} {v : Value} (hp : AVR C p v) {f : Nat} {k : AV → Option R} (h : fieldAddrK T s t p f k = some r) :
    GoodW P C r k (Instr.fieldAt t v f) := by
  unfold fieldAddrK at h
  split at h
  · cases h
  rename_i ti hti
  obtain ⟨_, ⟨d, hu, ha, hd⟩, _⟩ := hT t ti hti
  split at h
  case h_2 => cases h
  rename_i off sz hk ho
  rw [hk] at hd
  obtain ⟨fs, rfl, hfn, hf⟩ := hd
  obtain ⟨fl, hfl, hoff, i, hi, hsz⟩ := hf f off sz ho
  have hz : sz ≠ 0 := by
    intro e
    subst e
    simp at h
  have hb : Nat.beq sz 0 = false := by
    cases hq : Nat.beq sz 0
    · rfl
    · exact absurd (Nat.eq_of_beq_eq_true hq) hz
  rw [hb] at h
  simp only [cond_false] at h
  have key : ∀ a : Addr, ∀ w' : World, (Instr.fieldAt t (.pointer (some a)) f).run P w' = .ok (.pointer (some (a.add off))) w' := by
    intro a w'
    have hsz' : i.size ≠ 0 := by omega
    simp [Instr.fieldAt, run_underlying hu, hfl, Instr.sureAddr, fieldPlace, sizeOf, typeInfo, hi, hsz', hoff]
  split at h
  · rename_i b o
    split at h
    case h_2 => cases h
    obtain ⟨h1, h2, g, off', h3, rfl⟩ := (hp : CellR C (.ptr b o) v)
    exact ⟨_, _, h, ⟨rfl, h2, g, off', h3, rfl⟩, fun w' => by rw [key, addr_add, Nat.add_assoc]⟩
  · rename_i b i o
    split at h
    case h_3 => cases h
    all_goals obtain ⟨h1, h2, t', g, off', n, cap, h3, h4, h5, rfl⟩ := (hp : CellR C (.eptr b i o) v)
    all_goals exact ⟨_, _, h, ⟨rfl, h2, t', g, off', n, cap, h3, h4, h5, rfl⟩, fun w' => by rw [key, addr_add, Nat.add_assoc]⟩
  · rename_i fl y x o
    obtain ⟨g, off', us, hat, hrd, rfl⟩ := (hp : CellR C (.sptr fl y x o) v)
    exact ⟨_, _, h, ⟨g, off', us, hat, hrd, rfl⟩, fun w' => by rw [key, addr_add, Nat.add_assoc]⟩
  · rename_i b i o ver j q
    obtain ⟨h1, ⟨A, rfl⟩, h2, h3⟩ := (hp : CellR C (.neptr b i o ver j q) v)
    refine ⟨_, _, h, (⟨rfl, ⟨_, rfl⟩, h2, fun v0 e => ?_⟩ : CellR C (.neptr b i o ver j (q + off)) (.pointer (some (A.add off)))), fun w' => by rw [key]⟩
    obtain ⟨h4, h5⟩ := h3 v0 e
    refine ⟨h4, fun e => ?_⟩
    obtain ⟨t, g, off1, n, cap, u, g', off', n', cap', q1, q2, q3, q4, q5, q6, q7, q8⟩ := h5 e
    refine ⟨t, g, off1, n, cap, u, g', off', n', cap', q1, q2, q3, q4, q5, q6, q7, ?_⟩
    cases q8
    rw [addr_add, Nat.add_assoc]
  · cases h

theorem indexAddrK_r {T : Nat → Option TI} (hT : TOK P T) {s : St} (hH : HeapR C) (hh : C.H = s.heap) {t : Nat} {p ix : AV} {v u : Value} (hp : AVR C p v) (hx : AVR C ix u) {k : AV → Option R} (h : indexAddrK T s t p ix k = some r) :
    GoodW P C r k (Instr.indexAt t v u) := by
  unfold indexAddrK at h
  split at h
  · cases h
  rename_i ti hti
  obtain ⟨_, ⟨d, hu, ha, hd⟩, _⟩ := hT t ti hti
  split at h
  case h_2 => cases h
  rename_i e hk
  rw [hk] at hd
  obtain rfl : d = .slice e := hd
  split at h
  · cases h
  rename_i te hte
  obtain ⟨⟨i, z, hi, hsz, _⟩, _, _⟩ := hT e te hte
  have key : ∀ (kd : IntKind) (n : Int) (g off len cap : Nat) (w' : World), 0 ≤ n → n < (len : Int) → (Instr.indexAt t (.slice (some ⟨g, off, none⟩) len cap) (.int kd n)).run P w' = .ok (.pointer (some ⟨g, off + n.toNat * te.size, none⟩)) w' := by
    intro kd n g off len cap w' h0 h1
    have h2 : 0 ≤ n ∧ n < (len : Int) := ⟨h0, h1⟩
    simp [Instr.indexAt, asIntOf, run_underlying hu, h2, sizeOf, typeInfo, hi, hsz, addr_add]
  split at h
  · rename_i f y l kd n
    obtain ⟨hw, h⟩ := beq_cond h
    split at h
    case isFalse => cases h
    rename_i h0
    split at h
    case isFalse => cases h
    rename_i h1
    obtain rfl : u = .int kd n := hx
    obtain ⟨A, cap, hv, hlc, hne⟩ := (hp : Rd C.w (C.Sf f) (.sl y) l [v])
    obtain rfl : v = _ := by simpa using hv
    have hlt : n.toNat < l.length := by omega
    obtain ⟨g, off, rfl, hall⟩ := hne (by intro e; subst e; simp at hlt)
    have hxx : l[n.toNat]? = some (l.getD n.toNat y.zero) := by rw [List.getD_eq_getElem?_getD, List.getElem?_eq_getElem hlt]; rfl
    obtain ⟨us, hat, hrd⟩ := hall _ _ hxx
    refine ⟨_, _, h, ⟨g, off + n.toNat * y.width, us, hat, hrd, rfl⟩, fun w' => ?_⟩
    rw [key kd n g off l.length cap w' h0 h1, hw]
    simp
  · rename_i b kd n
    split at h
    case h_3 => cases h
    case h_2 =>
      rename_i y l m hb
      rw [← hh] at hb
      obtain ⟨hw, h⟩ := beq_cond h
      split at h
      case isFalse => cases h
      rename_i h0
      split at h
      case isFalse => cases h
      rename_i h1
      obtain rfl : u = .int kd n := hx
      obtain ⟨ho, hlen, hv⟩ := (hp : CellR C (.own b) v)
      obtain ⟨hsh, hrow⟩ := hH.blk b _ hb
      have hlt : n.toNat < l.length := by omega
      rcases hrow with ⟨e, _⟩ | ⟨g, off, cap, _, hroom, _⟩
      · subst e; simp at hlt
      refine ⟨_, _, h, ⟨rfl, hlen, y, g, off, l.length, cap, hsh, hroom.val, hlt, rfl⟩, fun w' => ?_⟩
      rw [hv, hroom.val]
      rw [key kd n g off l.length cap w' h0 h1, hw]
      simp
    rename_i y l m ver hl hb
    rw [← hh] at hb
    obtain ⟨hw, h⟩ := beq_cond h
    split at h
    case isFalse => cases h
    rename_i h0
    split at h
    case isFalse => cases h
    rename_i h1
    obtain rfl : u = .int kd n := hx
    obtain ⟨ho, hlen, hv⟩ := (hp : CellR C (.own b) v)
    obtain ⟨_, hsh, _⟩ := hH.blk b _ hb
    have hlt : n.toNat < l.length := by omega
    rcases row_nil hH hb with ⟨e, _⟩ | ⟨g, off, cap, hroom⟩
    · subst e; simp at hlt
    refine ⟨_, _, h, ⟨rfl, hlen, y, g, off, l.length, cap, hsh, hroom.val, hlt, rfl⟩, fun w' => ?_⟩
    rw [hv, hroom.val]
    rw [key kd n g off l.length cap w' h0 h1, hw]
    simp
  · rename_i b i o ver kd n
    split at h
    case h_2 => cases h
    rename_i y l ver' hb
    rw [← hh] at hb
    cases hv : Nat.beq ver' ver
    · rw [hv] at h; cases h
    have := Nat.eq_of_beq_eq_true hv
    subst this
    rw [hv] at h
    simp only [cond_true] at h
    split at h
    case h_2 => cases h
    rename_i u' l' hg
    obtain ⟨hw, h⟩ := beq_cond h
    split at h
    case isFalse => cases h
    rename_i h0
    split at h
    case isFalse => cases h
    rename_i h1
    obtain rfl : u = .int kd n := hx
    have hc := (hp : CellR C (.nst b i o ver') v)
    obtain ⟨F, _, hF⟩ := nst_data hH hb hc hg
    obtain ⟨v', hv', hr⟩ := hF
    cases hv'
    rcases hr with ⟨e, _⟩ | ⟨g', off', cap', G, hroom, _, _⟩
    · subst e; simp at h1; omega
    obtain ⟨c1, c2, c3⟩ := hc
    have hlt : n.toNat < l'.length := by omega
    refine ⟨_, _, h, (⟨rfl, ⟨_, rfl⟩, c2, fun v0 e => ?_⟩ : CellR C (.neptr b i o ver' n.toNat 0) (.pointer (some (at_ g' (off' + n.toNat * te.size))))), fun w' => ?_⟩
    · obtain ⟨c4, c5⟩ := c3 v0 e
      refine ⟨c4, fun e => ?_⟩
      obtain ⟨t, g, off, n1, cap, q1, q2, q3, q4, q5⟩ := c5 e
      obtain ⟨_, hsh, _⟩ := hH.blk b _ hb
      have q1' := q1
      rw [hsh] at q1
      cases q1
      rw [hroom.val] at q5
      exact ⟨y, g, off, n1, cap, u', g', off', l'.length, cap', q1', q2, getF_el _ _ _ _ _ hg, q3, q4, q5, hlt, by rw [hw]; rfl⟩
    · rw [hroom.val]
      rw [key kd n g' off' l'.length cap' w' h0 h1]
  · cases h

theorem bt_get (s : ByteArray) (n : Int) (h0 : 0 ≤ n) (h1 : n < (s.size : Int)) : ∃ b : UInt8, s[n.toNat]? = some b ∧ bt s n = (b.toNat : Int) := by
  have hlt : n.toNat < s.size := by omega
  exact ⟨s[n.toNat], by simp [hlt], by simp [bt, hlt]⟩

theorem ints_r {kd : IntKind} : ∀ (cs : List Cell) (l : List Int) (vs : List Value), ints kd cs = some l → LR C cs vs → vs = l.map fun n => .int kd n
  | [], l, vs, h, hl => by
    cases h
    cases vs
    · rfl
    · cases hl
  | c :: r, l, [], h, hl => by cases hl
  | c :: r, l, v :: vs, h, hl => by
    unfold ints at h
    split at h
    case h_1 => simp_all
    case h_3 => cases h
    rename_i k n r' he
    cases he
    split at h
    case isFalse => cases h
    rename_i hk
    subst hk
    split at h
    case h_2 => cases h
    rename_i l' hl'
    cases h
    obtain ⟨h1, h2⟩ := hl
    obtain rfl : v = .int k n := h1
    rw [ints_r _ _ _ hl' h2]
    rfl

theorem indexK_r {T : Nat → Option TI} (hT : TOK P T) {t : Nat} {p ix : AV} {v u : Value} (hp : AVR C p v) (hx : AVR C ix u) {k : AV → Option R} (h : indexK T t p ix k = some r) :
    GoodW P C r k (Instr.index t v u) := by
  unfold indexK at h
  split at h
  · cases h
  rename_i ti hti
  obtain ⟨_, ⟨d, hu, ha, hd⟩, _⟩ := hT t ti hti
  split at h
  case h_3 => cases h
  case h_2 =>
    rename_i n e kd a cr kx i hk
    rw [hk] at hd
    obtain ⟨rfl, ⟨de, ie, hue, hae, hie, hse⟩, _⟩ := hd
    split at h
    case h_2 => cases h
    rename_i l hl
    split at h
    case isFalse => cases h
    rename_i h0
    split at h
    case isFalse => cases h
    rename_i h1
    obtain ⟨hlen, h⟩ := beq_cond h
    obtain rfl : u = .int kx i := hx
    obtain ⟨cs, rfl, hcs⟩ := hp
    have hv := ints_r _ _ _ hl hcs
    have hL := hcs.length
    rw [hlen] at hL
    have hl2 : l.length = n := by rw [hv] at hL; simpa using hL
    have hlt : i.toNat < l.length := by omega
    have hget : cs[i.toNat]? = some (.int kd (l.getD i.toNat 0)) := by
      have : cs.toList[i.toNat]? = some (.int kd (l.getD i.toNat 0)) := by rw [hv]; simp [hlt]
      simpa using this
    exact ⟨.int kd (l.getD i.toNat 0), _, h, rfl, fun w' => by simp [Instr.index, asIntOf, run_underlying hu, h0, h1, part, run_isAgg hue, hae, sizeOf, typeInfo, hie, hse, hget]⟩
  rename_i s kd n hk
  rw [hk] at hd
  obtain rfl : d = .string := hd
  split at h
  case isFalse => cases h
  rename_i h0
  split at h
  case isFalse => cases h
  rename_i h1
  obtain rfl : u = .int kd n := hx
  obtain rfl : v = .string s := hp
  obtain ⟨b, hb, hbt⟩ := bt_get s n h0 h1
  exact ⟨.int .u8 (bt s n), _, h, rfl, fun w' => by simp [Instr.index, asIntOf, run_underlying hu, h0, hb, hbt]⟩

theorem wrapK_eq (k : IntKind) (n : Int) : wrapK k n = k.wrap n := by
  cases k <;> try rfl
  rw [IntKind.wrap_i64]; rfl

theorem binI_r {op : BinOp} {kd : IntKind} {a b : Int} {t : TypeId} {x y : Operand} {k : AV → Option R} (hop : op ≠ .shl ∧ op ≠ .shr) (h : binI op kd a b k = some r) :
    GoodW P C r k (do eqGuard op t x y (.int kd a) (.int kd b); binOp op t (.int kd a) (.int kd b)) := by
  have hg : ∀ w' : World, (eqGuard op t x y (.int kd a) (.int kd b)).run P w' = .ok () w' := by
    intro w'
    unfold eqGuard
    cases op <;> simp
  have hb1 : (a == b) = decide (a = b) := by by_cases e : a = b <;> simp [e]
  have hb2 : (a != b) = !decide (a = b) := by rw [bne, hb1]
  unfold binI at h
  cases op <;> simp only at h <;> first | (exact absurd rfl hop.1) | (exact absurd rfl hop.2) | skip
  case quo =>
    split at h
    · cases h
    rename_i hb
    exact ⟨_, _, h, rfl, fun w' => by simp [hg, binOp, Op.intDiv, hb, wrapK_eq]⟩
  case rem =>
    split at h
    · cases h
    rename_i hb
    exact ⟨_, _, h, rfl, fun w' => by simp [hg, binOp, Op.intDiv, hb]⟩
  all_goals first
    | cases h
    | (refine ⟨_, _, h, rfl, fun w' => ?_⟩; simp [hg, binOp, Op.intArith, wrapK_eq]; done)
    | (refine ⟨_, _, h, rfl, fun w' => ?_⟩; simp [hg, binOp, Op.intBits, bitAnd, bitOr, bitXor, bitAndNot]; done)
    | (refine ⟨_, _, h, rfl, fun w' => ?_⟩; simp [hg, binOp, Op.intCmp, hb1, hb2]; done)

theorem toB_r {c : Cell} {v : Value} {b : Bool} (hc : CellR C c v) (h : c.toB = some b) : v = .bool b := by
  cases c <;> simp only [Cell.toB, Option.some.injEq] at h <;> first | (cases h; done) | (subst h; exact hc)

theorem binS_r {op : BinOp} {a b : ByteArray} {t : TypeId} {x y : Operand} {k : AV → Option R} (h : binS op a b k = some r) :
    GoodW P C r k (do eqGuard op t x y (.string a) (.string b); binOp op t (.string a) (.string b)) := by
  have hg : ∀ w' : World, (eqGuard op t x y (.string a) (.string b)).run P w' = .ok () w' := by
    intro w'
    unfold eqGuard
    cases op <;> simp
  have he : (a.toList == b.toList) = decide (a = b) := by
    by_cases e : a = b
    · simp [e]
    · have : a.toList ≠ b.toList := fun h => e (ByteArray.ext (by have := congrArg List.toArray h; simpa [ByteArray.toList_eq] using this))
      simp [e, this]
  unfold binS at h
  cases op <;> simp only at h
  case add =>
    split at h
    case isFalse => cases h
    rename_i hb
    exact ⟨_, _, h, rfl, fun w' => by
      have : ¬ ((9223372036854775807 : Int) < (a.size : Int) + (b.size : Int)) := by omega
      simp [hg, binOp, Op.stringOp, IntKind.max, IntKind.signed, IntKind.bits, this]⟩
  all_goals first
    | cases h
    | (refine ⟨_, _, h, rfl, fun w' => ?_⟩; simp [hg, binOp, Op.stringOp, he]; done)

theorem binK_r {T : Nat → Option TI} (hT : TOK P T) {op : BinOp} {p q : AV} {v u : Value} (hp : AVR C p v) (hq : AVR C q u) {t : TypeId} {x y : Operand} {k : AV → Option R} (h : binK T t op p q k = some r) :
    GoodW P C r k (do eqGuard op t x y v u; binOp op t v u) := by
  unfold binK at h
  split at h
  · rename_i kd a kd' b
    obtain rfl : v = .int kd a := hp
    obtain rfl : u = .int kd' b := hq
    split at h
    · split at h
      · cases h
      rename_i hb
      exact ⟨_, _, h, rfl, fun w' => by simp [eqGuard, binOp, Op.shift, hb, shl]⟩
    · split at h
      · cases h
      rename_i hb
      refine ⟨_, _, h, rfl, fun w' => ?_⟩
      have : ∀ n : Nat, a.fdiv (2 ^ n) = a / 2 ^ n := fun n => Int.fdiv_eq_ediv_of_nonneg _ (Int.le_of_lt (Int.pow_pos (by decide)))
      simp [eqGuard, binOp, Op.shift, hb, shr, this]
    · rename_i h1 h2
      obtain ⟨he, h'⟩ := bool_cond h
      have he := of_decide_eq_true he
      subst he
      exact binI_r ⟨h1, h2⟩ h'
  · rename_i a b
    obtain rfl : v = .string a := hp
    obtain rfl : u = .string b := hq
    exact binS_r h
  · rename_i cx cy _ _
    split at h
    · cases h
    rename_i ti hti
    obtain ⟨_, ⟨d, hu, _, hd⟩, _⟩ := hT t ti hti
    split at h
    case h_2 => cases h
    rename_i a b hk ha hb
    rw [hk] at hd
    obtain rfl : d = .bool := hd
    have e1 : v = .bool a := toB_r hp ha
    have e2 : u = .bool b := toB_r hq hb
    subst e1
    subst e2
    have hg : ∀ w' : World, (eqGuard op t x y (.bool a) (.bool b)).run P w' = .ok () w' := by
      intro w'
      unfold eqGuard
      cases op <;> simp
    split at h
    · exact ⟨_, _, h, rfl, fun w' => by simp [hg, binOp, run_equal_bool w' t a b hu]⟩
    · exact ⟨_, _, h, rfl, fun w' => by simp [hg, binOp, run_equal_bool w' t a b hu]⟩
    · cases h
  · rename_i xs ys
    obtain ⟨us, rfl, hus⟩ := hp
    obtain ⟨vs, rfl, hvs⟩ := hq
    unfold binA at h
    split at h
    · cases h
    rename_i ti hti
    have hok := hT t ti hti
    split at h
    case h_2 => cases h
    rename_i ty he hty
    obtain ⟨hfl, h⟩ := bool_cond h
    split at h
    case h_2 => cases h
    rename_i a b ha hb
    obtain ⟨hg, heq⟩ := hok.eqs he
    have r1 := dec_r (f := false) ty xs a _ hus ha (fun e => by cases e)
    have r2 := dec_r (f := false) ty ys b _ hvs hb (fun e => by cases e)
    have r2' : Rd C.w (C.Sf false) ty b vs.toList := r2
    have key := heq ty hty C.w (C.Sf false) a b us.toList vs.toList r1 r2
    simp only [Array.toArray_toList] at key
    split at h
    · exact ⟨_, _, h, rfl, fun w' => by simp [run_eqGuard_agg w' _ _ _ _ _ _ hg, run_eql_struct, key]⟩
    · exact ⟨_, _, h, rfl, fun w' => by simp [run_eqGuard_agg w' _ _ _ _ _ _ hg, run_neq_struct, key]⟩
    · cases h
  · cases h

theorem unK_r {op : UnOp} {p : AV} {v : Value} (hp : AVR C p v) {k : AV → Option R} (h : unK op p k = some r) : GoodW P C r k (Op.unary op v) := by
  unfold unK at h
  split at h
  case h_9 => cases h
  case h_6 n => obtain ⟨b, rfl, hb⟩ := hp; exact ⟨_, _, h, ⟨b, rfl, hb⟩, fun w' => rfl⟩
  case h_7 n => obtain ⟨b, rfl, hb⟩ := hp; exact ⟨.bool (!(!b)), _, h, ⟨b, by simp, hb⟩, fun w' => rfl⟩
  case h_8 kd n =>
    obtain rfl : v = .int kd n := hp
    exact ⟨_, _, h, rfl, fun w' => by simp [Op.unary, Op.intArith, wrapK_eq]⟩
  all_goals
    have hv : v = _ := hp
    subst hv
    refine ⟨_, _, h, ?_, fun w' => rfl⟩
    simp [AVR, CellR]

theorem run_nil {t : Nat} {e : Nat} (hu : P.underlying t = some (.slice e)) {op : BinOp} (hop : op = .eql ∨ op = .neq) {x y : Operand} (A : Option Addr) (n cap : Nat) (w : World) :
    ((do eqGuard op t x y (.slice A n cap) (.slice none 0 0); binOp op t (.slice A n cap) (.slice none 0 0)) : Sem Value).run P w = .ok (.bool (if op = .eql then A.isNone else !A.isNone)) w := by
  have hg : (eqGuard op t x y (.slice A n cap) (.slice none 0 0)).run P w = .ok () w := by
    unfold eqGuard
    rcases hop with rfl | rfl <;> simp
  have he : (Op.equal t (.slice A n cap) (.slice none 0 0)).run P w = .ok A.isNone w := by
    unfold Op.equal Op.maxDepth Op.equalIn
    rw [Sem.run_bind, run_underlying hu w]
    cases A <;> rfl
  rcases hop with rfl | rfl <;> simp [hg, binOp, he]
theorem nilK_r {T : Nat → Option TI} (hT : TOK P T) {s : St} (hH : HeapR C) (hh : C.H = s.heap) {op : BinOp} {p q : AV} {v u : Value} (hp : AVR C p v) (hq : AVR C q u) (hn : isNilA q = true) {t : TypeId} {x y : Operand} {k : AV → Option R} (h : nilK T s t op p k = some r) :
    GoodV P C r k (do eqGuard op t x y v u; binOp op t v u) := by
  have hu0 : u = .slice none 0 0 := by
    cases q with
    | c c => cases c <;> first | (cases hn; done) | exact hq
    | agg l => cases hn
    | tup l => cases hn
  subst hu0
  have fact : ∀ c, CellR C c v → (sliceN s c = some none → v = .slice none 0 0) ∧ ∀ n, sliceN s c = some (some n) → ∃ A m cap, v = .slice A m cap ∧ (n ≠ 0 → A.isNone = false) := by
    intro c hc
    have none_ : sliceN s c = none → (sliceN s c = some none → v = .slice none 0 0) ∧ ∀ n, sliceN s c = some (some n) → ∃ A m cap, v = .slice A m cap ∧ (n ≠ 0 → A.isNone = false) := fun e => ⟨fun h => (by rw [e] at h; cases h), fun n h => (by rw [e] at h; cases h)⟩
    have some_ : ∀ m, sliceN s c = some (some m) → (∃ A m' cap, v = .slice A m' cap ∧ (m ≠ 0 → A.isNone = false)) → (sliceN s c = some none → v = .slice none 0 0) ∧ ∀ n, sliceN s c = some (some n) → ∃ A m cap, v = .slice A m cap ∧ (n ≠ 0 → A.isNone = false) := fun m e hx => ⟨fun h => (by rw [e] at h; cases h), fun n h => (by rw [e] at h; cases h; exact hx)⟩
    cases c
    case nil => exact ⟨fun _ => hc, fun n h => by simp [sliceN] at h⟩
    case emp => obtain ⟨A, rfl⟩ := hc; exact some_ 0 rfl ⟨A, 0, 0, rfl, fun h => absurd rfl h⟩
    case sl f ty l =>
      obtain ⟨A, cap, hv, _, hl⟩ := hc
      refine some_ l.length rfl ⟨A, l.length, cap, by simpa using hv, fun hn => ?_⟩
      obtain ⟨g, off, rfl, _⟩ := hl (fun e => hn (by rw [e]; rfl))
      rfl
    case own b =>
      cases hb : C.H[b]? with
      | none => exact none_ (by simp only [sliceN]; rw [← hh, hb])
      | some x =>
        cases x with
        | dead => exact none_ (by simp only [sliceN]; rw [← hh, hb])
        | cells ty l => exact none_ (by simp only [sliceN]; rw [← hh, hb])
        | mix ty l n => exact none_ (by simp only [sliceN]; rw [← hh, hb])
        | bld t u s => exact none_ (by simp only [sliceN]; rw [← hh, hb])
        | arr ty l m ver hol =>
          refine some_ l.length (by simp only [sliceN]; rw [← hh, hb]) ?_
          rw [hc.2.2]
          rcases row_nil hH hb with ⟨rfl, A, hA⟩ | ⟨g, off, cap, hr⟩
          · exact ⟨A, 0, 0, hA, fun h => absurd rfl h⟩
          · exact ⟨_, _, _, hr.val, fun _ => rfl⟩
    case nst b i o ver =>
      unfold sliceN at none_ some_ ⊢
      rw [← hh] at none_ some_ ⊢
      simp only at none_ some_ ⊢
      split
      · rename_i ty l ver' hb
        rw [hb] at none_ some_
        simp only at none_ some_
        cases hv : Nat.beq ver' ver
        · rw [hv] at none_; exact none_ rfl
        rw [hv] at none_ some_
        have := Nat.eq_of_beq_eq_true hv
        subst this
        simp only [cond_true] at none_ some_ ⊢
        split
        · rename_i uu l' hg
          rw [hg] at some_
          refine some_ l'.length rfl ?_
          obtain ⟨F, _, v', hv', hr⟩ := nst_data hH hb hc hg
          have : v = v' := by simpa using hv'
          subst this
          rcases hr with ⟨rfl, A, hA⟩ | ⟨g, off, cap, G, hr, _⟩
          · exact ⟨A, 0, 0, hA, fun h => absurd rfl h⟩
          · exact ⟨_, _, _, hr.val, fun _ => rfl⟩
        · rename_i hg
          rw [hg] at none_
          exact none_ rfl
      · exact ⟨fun h => (by cases h), fun n h => (by cases h)⟩
    all_goals exact none_ rfl
  unfold nilK at h
  split at h
  case h_2 => cases h
  rename_i ti c hti
  obtain ⟨_, ⟨d, hu, _, hd⟩, _⟩ := hT t ti hti
  obtain ⟨f1, f2⟩ := fact c hp
  split at h
  case h_5 => cases h
  · rename_i e hk hs
    rw [hk] at hd
    obtain rfl : d = .slice e := hd
    obtain rfl := f1 hs
    exact ⟨_, _, h, rfl, fun w' _ => by rw [run_nil hu (.inl rfl)]; rfl⟩
  · rename_i e hk hs
    rw [hk] at hd
    obtain rfl : d = .slice e := hd
    obtain rfl := f1 hs
    exact ⟨_, _, h, rfl, fun w' _ => by rw [run_nil hu (.inr rfl)]; rfl⟩
  · rename_i e n hk hs
    rw [hk] at hd
    obtain rfl : d = .slice e := hd
    obtain ⟨A, m, cap, rfl, hA⟩ := f2 n hs
    exact ⟨_, _, h, ⟨A.isNone, rfl, hA⟩, fun w' _ => by rw [run_nil hu (.inl rfl)]; rfl⟩
  · rename_i e n hk hs
    rw [hk] at hd
    obtain rfl : d = .slice e := hd
    obtain ⟨A, m, cap, rfl, hA⟩ := f2 n hs
    exact ⟨_, _, h, ⟨A.isNone, rfl, hA⟩, fun w' _ => by rw [run_nil hu (.inr rfl)]; rfl⟩

/-- A row of the call's own, read. -/
theorem own_rd (hH : HeapR C) {b : Nat} {t : Ty} {l : List t.den} {m : Md} {ver : Nat} (hb : C.H[b]? = some (.arr t l m ver none)) {S : Foot} (hS : ∀ g p, C.fp b g p → S g p) (hS' : ∀ g p, C.Sf (!m.isSh) g p → S g p) : Rd C.w S (.sl t) l [C.ρ b] := by
  rcases row_nil hH hb with ⟨e, A, hA⟩ | ⟨g, off, cap, hroom⟩
  · subst e
    exact ⟨A, 0, by rw [hA]; rfl, Nat.le_refl _, fun h => absurd rfl h⟩
  · refine ⟨_, cap, by rw [hroom.val], hroom.len, fun _ => ⟨g, off, rfl, fun i x hx => ?_⟩⟩
    have hi := (List.getElem?_eq_some_iff.1 hx).1
    obtain ⟨g1, off1, cap1, us, hroom1, hat, hlen, hun, hnu, _⟩ := row_elem hH hb hi
    have hval := hroom1.val
    rw [hroom.val] at hval
    obtain ⟨⟨rfl, rfl⟩, rfl⟩ : (g = g1 ∧ off = off1) ∧ cap = cap1 := by simpa using hval
    have hxx : x = l.getD i t.zero := by rw [List.getD_eq_getElem?_getD, hx]; rfl
    rw [hxx]
    refine ⟨us, fun j u hj => ⟨hS _ _ ?_, hat j u hj⟩, ?_⟩
    · have hjl := (List.getElem?_eq_some_iff.1 hj).1
      obtain ⟨q1, q2⟩ := room_cell (off := off) hi hroom.len (by omega : j < t.width)
      exact hroom.foot _ q1 q2
    · by_cases e : m = .un
      · obtain ⟨F, hF, hrd⟩ := hun e
        exact hrd.rd _ _ _ _ (fun g p h => hS _ _ (hF g p h))
      · exact Rd.mono (fun g p h => hS' _ _ h) (fun _ _ _ _ h => h) _ _ _ (hnu e)

theorem strOf_eq : ∀ (l : List Int) (s : ByteArray), l.foldl (fun r n => r.push (UInt8.ofNat n.toNat)) s = s ++ strOf l := by
  intro l
  induction l with
  | nil => intro s; apply ByteArray.ext; simp [strOf]
  | cons n l ih =>
    intro s
    rw [List.foldl_cons, ih]
    apply ByteArray.ext
    simp [strOf]

/-- Bytes out of memory. -/
theorem bytesK_r {s : St} (hH : HeapR C) (hh : C.H = s.heap) {c : Cell} {v : Value} (hc : CellR C c v) {l : List Int} (h : bytesK s c = some l) :
    ∃ A cap, v = .slice A l.length cap ∧ ∀ w', Ext C.w w' → (Conv.bytesToString v).run P w' = .ok (.string (strOf l)) w' := by
  have key : ∀ {S : Foot}, Rd C.w S (.sl (.int .u8)) l [v] → ∃ A cap, v = .slice A l.length cap ∧ ∀ w', Ext C.w w' → (Conv.bytesToString v).run P w' = .ok (.string (strOf l)) w' := by
    intro S hr
    obtain ⟨A, cap, hv, hlc, hne⟩ := hr
    obtain rfl : v = _ := by simpa using hv
    refine ⟨A, cap, rfl, fun w' hw => ?_⟩
    have e : strOf l = l.foldl (fun r n => r.push (UInt8.ofNat n.toNat)) ByteArray.empty := by
      rw [strOf_eq]; apply ByteArray.ext; simp
    cases A with
    | none =>
      have : l = [] := by
        cases l with
        | nil => rfl
        | cons a l => obtain ⟨g, off, h, _⟩ := hne (by simp); cases h
      subst this
      have h0 : strOf [] = ByteArray.empty := rfl
      rw [h0]
      rfl
    | some a =>
      rw [e]
      refine run_bytesToString w' a l.length cap l ?_
      have hl : (l.map (Value.int .u8)).length = l.length := by simp
      have := run_loadCells_list (P := P) w' a (l.map (Value.int .u8)) (fun j u hj => by
        rw [List.getElem?_map] at hj
        cases hlj : l[j]? with
        | none => rw [hlj] at hj; cases hj
        | some n =>
          rw [hlj] at hj
          simp only [Option.map_some, Option.some.injEq] at hj
          subst hj
          obtain ⟨g, off, ha, hall⟩ := hne (by intro e; subst e; simp at hlj)
          cases ha
          obtain ⟨us, hat, hus⟩ := hall j n hlj
          obtain rfl : us = [.int .u8 n] := hus
          have := (hat 0 _ rfl).2
          simp only [Ty.width, Nat.mul_one, Nat.add_zero] at this
          rw [addr_add]
          exact hw.cell this)
      rwa [hl] at this
  unfold bytesK at h
  split at h
  · cases h
    obtain rfl : v = .slice none 0 0 := hc
    exact key (S := fun _ _ => True) ⟨none, 0, rfl, Nat.le_refl _, fun h => absurd rfl h⟩
  · cases h
    obtain ⟨A, rfl⟩ := (hc : CellR C .emp v)
    exact key (S := fun _ _ => True) ⟨A, 0, rfl, Nat.le_refl _, fun h => absurd rfl h⟩
  · cases h
    exact key hc
  · rename_i b
    split at h
    case h_2 => cases h
    rename_i l' m ver hb
    cases h
    rw [← hh] at hb
    obtain ⟨_, _, hv⟩ := (hc : CellR C (.own b) v)
    rw [hv]
    have := own_rd hH hb (S := fun _ _ => True) (fun _ _ _ => trivial) (fun _ _ _ => trivial)
    rw [← hv] at this ⊢
    exact key this
  · rename_i b i o ver
    split at h
    case h_2 => cases h
    rename_i t lt v' hb
    obtain ⟨hver, h'⟩ := beq_cond h
    clear h
    have h := h'
    clear h'
    subst hver
    split at h
    case h_2 => cases h
    rename_i l' hg
    cases h
    rw [← hh] at hb
    obtain ⟨F, _, hrd⟩ := nst_data hH hb hc hg
    exact key (hrd.rd _ _ _ _ (fun _ _ h => h))
  · cases h

theorem convK_r {T : Nat → Option TI} (hT : TOK P T) {s : St} (hH : HeapR C) (hh : C.H = s.heap) {src dst : Nat} {p : AV} {v : Value} (hp : AVR C p v) {k : AV → Option R} (h : convK T s src dst p k = some r) : GoodV P C r k (convert src dst v) := by
  unfold convK at h
  split at h
  case h_4 => cases h
  · rename_i ts td kd n h1 h2
    obtain ⟨_, ⟨d, hu, _, hd⟩, _⟩ := hT _ _ h2
    obtain ⟨_, ⟨ds, hus, _, hds⟩, _⟩ := hT _ _ h1
    obtain rfl : v = .int kd n := hp
    split at h
    case h_2 => cases h
    rename_i k' hk
    rw [hk] at hd
    obtain rfl : d = .int k' := hd
    exact ⟨_, _, h, rfl, fun w' _ => by simp [convert, run_underlying hu, run_underlying hus, Conv.intToInt, wrapK_eq]⟩
  · rename_i ts td s h1 h2
    obtain ⟨_, ⟨d, hu, _, hd⟩, _⟩ := hT _ _ h2
    obtain ⟨_, ⟨ds, hus, _, hds⟩, _⟩ := hT _ _ h1
    obtain rfl : v = .string s := hp
    split at h
    case h_2 => cases h
    rename_i hk
    rw [hk] at hd
    obtain rfl : d = .string := hd
    exact ⟨_, _, h, rfl, fun w' _ => by simp [convert, run_underlying hu, run_underlying hus]⟩
  · rename_i ts td x _ _ h1 h2
    obtain ⟨_, ⟨d, hu, _, hd⟩, _⟩ := hT _ _ h2
    obtain ⟨_, ⟨ds, hus, _, hds⟩, _⟩ := hT _ _ h1
    split at h
    case h_2 => cases h
    rename_i e hk1 hk2
    rw [hk2] at hd
    rw [hk1] at hds
    obtain rfl : d = .string := hd
    obtain rfl : ds = .slice e := hds
    split at h
    case h_2 => cases h
    rename_i te hte
    obtain ⟨_, ⟨de, hue, _, hde⟩, _⟩ := hT _ _ hte
    split at h
    case h_2 => cases h
    rename_i hk3
    rw [hk3] at hde
    obtain rfl : de = .int .u8 := hde
    split at h
    case h_2 => cases h
    rename_i l hl
    obtain ⟨A, cap, rfl, hrun⟩ := bytesK_r (P := P) hH hh hp hl
    exact ⟨_, _, h, rfl, fun w' hw => by rw [run_convert_bytes_string w' src dst e A l.length cap hus hue hu]; exact hrun w' hw⟩

/-- s[:0:0]. -/
theorem sliceE_r {T : Nat → Option TI} (hT : TOK P T) {s : St} (hH : HeapR C) (hh : C.H = s.heap) {t : Nat} {p : AV} {v : Value} (hp : AVR C p v) {k : AV → Option R} (h : sliceE T s t p k = some r) :
    GoodV P C r k (Instr.sliceAt t v none (some (.int .i64 0)) (some (.int .i64 0))) := by
  unfold sliceE at h
  split at h
  · cases h
  rename_i ti hti
  obtain ⟨_, ⟨d, hu, ha, hd⟩, _⟩ := hT t ti hti
  have key : ∀ e, ti.k = .slice e → (∃ te, T e = some te) → (∃ A n cap, v = .slice A n cap) → k (.c .emp) = some r → GoodV P C r k (Instr.sliceAt t v none (some (.int .i64 0)) (some (.int .i64 0))) := by
    rintro e hk ⟨te, hte⟩ ⟨A, n, cap, rfl⟩ hkk
    rw [hk] at hd
    obtain rfl : d = .slice e := hd
    obtain ⟨⟨i, z, hi, hsz, _⟩, _, _⟩ := hT e te hte
    have hb : ∀ (y : Nat) code (w' : World), (Instr.sliceBound (.int .i64 0) y code).run P w' = .ok 0 w' := fun y code w' => by simp [Instr.sliceBound, asIntOf]
    refine ⟨.slice (if (0 : Nat) = 0 then A else A.map (·.add (0 * te.size))) 0 0, _, hkk, ⟨_, rfl⟩, fun w' _ => ?_⟩
    have hbs : (Instr.sliceBounds true n cap none (some (.int .i64 0)) (some (.int .i64 0))).run P w' = .ok (0, 0, 0) w' := by
      simp [Instr.sliceBounds, hb]
    simp [Instr.sliceAt, Instr.slice, run_underlying hu, hbs, sizeOf, typeInfo, hi, hsz]
  split at h
  · rename_i e f y l hk
    split at h
    case h_2 => cases h
    rename_i te hte
    obtain ⟨A, cap, hv, _⟩ := (hp : Rd C.w (C.Sf f) (.sl y) l [v])
    exact key e hk ⟨te, hte⟩ ⟨A, _, cap, by simpa using hv⟩ h
  · rename_i e b hk
    split at h
    case h_2 => cases h
    rename_i te y l m ver hl hte hb
    rw [← hh] at hb
    obtain ⟨_, _, hv⟩ := (hp : CellR C (.own b) v)
    refine key e hk ⟨te, hte⟩ ?_ h
    rw [hv]
    rcases row_nil hH hb with ⟨_, A, hA⟩ | ⟨g, off, cap, hroom⟩
    · exact ⟨A, 0, 0, hA⟩
    · exact ⟨_, _, _, hroom.val⟩
  · rename_i e hk
    split at h
    case h_2 => cases h
    rename_i te hte
    exact key e hk ⟨te, hte⟩ ⟨none, 0, 0, hp⟩ h
  · cases h

theorem bound_r {lo : Option AV} {vlo : Option Value} (hlo : match lo, vlo with | none, none => True | some x, some v => AVR C x v | _, _ => False) {n : Int} {kd : IntKind} {a : Int}
    (h : (match lo with | none => AV.c (.int .i64 n) | some v => v) = .c (.int kd a)) : (vlo = none ∧ a = n) ∨ vlo = some (.int kd a) := by
  cases lo with
  | none =>
    cases vlo with
    | none => simp only [AV.c.injEq, Cell.int.injEq] at h; exact .inl ⟨rfl, h.2.symm⟩
    | some v => exact hlo.elim
  | some x =>
    cases vlo with
    | none => exact hlo.elim
    | some v => simp only at h; subst h; exact .inr (congrArg some hlo)

theorem run_sliceBound (kd : IntKind) (n : Int) (y : Nat) (code : BoundsCode) (w : World) (h0 : 0 ≤ n) (h1 : n ≤ (y : Int)) : (Instr.sliceBound (.int kd n) y code).run P w = .ok n.toNat w := by
  have : 0 ≤ n ∧ n ≤ (y : Int) := ⟨h0, h1⟩
  simp [Instr.sliceBound, asIntOf, this]

theorem run_sliceBounds (isSlice : Bool) (len cap : Nat) (vlo vhi : Option Value) (k1 k2 : IntKind) (a b : Int) (hlo : (vlo = none ∧ a = 0) ∨ vlo = some (.int k1 a)) (hhi : (vhi = none ∧ b = (len : Int)) ∨ vhi = some (.int k2 b))
    (h0 : 0 ≤ a) (h1 : a ≤ b) (h2 : b ≤ (cap : Int)) (w : World) : (Instr.sliceBounds isSlice len cap vlo vhi none).run P w = .ok (a.toNat, b.toNat, cap) w := by
  have h1' : a ≤ ((b.toNat : Nat) : Int) := by omega
  have hb : ∀ code, (Instr.sliceBound (.int k2 b) cap code).run P w = .ok b.toNat w := fun code => run_sliceBound _ _ _ _ _ (by omega) h2
  have hl : ∀ code, (Instr.sliceBound (.int k1 a) b.toNat code).run P w = .ok a.toNat w := fun code => run_sliceBound _ _ _ _ _ h0 h1'
  unfold Instr.sliceBounds
  rcases hlo with ⟨rfl, rfl⟩ | rfl <;> rcases hhi with ⟨rfl, rfl⟩ | rfl
  · simp
  · simp [hb]
  · simp only [Int.toNat_natCast] at hl
    simp [hl]
  · simp [hb, hl]

theorem sliceK_r {T : Nat → Option TI} (hT : TOK P T) {t : Nat} {p : AV} {v : Value} (hp : AVR C p v) {lo hi : Option AV} {vlo vhi : Option Value}
    (hlo : match lo, vlo with | none, none => True | some x, some v => AVR C x v | _, _ => False) (hhi : match hi, vhi with | none, none => True | some x, some v => AVR C x v | _, _ => False)
    {k : AV → Option R} (h : sliceK T t p lo hi k = some r) : GoodV P C r k (Instr.sliceAt t v vlo vhi none) := by
  unfold sliceK at h
  split at h
  · cases h
  rename_i ti hti
  obtain ⟨_, ⟨d, hu, ha, hd⟩, _⟩ := hT t ti hti
  split at h
  case h_3 => cases h
  · rename_i s hk
    rw [hk] at hd
    obtain rfl : d = .string := hd
    obtain rfl : v = .string s := hp
    split at h
    case h_2 => cases h
    rename_i ka a kb b e1 e2
    split at h
    case isFalse => cases h
    rename_i h0
    split at h
    case isFalse => cases h
    rename_i h1
    split at h
    case isFalse => cases h
    rename_i h2
    refine ⟨_, _, h, rfl, fun w' _ => ?_⟩
    have := run_sliceBounds (P := P) false s.size s.size vlo vhi ka kb a b (bound_r hlo e1) (bound_r hhi e2) h0 h1 h2 w'
    simp [Instr.sliceAt, Instr.slice, run_underlying hu, this]
  · rename_i e f y l hk
    rw [hk] at hd
    obtain rfl : d = .slice e := hd
    split at h
    · cases h
    rename_i te hte
    obtain ⟨⟨i, z, hi', hsz, _⟩, _, _⟩ := hT e te hte
    obtain ⟨hw, h⟩ := beq_cond h
    split at h
    case h_2 => cases h
    rename_i ka a kb b e1 e2
    split at h
    case isFalse => cases h
    rename_i h0
    split at h
    case isFalse => cases h
    rename_i h1
    split at h
    case isFalse => cases h
    rename_i h2
    obtain ⟨A, cap, hv, hlc, hne⟩ := (hp : Rd C.w (C.Sf f) (.sl y) l [v])
    obtain rfl : v = _ := by simpa using hv
    have hbl : b.toNat ≤ l.length := by omega
    have hln : ((l.take b.toNat).drop a.toNat).length = b.toNat - a.toNat := by rw [List.length_drop, List.length_take]; omega
    have hrun : ∀ w' : World, (Instr.sliceAt t (.slice A l.length cap) vlo vhi none).run P w' = .ok (.slice (if cap = a.toNat then A else A.map (·.add (a.toNat * te.size))) (b.toNat - a.toNat) (cap - a.toNat)) w' := by
      intro w'
      have := run_sliceBounds (P := P) true l.length cap vlo vhi ka kb a b (bound_r hlo e1) (bound_r hhi e2) h0 h1 (by omega) w'
      simp [Instr.sliceAt, Instr.slice, run_underlying hu, this, sizeOf, typeInfo, hi', hsz]
    refine ⟨_, _, h, ?_, fun w' _ => hrun w'⟩
    refine ⟨_, cap - a.toNat, by rw [hln], by rw [hln]; omega, fun hn => ?_⟩
    have hpos : 0 < b.toNat - a.toNat := by
      rw [← hln]
      exact List.length_pos_iff.2 hn
    obtain ⟨g, off, rfl, hall⟩ := hne (by intro e; subst e; simp at hn)
    rw [if_neg (by omega)]
    refine ⟨g, off + a.toNat * te.size, by simp [addr_add], fun j x hx => ?_⟩
    rw [List.getElem?_drop, List.getElem?_take] at hx
    split at hx
    case isFalse => cases hx
    have := hall _ _ hx
    rw [hw, Nat.add_assoc, ← Nat.add_mul]
    exact this

theorem extractK_r {p : AV} {v : Value} (hp : AVR C p v) {i : Nat} {k : AV → Option R} (h : extractK p i k = some r) : GoodW P C r k (Instr.extract v i) := by
  unfold extractK at h
  split at h
  case h_2 => cases h
  rename_i l
  split at h
  case h_2 => cases h
  rename_i a cs hl
  obtain ⟨vs, rfl, htl⟩ := hp
  have key : ∀ (l : List (Bool × List Cell)) (vs : List Value) (i : Nat), TL C l vs → l[i]? = some (a, cs) → ∃ u, vs[i]? = some u ∧ SVR C (a, cs) u := by
    intro l
    induction l with
    | nil => intro vs i _ h; simp at h
    | cons p l ih =>
      intro vs i ht h
      cases vs with
      | nil => exact ht.elim
      | cons u vs =>
        cases i with
        | zero => simp at h; subst h; exact ⟨u, by simp, ht.1⟩
        | succ i => simp at h; obtain ⟨u', h1, h2⟩ := ih vs i ht.2 h; exact ⟨u', by simpa using h1, h2⟩
  obtain ⟨u, hu, hsv⟩ := key l vs.toList i htl hl
  have hrun : ∀ w' : World, (Instr.extract (.tuple vs) i).run P w' = .ok u w' := by
    intro w'
    have : vs[i]? = some u := by simpa using hu
    simp [Instr.extract, this]
  rcases mkV_r h with ⟨rfl, hk⟩ | ⟨rfl, x, rfl, hk⟩
  · exact ⟨u, _, hk, hsv, fun w' => hrun w'⟩
  · exact ⟨u, _, hk, hsv.1, fun w' => hrun w'⟩

theorem sliceNK_r {T : Nat → Option TI} (hT : TOK P T) {s : St} (hH : HeapR C) (hh : C.H = s.heap) {t b i o ver : Nat} {v : Value} (hp : CellR C (.nst b i o ver) v) {lo : AV} {vlo : Value} (hlo : AVR C lo vlo)
    {k : AV → Option R} (h : sliceNK T s t b i o ver lo k = some r) : GoodV P C r k (Instr.sliceAt t v (some vlo) none none) := by
  unfold sliceNK at h
  split at h
  · cases h
  rename_i ti hti
  obtain ⟨_, ⟨d, hu, ha, hd⟩, _⟩ := hT t ti hti
  split at h
  case h_2 => cases h
  rename_i e hk
  rw [hk] at hd
  obtain rfl : d = .slice e := hd
  split at h
  case h_2 => cases h
  rename_i te ka a hte
  obtain ⟨⟨inf, z, hi', hsz, _⟩, _, _⟩ := hT e te hte
  split at h
  case h_2 => cases h
  rename_i y l ver' hb
  rw [← hh] at hb
  cases hv : Nat.beq ver' ver
  · rw [hv] at h; cases h
  have := Nat.eq_of_beq_eq_true hv
  subst this
  rw [hv] at h
  simp only [cond_true] at h
  split at h
  case h_2 => cases h
  rename_i u' l' hg
  obtain ⟨hw, h⟩ := beq_cond h
  split at h
  case isFalse => cases h
  rename_i h0
  split at h
  case isFalse => cases h
  rename_i h1
  obtain rfl : vlo = .int ka a := hlo
  obtain ⟨F, _, hF⟩ := nst_data hH hb hp hg
  obtain ⟨v', hv', hr⟩ := hF
  cases hv'
  rcases hr with ⟨e, _⟩ | ⟨g', off', cap', G, hroom, _, _⟩
  · subst e; simp at h1; omega
  obtain ⟨c1, c2, c3⟩ := hp
  have hlt : a.toNat < l'.length := by omega
  have hle := hroom.len
  have hrun : ∀ w' : World, (Instr.sliceAt t v (some (.int ka a)) none none).run P w' = .ok (.slice (some (at_ g' (off' + a.toNat * te.size))) (l'.length - a.toNat) (cap' - a.toNat)) w' := by
    intro w'
    rw [hroom.val]
    have := run_sliceBounds (P := P) true l'.length cap' (some (.int ka a)) none ka .i64 a (l'.length : Int) (.inr rfl) (.inl ⟨rfl, rfl⟩) h0 (by omega) (by omega) w'
    have hne : cap' ≠ a.toNat := by omega
    simp [Instr.sliceAt, Instr.slice, run_underlying hu, this, sizeOf, typeInfo, hi', hsz, hne, addr_add]
  refine ⟨_, _, h, (⟨rfl, c2, fun v0 e => ?_⟩ : CellR C (.nsv b i o ver' a.toNat) _), fun w' _ => hrun w'⟩
  obtain ⟨c4, c5⟩ := c3 v0 e
  refine ⟨c4, fun e => ?_⟩
  obtain ⟨t, g, off, n1, cap, q1, q2, q3, q4, q5⟩ := c5 e
  obtain ⟨_, hsh, _⟩ := hH.blk b _ hb
  have q1' := q1
  rw [hsh] at q1
  cases q1
  rw [hroom.val] at q5
  exact ⟨y, g, off, n1, cap, u', g', off', l'.length, cap', q1', q2, getF_el _ _ _ _ _ hg, q3, q4, q5, by omega, by rw [hw]⟩

theorem lenK_r {T : Nat → Option TI} (hT : TOK P T) {s : St} (hH : HeapR C) (hh : C.H = s.heap) {t : Nat} {p : AV} {v : Value} (hp : AVR C p v) {ty : TypeId} {k : AV → Option R} (h : lenK T s t p k = some r) :
    GoodW P C r k (Builtin.len_ #[t] ty #[v]) := by
  unfold lenK at h
  split at h
  · cases h
  rename_i ti hti
  obtain ⟨_, ⟨d, hu, ha, hd⟩, _⟩ := hT t ti hti
  have slc : ∀ e, ti.k = .slice e → ∀ (A : Option Addr) (n cap : Nat) (w' : World), (Builtin.len_ #[t] ty #[.slice A n cap]).run P w' = .ok (.int .i64 (n : Int)) w' := by
    intro e hk A n cap w'
    rw [hk] at hd
    obtain rfl : d = .slice e := hd
    simp [Builtin.len_, run_underlying hu, goInt]
  split at h
  · rename_i e f y l hk
    obtain ⟨A, cap, hv, hlc, hne⟩ := (hp : Rd C.w (C.Sf f) (.sl y) l [v])
    obtain rfl : v = _ := by simpa using hv
    exact ⟨.int .i64 (l.length : Int), _, h, (by rw [← lenI_eq y l] : Value.int .i64 (l.length : Int) = .int .i64 (lenI y l)), fun w' => slc e hk _ _ _ w'⟩
  · rename_i e hk
    obtain rfl : v = .slice none 0 0 := hp
    exact ⟨_, _, h, rfl, fun w' => slc e hk _ _ _ w'⟩
  · rename_i e hk
    obtain ⟨A, rfl⟩ := (hp : CellR C .emp v)
    exact ⟨_, _, h, rfl, fun w' => slc e hk _ _ _ w'⟩
  · rename_i s hk
    rw [hk] at hd
    obtain rfl : d = .string := hd
    obtain rfl : v = .string s := hp
    exact ⟨_, _, h, rfl, fun w' => by simp [Builtin.len_, run_underlying hu, goInt]⟩
  · rename_i e b hk
    split at h
    case h_3 => cases h
    case h_2 =>
      rename_i y l m hb
      rw [← hh] at hb
      obtain ⟨_, _, hv⟩ := (hp : CellR C (.own b) v)
      rw [hv]
      obtain ⟨_, hrow⟩ := hH.blk b _ hb
      rcases hrow with ⟨e0, A, hA⟩ | ⟨g, off, cap, _, hroom, _⟩
      · subst e0
        rw [hA]
        exact ⟨_, _, h, rfl, fun w' => slc e hk _ _ _ w'⟩
      · rw [hroom.val]
        exact ⟨_, _, h, rfl, fun w' => slc e hk _ _ _ w'⟩
    rename_i y l m ver hl hb
    rw [← hh] at hb
    obtain ⟨_, _, hv⟩ := (hp : CellR C (.own b) v)
    rw [hv]
    rw [lenO_eq] at h
    rcases row_nil hH hb with ⟨e0, A, hA⟩ | ⟨g, off, cap, hroom⟩
    · subst e0
      rw [hA]
      exact ⟨_, _, h, rfl, fun w' => slc e hk _ _ _ w'⟩
    · rw [hroom.val]
      exact ⟨_, _, h, rfl, fun w' => slc e hk _ _ _ w'⟩
  · rename_i e b i o ver hk
    split at h
    case h_2 => cases h
    rename_i y l v' hb
    obtain ⟨hver, h'⟩ := beq_cond h
    clear h
    have h := h'
    clear h'
    subst hver
    split at h
    case h_2 => cases h
    rename_i u l' hg
    rw [← hh] at hb
    obtain ⟨F, _, hrd⟩ := nst_data hH hb hp hg
    obtain ⟨A, cap, hv, _⟩ := hrd.rd (S := F) _ _ _ _ (fun _ _ h => h)
    obtain rfl : v = _ := by simpa using hv
    exact ⟨_, _, h, rfl, fun w' => slc e hk _ _ _ w'⟩
  · cases h

theorem maxK_r {p q : AV} {v u : Value} (hp : AVR C p v) (hq : AVR C q u) {ts : Array TypeId} {ty : TypeId} {k : AV → Option R} (h : maxK mx p q k = some r) : GoodW P C r k (Builtin.max_ ts ty #[v, u]) := by
  unfold maxK at h
  split at h
  case h_2 => cases h
  rename_i kd a kd' b
  obtain rfl : v = .int kd a := hp
  obtain rfl : u = .int kd' b := hq
  exact ⟨_, _, h, rfl, fun w' => by simp [Builtin.max_, Builtin.max2, mx]⟩
theorem minK_r {p q : AV} {v u : Value} (hp : AVR C p v) (hq : AVR C q u) {ts : Array TypeId} {ty : TypeId} {k : AV → Option R} (h : maxK mn p q k = some r) : GoodW P C r k (Builtin.min_ ts ty #[v, u]) := by
  unfold maxK at h
  split at h
  case h_2 => cases h
  rename_i kd a kd' b
  obtain rfl : v = .int kd a := hp
  obtain rfl : u = .int kd' b := hq
  exact ⟨_, _, h, rfl, fun w' => by simp [Builtin.min_, Builtin.min2, mn]⟩

theorem LR.splice {l : List Cell} {vs : List Value} {o : Nat} {cs : List Cell} {us : List Value} (h : LR C l vs) (h' : LR C cs us) : LR C (splice l o cs) (vs.take o ++ us ++ vs.drop (o + us.length)) := by
  unfold V.splice
  rw [h'.length]
  exact ((h.take o).append h').append (h.drop _)

theorem fill_cells (cs : Array Value) (off : Nat) : ∀ (us : List Value) (i : Nat) (acc : Array Value), off + i + us.length ≤ acc.size →
    ((us.zipIdx i).foldl (fun cs (c, j) => cs.setIfInBounds (off + j) c) acc).toList = acc.toList.take (off + i) ++ us ++ acc.toList.drop (off + i + us.length)
  | [], i, acc, h => by simp
  | u :: us, i, acc, h => by
    simp only [List.zipIdx_cons, List.foldl_cons]
    rw [fill_cells cs off us (i + 1) (acc.setIfInBounds (off + i) u) (by simp at h ⊢; omega)]
    have e := list_seg_step acc.toList (off + i) u us (by simp at h ⊢; omega)
    simpa [Array.toList_setIfInBounds, Nat.add_assoc] using e

theorem buildK_go {s : St} {nt : Nat} {a : Act} (ht : TR C nt s.tmps a) {ti : TI} {k : AV → Option R} (place : Nat → Option (Nat × Nat)) (hplace : ∀ f off sz, ti.offs[f]? = some (off, sz) → place f = some (off, sz)) :
    ∀ (parts : List (Nat × Operand)) (acc : List Cell) (cs : Array Value), LR C acc cs.toList → buildK.go s k ti parts acc = some r →
      ∃ (out : Array Value) (l : List Cell), Instr.fill place cs (parts.map fun (i, x) => (i, a.eval x)) = some out ∧ LR C l out.toList ∧ k (.agg l) = some r
  | [], acc, cs, hl, h => ⟨cs, acc, rfl, hl, h⟩
  | (f, x) :: rest, acc, cs, hl, h => by
    simp only [buildK.go] at h
    split at h
    case h_2 => cases h
    rename_i off sz ho
    obtain ⟨hsz, h⟩ := beq_cond h
    obtain ⟨hkn, h⟩ := bool_cond h
    obtain ⟨hle, h⟩ := ble_cond h
    have hx := (ev_r ht x).cells hkn
    have hxl := hx.length
    rw [hsz] at hxl
    have hcl := hl.length
    have hfc := fill_cells cs off (a.eval x).cells.toList 0 cs (by simp at hxl hcl ⊢; omega)
    simp only [Nat.add_zero] at hfc
    obtain ⟨out, l, h1, h2, h3⟩ := buildK_go ht place hplace rest (splice acc off (s.ev x).cells) ((a.eval x).cells.zipIdx.foldl (fun cs (c, j) => cs.setIfInBounds (off + j) c) cs) (by
      have e : ((a.eval x).cells.zipIdx.foldl (fun cs (c, j) => cs.setIfInBounds (off + j) c) cs).toList = ((a.eval x).cells.toList.zipIdx.foldl (fun cs (c, j) => cs.setIfInBounds (off + j) c) cs).toList := by
        rw [← Array.foldl_toList]; simp
      rw [e, hfc]
      exact hl.splice hx) h
    refine ⟨out, l, ?_, h2, h3⟩
    simp only [List.map_cons, Instr.fill, hplace f off sz ho]
    have c1 : (a.eval x).cells.size = sz := by simpa using hxl
    have c2 : ¬ (off + sz > cs.size) := by simp at hcl; omega
    rw [if_neg (by simp [c1]; omega)]
    exact h1

theorem run_mapM {α β : Type} (f : α → Sem β) (g : α → β) : ∀ (l : List α), (∀ a ∈ l, ∀ w, (f a).run P w = .ok (g a) w) → ∀ w, (l.mapM f).run P w = .ok (l.map g) w
  | [], _, w => by simp
  | a :: l, h, w => by
    have h1 := h a (by simp)
    have h2 := run_mapM f g l (fun b hb => h b (by simp [hb]))
    simp [List.mapM_cons, h1, h2]
theorem buildK_r {T : Nat → Option TI} (hT : TOK P T) {s : St} {nt : Nat} {a : Act} (ht : TR C nt s.tmps a) {t : Nat} {parts : Array (Nat × Operand)} {k : AV → Option R} (h : buildK T s t parts.toList k = some r) :
    GoodW P C r k (Instr.build t (parts.map fun (i, x) => (i, a.eval x))) := by
  unfold buildK at h
  split at h
  · cases h
  rename_i ti hti
  obtain ⟨⟨i, z, hi, hsz, hby, hz, hzs, hzr, hzu⟩, ⟨d, hu, ha, hd⟩, _⟩ := hT t ti hti
  split at h
  case h_3 => cases h
  case h_2 =>
    rename_i n e hk
    rw [hk] at hd
    obtain ⟨rfl, ⟨de, ie, hue, hae, hie, hse⟩, hoff⟩ := hd
    obtain ⟨out, l, h1, h2, h3⟩ := buildK_go ht (fun i => some (i * 1, 1)) (fun f off sz ho => by obtain ⟨rfl, rfl⟩ := hoff f off sz ho; simp) parts.toList ti.zero z.cells (hzr C) h
    refine ⟨.agg out, .agg l, h3, ⟨out, rfl, h2⟩, fun w' => ?_⟩
    have hp : (parts.map fun (i, x) => (i, a.eval x)).toList = parts.toList.map fun (i, x) => (i, a.eval x) := by simp
    simp only [Array.toList_map] at hp
    simp only [Nat.mul_one] at h1
    simp [Instr.build, zeroValue, typeInfo, hi, hz, run_underlying hu, sizeOf, hie, hse, h1]
  rename_i hk
  rw [hk] at hd
  obtain ⟨fs, rfl, hfn, hf⟩ := hd
  let g : Field → Nat × Nat := fun fl => (fl.offset, ((P.info? fl.type).map (·.size)).getD 0)
  have hall : ∀ fl ∈ fs.toList, ∃ i, P.info? fl.type = some i := by
    intro fl hm
    obtain ⟨n, hn⟩ := List.getElem?_of_mem hm
    have hlt : n < ti.offs.length := by rw [← hfn]; simpa using (List.getElem?_eq_some_iff.1 hn).1
    obtain ⟨fl', h1, _, j, hj, _⟩ := hf n _ _ (List.getElem?_eq_getElem hlt)
    have : fs[n]? = some fl := by simpa using hn
    rw [this] at h1
    cases h1
    exact ⟨j, hj⟩
  have hmap : ∀ w : World, (fs.mapM (fun f => Prod.mk f.offset <$> sizeOf f.type : Field → Sem (Nat × Nat))).run P w = .ok (fs.map g) w := by
    intro w
    rcases fs with ⟨l⟩
    rw [List.mapM_toArray]
    have := run_mapM (P := P) (fun f => Prod.mk f.offset <$> sizeOf f.type : Field → Sem (Nat × Nat)) g l (fun fl hm w => by
      obtain ⟨j, hj⟩ := hall fl hm
      simp [sizeOf, typeInfo, hj, g]) w
    simp [this]
  have hplace : ∀ (f off sz : Nat), ti.offs[f]? = some (off, sz) → (fs.map g)[f]? = some (off, sz) := by
    intro f off sz ho
    obtain ⟨fl, hfl, hoff, j, hj, hjs⟩ := hf f off sz ho
    simp [hfl, g, hj, hoff, hjs]
  obtain ⟨out, l, h1, h2, h3⟩ := buildK_go ht ((fs.map g)[·]?) hplace parts.toList ti.zero z.cells (hzr C) h
  refine ⟨.agg out, .agg l, h3, ⟨out, rfl, h2⟩, fun w' => ?_⟩
  have hp : (parts.map fun (i, x) => (i, a.eval x)).toList = parts.toList.map fun (i, x) => (i, a.eval x) := by simp
  simp only [Array.toList_map] at hp
  simp [Instr.build, zeroValue, typeInfo, hi, hz, run_underlying hu, hmap]
  simp only [Array.getElem?_map] at h1
  simp [h1]

theorem capsOf_r {s : St} {nt : Nat} {a : Act} (ht : TR C nt s.tmps a) : ∀ (caps : List Operand) (l : List Nat), capsOf s caps = some l → PtrsR C.H.length C.ρ l (caps.map a.eval)
  | [], l, h => by cases h; trivial
  | x :: r, l, h => by
    simp only [capsOf] at h
    split at h
    case h_2 => cases h
    rename_i b hb
    split at h
    case h_2 => cases h
    rename_i l' hl
    cases h
    refine ⟨?_, capsOf_r ht r l' hl⟩
    have := ev_r ht x
    rw [hb] at this
    obtain ⟨_, h2, g, off, h4, h5⟩ := this
    exact ⟨h2, by rw [h4, h5, Nat.add_zero]⟩

/-- **An operation that leaves memory alone.** -/
theorem nilcK_r {p : AV} {v : Value} (hp : AVR C p v) {k : AV → Option R} (h : nilcK p k = some r) : (∃ A, v = .pointer (some A)) ∧ k p = some r := by
  unfold nilcK at h
  split at h
  · obtain ⟨_, _, g, off, _, rfl⟩ := (hp : CellR C (.ptr _ _) v); exact ⟨⟨_, rfl⟩, h⟩
  · obtain ⟨_, _, t, g, off, n, cap, _, _, _, rfl⟩ := (hp : CellR C (.eptr _ _ _) v); exact ⟨⟨_, rfl⟩, h⟩
  · obtain ⟨_, hA, _⟩ := (hp : CellR C (.neptr _ _ _ _ _ _) v); exact ⟨hA, h⟩
  · obtain ⟨g, off, us, _, _, rfl⟩ := (hp : CellR C (.sptr _ _ _ _) v); exact ⟨⟨_, rfl⟩, h⟩
  · cases h

/-- What does not look at memory. -/
theorem opF_r {T : Nat → Option TI} (hT : TOK P T) {s : St} {nt : Nat} {a : Act} (hH : HeapR C) (hh : C.H = s.heap) (ht : TR C nt s.tmps a) {o : Oper} {k : AV → Option R} (h : opF T s o.op k = some r) :
    ∃ v av, k av = some r ∧ AVR C av v ∧ ∀ w', (execOp a.eval o).run P w' = .ok (.value v) w' := by
  obtain ⟨dst, op, type, pos, after, guard⟩ := o
  simp only at h
  unfold opF at h
  split at h
  · exact ⟨_, _, h, ev_r ht _, fun w' => rfl⟩
  · exact ⟨_, _, h, ev_r ht _, fun w' => rfl⟩
  · rename_i x
    obtain ⟨⟨A, hA⟩, hk⟩ := nilcK_r (ev_r ht x) h
    exact ⟨_, _, hk, ev_r ht x, fun w' => by simp [execOp, hA]⟩
  · exact (fieldAddrK_r hT hh (ev_r ht _) h).u
  · exact (indexAddrK_r hT hH hh (ev_r ht _) (ev_r ht _) h).u
  · exact (indexK_r hT (ev_r ht _) (ev_r ht _) h).u
  · rename_i op t x y _
    cases hn : isNilA (s.ev y)
    · rw [hn] at h
      exact (binK_r hT (ev_r ht _) (ev_r ht _) h).u
    · rw [hn] at h
      cases h
  · exact (unK_r (ev_r ht _) h).u
  · exact (extractK_r (ev_r ht _) h).u
  · exact (buildK_r hT ht h).u
  · cases h

theorem opP_r {T : Nat → Option TI} (hT : TOK P T) {s : St} {nt : Nat} {a : Act} (hH : HeapR C) (hh : C.H = s.heap) (ht : TR C nt s.tmps a) {o : Oper} {k : AV → Option R} (h : opP T s o.op k = some r) :
    GoodN P C r k (execOp a.eval o) := by
  obtain ⟨dst, op, type, pos, after, guard⟩ := o
  simp only at h
  unfold opP at h
  split at h
  · exact ⟨_, _, h, ev_r ht _, fun w' _ => rfl⟩
  · exact ⟨_, _, h, ev_r ht _, fun w' _ => rfl⟩
  · rename_i c x y
    obtain ⟨b, hb, h⟩ := condA_r (ev_r ht c) h
    cases b
    · exact ⟨_, _, h, ev_r ht y, fun w' _ => by simp [execOp, hb, asBool]⟩
    · exact ⟨_, _, h, ev_r ht x, fun w' _ => by simp [execOp, hb, asBool]⟩
  · exact (loadK_r hT hH hh (ev_r ht _) h).n
  · rename_i x
    obtain ⟨⟨A, hA⟩, hk⟩ := nilcK_r (ev_r ht x) h
    exact ⟨_, _, hk, ev_r ht x, fun w' _ => by simp [execOp, hA]⟩
  · exact (fieldAddrK_r hT hh (ev_r ht _) h).n
  · exact (indexAddrK_r hT hH hh (ev_r ht _) (ev_r ht _) h).n
  · exact (indexK_r hT (ev_r ht _) (ev_r ht _) h).n
  · rename_i op t x y _
    cases hn : isNilA (s.ev y)
    · rw [hn] at h
      exact (binK_r hT (ev_r ht _) (ev_r ht _) h).n
    · rw [hn] at h
      exact (nilK_r hT hH hh (ev_r ht _) (ev_r ht _) hn h).n
  · exact (unK_r (ev_r ht _) h).n
  · exact (convK_r hT hH hh (ev_r ht _) h).n
  · rename_i t x lo hi
    unfold sliceA at h
    split at h
    · rename_i b i o ver xlo hx hl hh'
      cases lo with
      | none => cases hl
      | some lo =>
        cases hi with
        | some hi => cases hh'
        | none =>
          simp only [Option.map_some, Option.some.injEq] at hl
          subst hl
          have hc := ev_r ht x
          rw [hx] at hc
          exact (sliceNK_r (P := P) hT hH hh hc (ev_r ht lo) h).n
    · refine (sliceK_r (vlo := lo.map a.eval) (vhi := hi.map a.eval) hT (ev_r ht _) ?_ ?_ h).n
      · cases lo <;> simp [ev_r ht]
      · cases hi <;> simp [ev_r ht]
  · rename_i t x hi mx
    obtain ⟨z1, h1⟩ := bool_cond h
    obtain ⟨z2, h2⟩ := bool_cond h1
    have hz : ∀ o : Operand, isZero (some (s.ev o)) = true → a.eval o = .int .i64 0 := by
      intro o ho
      have := ev_r ht o
      unfold isZero at ho
      split at ho
      · rename_i he
        simp only [Option.some.injEq] at he
        rw [he] at this
        exact this
      · cases ho
    cases hi with
    | none => cases z1
    | some hi =>
      have e1 := hz hi z1
      have e2 := hz mx z2
      have := (sliceE_r (P := P) hT hH hh (ev_r ht x) h2).n
      simpa [execOp, e1, e2] using this
  · exact (extractK_r (ev_r ht _) h).n
  · exact (buildK_r hT ht h).n
  · rename_i f first caps
    split at h
    case h_2 => cases h
    rename_i hf
    split at h
    case h_2 => cases h
    rename_i l hl
    have hf' : first = #[] := by simpa using hf
    subst hf'
    refine ⟨.func (.func f) #[] (caps.map a.eval), _, h, ⟨_, rfl, by simpa using capsOf_r ht caps.toList l hl⟩, fun w' _ => ?_⟩
    simp [execOp, Instr.makeFunc]
  · rename_i c
    obtain ⟨callee, args, argTypes⟩ := c
    simp only at h
    split at h
    · split at h
      case h_2 => cases h
      rename_i t x h1 h2
      obtain rfl : argTypes = #[t] := by apply Array.ext'; simpa using h1
      obtain rfl : args = #[x] := by apply Array.ext'; simpa using h2
      have := (lenK_r (ty := type) hT hH hh (ev_r ht x) h).n
      simpa [execOp, resolve, invoke, builtin] using this
    · split at h
      case h_2 => cases h
      rename_i x y h2
      obtain rfl : args = #[x, y] := by apply Array.ext'; simpa using h2
      have := (maxK_r (P := P) (ts := argTypes) (ty := type) (ev_r ht x) (ev_r ht y) h).n
      simpa [execOp, resolve, invoke, builtin] using this
    · split at h
      case h_2 => cases h
      rename_i x y h2
      obtain rfl : args = #[x, y] := by apply Array.ext'; simpa using h2
      have := (minK_r (P := P) (ts := argTypes) (ty := type) (ev_r ht x) (ev_r ht y) h).n
      simpa [execOp, resolve, invoke, builtin] using this
    · cases h
  · cases h
end
end Go.Proofs.YtcjfheidmlcbfaaGreatDoor.V
