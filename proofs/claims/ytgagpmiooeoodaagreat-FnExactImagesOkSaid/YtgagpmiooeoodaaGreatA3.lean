/- The interpreter's operations that leave memory alone are sound. -/
import Derived.Test.YtgagpmiooeoodaaGreatA2
import Derived.Laws.Strings
import Derived.Laws.Small
set_option linter.unusedVariables false
set_option linter.unusedSimpArgs false
namespace Go.Proofs.YtgagpmiooeoodaaGreat.A
open Go.RowKit

def aggD : TypeDesc → Bool
  | .struct _ => true
  | .array _ _ => true
  | _ => false

/-- What the table says of a type is so. -/
structure TIok (P : Program) (t : Nat) (ti : TI) : Prop where
  info : ∃ i z, P.info? t = some i ∧ i.size = ti.size ∧ i.bytes = ti.bytes ∧ i.zero = some z ∧ z.cells.size = ti.size ∧ ∀ C, LR C ti.zero z.cells.toList
  desc : ∃ d, P.underlying t = some d ∧ aggD d = ti.agg ∧
    match ti.k with
    | .int k => d = .int k
    | .bool => d = .bool
    | .str => d = .string
    | .slice e => d = .slice e
    | .struct => ∃ fs : Array Field, d = .struct fs ∧ fs.size = ti.offs.length ∧ ∀ (f off sz : Nat), ti.offs[f]? = some (off, sz) → ∃ fl : Field, fs[f]? = some fl ∧ fl.offset = off ∧ ∃ i, P.info? fl.type = some i ∧ i.size = sz
    | .arr n e => d = .array n e ∧ (∃ de i, P.underlying e = some de ∧ aggD de = false ∧ P.info? e = some i ∧ i.size = 1) ∧ ∀ (f off sz : Nat), ti.offs[f]? = some (off, sz) → off = f ∧ sz = 1
    | .other => True

def TOK (P : Program) (T : Nat → Option TI) : Prop := ∀ t ti, T t = some ti → TIok P t ti

def Ext (w w' : World) : Prop := ∀ b, b < w.heap.size → w'.heap[b]? = w.heap[b]?

theorem Ext.get {w w' : World} (h : Ext w w') {b : Nat} {o : Obj} (hb : w.heap[b]? = some o) : w'.heap[b]? = some o := by
  rw [h b (Array.getElem?_eq_some_iff.1 hb).1]; exact hb

section
variable {P : Program} {R : Type} {C : Cx} {r : R}

/-- It yields, in this world and in whatever one that holds the same memory and more, a value that the walk goes on with. -/
def GoodV (P : Program) (C : Cx) (r : R) (k : AV → Option R) (X : Sem Value) : Prop :=
  ∃ v av, k av = some r ∧ AVR C av v ∧ ∀ w', Ext C.w w' → X.run P w' = .ok v w'
def GoodN (P : Program) (C : Cx) (r : R) (k : AV → Option R) (X : Sem Next) : Prop :=
  ∃ v av, k av = some r ∧ AVR C av v ∧ ∀ w', Ext C.w w' → X.run P w' = .ok (.value v) w'

theorem GoodV.n {k : AV → Option R} {X : Sem Value} (h : GoodV P C r k X) : GoodN P C r k (do pure (.value (← X))) := by
  obtain ⟨v, av, h1, h2, h3⟩ := h
  exact ⟨v, av, h1, h2, fun w' hw => by simp [h3 w' hw]⟩

theorem addr_add (g o n : Nat) : (⟨g, o, none⟩ : Addr).add n = ⟨g, o + n, none⟩ := by
  unfold Addr.add; split <;> simp_all

theorem cell_at {w : World} {g : Nat} {cs : Array Value} {ty : TypeId} {fr : Nat × Nat} (h : w.heap[g]? = some (.cells cs ty fr)) (o : Nat) : w.cell? ⟨g, o, none⟩ = cs.toList[o]? := by
  simp [World.cell?, h]

theorem bool_cond {b : Bool} {x : Option R} (h : cond b x none = some r) : b = true ∧ x = some r := by
  cases b
  · cases h
  · exact ⟨rfl, h⟩
theorem beq_cond {a b : Nat} {x : Option R} (h : cond (Nat.beq a b) x none = some r) : a = b ∧ x = some r := by
  obtain ⟨h1, h2⟩ := bool_cond h
  exact ⟨Nat.eq_of_beq_eq_true h1, h2⟩
theorem ble_cond {a b : Nat} {x : Option R} (h : cond (Nat.ble a b) x none = some r) : a ≤ b ∧ x = some r := by
  obtain ⟨h1, h2⟩ := bool_cond h
  exact ⟨Nat.le_of_ble_eq_true h1, h2⟩

theorem condC_r {c : Cell} {v : Value} {x y : Option R} (hc : CellR C c v) (h : condC c x y = some r) : ∃ b, v = .bool b ∧ (bif b then x else y) = some r := by
  cases c <;> simp only [condC, CellR] at h hc
  case lit b => exact ⟨b, hc, by cases b <;> exact h⟩
  case bool b => exact ⟨b, hc, by cases b <;> simpa using h⟩
  case nbool b => exact ⟨!b, hc, by cases b <;> simpa using h⟩
  case prop p d => exact ⟨_, hc, by cases d <;> simpa [*] using h⟩
  case nprop p d => exact ⟨_, hc, by cases d <;> simpa [*] using h⟩
  all_goals cases h
theorem condA_r {c : AV} {v : Value} {x y : Option R} (hc : AVR C c v) (h : condA c x y = some r) : ∃ b, v = .bool b ∧ (bif b then x else y) = some r := by
  cases c with
  | c c => exact condC_r hc h
  | agg l => cases h
  | tup l => cases h

theorem mkV_r {agg : Bool} {cs : List Cell} {k : AV → Option R} (h : mkV agg cs k = some r) : (agg = true ∧ k (.agg cs) = some r) ∨ (agg = false ∧ ∃ x, cs = [x] ∧ k (.c x) = some r) := by
  cases agg
  · refine .inr ⟨rfl, ?_⟩
    simp only [mkV] at h
    split at h
    · rename_i x; exact ⟨x, rfl, h⟩
    · cases h
  · exact .inl ⟨rfl, h⟩

theorem enc_r {f : Bool} : ∀ (t : Ty) (x : t.den) (vs : List Value), Rd C.w (C.Sf f) t x vs → LR C (enc f t x) vs := by
  intro t
  induction t with
  | int k => intro x vs h; obtain rfl : vs = _ := h; exact ⟨rfl, trivial⟩
  | bool => intro x vs h; obtain rfl : vs = _ := h; exact ⟨rfl, trivial⟩
  | str => intro x vs h; obtain rfl : vs = _ := h; exact ⟨rfl, trivial⟩
  | sl t ih =>
    intro x vs h
    obtain ⟨A, cap, hv, h2⟩ := h
    subst hv
    exact ⟨⟨A, cap, rfl, h2⟩, trivial⟩
  | pair a b iha ihb =>
    intro x vs h
    rw [← List.take_append_drop a.width vs]
    exact (iha _ _ h.1).append (ihb _ _ h.2)

theorem enc_length (f : Bool) : ∀ (t : Ty) (x : t.den), (enc f t x).length = t.width := by
  intro t
  induction t with
  | pair a b iha ihb => intro x; simp [enc, Ty.width, iha, ihb]
  | _ => intro x; rfl

theorem run_isAgg {t : Nat} {d : TypeDesc} (hu : P.underlying t = some d) (w : World) : (isAgg t).run P w = .ok (aggD d) w := by
  unfold isAgg
  rw [Sem.run_bind, run_underlying hu w]
  cases d <;> rfl

/-- A load out of cells that are known. -/
theorem load_cut {t : Nat} {ti : TI} (hti : TIok P t ti) {l : List Cell} {vs : List Value} (hl : LR C l vs) {o : Nat} {k : AV → Option R} (h : cutK ti l o k = some r) {g base : Nat}
    (hc : ∀ w', Ext C.w w' → ∀ j v, vs[j]? = some v → w'.cell? ⟨g, base + j, none⟩ = some v) : GoodV P C r k (loadVar t ⟨g, base + o, none⟩) := by
  obtain ⟨hle, hm⟩ := ble_cond h
  obtain ⟨⟨i, z, hi, hs, _⟩, d, hu, ha, _⟩ := hti
  have hlr := (hl.drop o).take ti.size
  have hlen := hlr.length
  have hln : ((l.drop o).take ti.size).length = ti.size := by rw [List.length_take, List.length_drop]; omega
  rw [hln] at hlen
  rcases mkV_r hm with ⟨hag, hk⟩ | ⟨hag, x, hx, hk⟩
  · refine ⟨.agg ((vs.drop o).take ti.size).toArray, _, hk, ⟨_, rfl, by simpa using hlr⟩, fun w' hw => ?_⟩
    have hld := run_loadCells_list (P := P) w' ⟨g, base + o, none⟩ ((vs.drop o).take ti.size) (fun j v hv => by
      rw [addr_add, Nat.add_assoc]
      refine hc w' hw (o + j) v ?_
      rw [List.getElem?_take] at hv
      split at hv
      · rw [List.getElem?_drop] at hv; exact hv
      · cases hv)
    rw [hlen] at hld
    simp [loadVar, run_isAgg hu, ha, hag, sizeOf, typeInfo, hi, hs, hld]
  · rw [hx] at hlr hln
    have hsz : ti.size = 1 := by simpa using hln.symm
    cases hvs : (vs.drop o).take ti.size with
    | nil => rw [hvs] at hlr; exact hlr.elim
    | cons v rest =>
      rw [hvs] at hlr
      refine ⟨v, _, hk, hlr.1, fun w' hw => ?_⟩
      have hv : vs[o]? = some v := by
        have h1 := congrArg (·[0]?) hvs
        simp only [List.getElem?_cons_zero, List.getElem?_take, hsz] at h1
        simpa using h1
      have := hc w' hw o v hv
      simp [loadVar, run_isAgg hu, ha, hag, this]

theorem loadK_r {T : Nat → Option TI} (hT : TOK P T) {s : St} (hH : HeapR C) (hh : C.H = s.heap) {t : Nat} {p : AV} {v : Value} (hp : AVR C p v) {k : AV → Option R} (h : loadK T s t p k = some r) :
    GoodV P C r k (Instr.loadAt t v) := by
  unfold loadK at h
  split at h
  · cases h
  rename_i ti hti
  have hok := hT t ti hti
  split at h
  · -- a variable of the call's own
    rename_i b o
    split at h
    · rename_i ty l hb
      rw [← hh] at hb
      obtain ⟨_, _, hs⟩ := (hp : CellR C (.ptr b o) v)
      obtain ⟨g', hr, rfl⟩ := hs (by simp [shp, hb])
      obtain ⟨g, cs, hρ, hg, hl⟩ := hH.blk b _ hb
      rw [hρ] at hr
      obtain rfl : g = g' := by simpa using hr
      have := load_cut (g := g) (base := 0) hok hl h (fun w' hw j u hu => by
        rw [cell_at (hw.get hg)]; simpa using hu)
      simpa [Instr.loadAt, Instr.sureAddr] using this
    · cases h
  · rename_i b i o
    split at h
    · rename_i y ety l f hb
      rw [← hh] at hb
      obtain ⟨_, _, hs⟩ := (hp : CellR C (.eptr b i o) v)
      obtain ⟨hlt, g', len, cap, hr, rfl⟩ := hs y l.length (by simp [shp, hb])
      obtain ⟨xs, hown, _, hrd⟩ := hH.blk b _ hb
      have hx : l[i]? = some (l.getD i y.zero) := by rw [List.getD_eq_getElem?_getD, List.getElem?_eq_getElem hlt]; rfl
      have hrd' := hrd i _ hx
      rcases hown.parts.2 with ⟨hn, _⟩ | ⟨g, cap', cur, he, hg, hnc, _, hsz, htk⟩
      · omega
      rw [hr] at he
      obtain ⟨rfl, rfl, rfl⟩ : g' = g ∧ len = l.length ∧ cap = cap' := by simpa using he
      have := load_cut (g := g') (base := i * y.width) hok (enc_r y _ _ hrd') h (fun w' hw j u hu => by
        rw [cell_at (hw.get hg)]
        rw [List.getElem?_take] at hu
        split at hu
        · rw [List.getElem?_drop, ← htk, List.getElem?_take] at hu
          split at hu
          · exact hu
          · cases hu
        · cases hu)
      simpa [Instr.loadAt, Instr.sureAddr] using this
    · cases h
  · rename_i f y x o
    obtain ⟨g, off, cs, ty, fr, hS, hg, hrd, rfl⟩ := (hp : CellR C (.sptr f y x o) v)
    have := load_cut (g := g) (base := off) hok (enc_r y _ _ hrd) h (fun w' hw j u hu => by
      rw [cell_at (hw.get hg)]
      rw [List.getElem?_take] at hu
      split at hu
      · rw [List.getElem?_drop] at hu; exact hu
      · cases hu)
    simpa [Instr.loadAt, Instr.sureAddr] using this
  · cases h

theorem fieldAddrK_r {T : Nat → Option TI} (hT : TOK P T) {s : St} (hh : C.H = s.heap) {t : Nat} {p : AV} {v : Value} (hp : AVR C p v) {f : Nat} {k : AV → Option R} (h : fieldAddrK T s t p f k = some r) :
    GoodV P C r k (Instr.fieldAt t v f) := by
  unfold fieldAddrK at h
  split at h
  · cases h
  rename_i ti hti
  obtain ⟨_, d, hu, ha, hd⟩ := hT t ti hti
  split at h
  case h_2 => cases h
  rename_i off sz hk ho
  rw [hk] at hd
  obtain ⟨fs, rfl, hfn, hf⟩ := hd
  obtain ⟨fl, hfl, hoff, i, hi, hsz⟩ := hf f off sz ho
  have hz : sz ≠ 0 := by
    intro e
    subst e
    simp at h
  have hb : Nat.beq sz 0 = false := by
    cases hq : Nat.beq sz 0
    · rfl
    · exact absurd (Nat.eq_of_beq_eq_true hq) hz
  rw [hb] at h
  simp only [cond_false] at h
  have key : ∀ a : Addr, ∀ w' : World, (Instr.fieldAt t (.pointer (some a)) f).run P w' = .ok (.pointer (some (a.add off))) w' := by
    intro a w'
    have hsz' : i.size ≠ 0 := by omega
    simp [Instr.fieldAt, run_underlying hu, hfl, Instr.sureAddr, fieldPlace, sizeOf, typeInfo, hi, hsz', hoff]
  split at h
  · rename_i b o
    split at h
    case h_2 => cases h
    rename_i hb
    rw [← hh] at hb
    obtain ⟨h1, h2, h3⟩ := (hp : CellR C (.ptr b o) v)
    obtain ⟨g, hr, rfl⟩ := h3 (by simp [shp, hb])
    exact ⟨_, _, h, ⟨rfl, h2, fun _ => ⟨g, hr, rfl⟩⟩, fun w' _ => by rw [key, addr_add]⟩
  · rename_i b i o
    split at h
    case h_2 => cases h
    rename_i y ety l fl hb
    rw [← hh] at hb
    obtain ⟨h1, h2, h3⟩ := (hp : CellR C (.eptr b i o) v)
    have hsh : shp C.H b = some (.arr y l.length) := by simp [shp, hb]
    obtain ⟨hlt, g, len, cap, hr, rfl⟩ := h3 _ _ hsh
    refine ⟨_, _, h, ⟨rfl, h2, fun t' n hs => ?_⟩, fun w' _ => by rw [key, addr_add, Nat.add_assoc]⟩
    rw [hsh] at hs
    cases hs
    exact ⟨hlt, g, len, cap, hr, rfl⟩
  · rename_i fl y x o
    obtain ⟨g, off', cs, ty, fr, hS, hg, hrd, rfl⟩ := (hp : CellR C (.sptr fl y x o) v)
    exact ⟨_, _, h, ⟨g, off', cs, ty, fr, hS, hg, hrd, rfl⟩, fun w' _ => by rw [key, addr_add, Nat.add_assoc]⟩
  · cases h

theorem indexAddrK_r {T : Nat → Option TI} (hT : TOK P T) {s : St} (hH : HeapR C) (hh : C.H = s.heap) {t : Nat} {p ix : AV} {v u : Value} (hp : AVR C p v) (hx : AVR C ix u) {k : AV → Option R} (h : indexAddrK T s t p ix k = some r) :
    GoodV P C r k (Instr.indexAt t v u) := by
  unfold indexAddrK at h
  split at h
  · cases h
  rename_i ti hti
  obtain ⟨_, d, hu, ha, hd⟩ := hT t ti hti
  split at h
  case h_2 => cases h
  rename_i e hk
  rw [hk] at hd
  obtain rfl : d = .slice e := hd
  split at h
  · cases h
  rename_i te hte
  obtain ⟨⟨i, z, hi, hsz, _⟩, _⟩ := hT e te hte
  have key : ∀ (kd : IntKind) (n : Int) (g off len cap : Nat) (w' : World), 0 ≤ n → n < (len : Int) → (Instr.indexAt t (.slice (some ⟨g, off, none⟩) len cap) (.int kd n)).run P w' = .ok (.pointer (some ⟨g, off + n.toNat * te.size, none⟩)) w' := by
    intro kd n g off len cap w' h0 h1
    have h2 : 0 ≤ n ∧ n < (len : Int) := ⟨h0, h1⟩
    simp [Instr.indexAt, asIntOf, run_underlying hu, h2, sizeOf, typeInfo, hi, hsz, addr_add]
  split at h
  · rename_i f y l kd n
    obtain ⟨hw, h⟩ := beq_cond h
    split at h
    case isFalse => cases h
    rename_i h0
    split at h
    case isFalse => cases h
    rename_i h1
    obtain rfl : u = .int kd n := hx
    obtain ⟨A, cap, hv, hlc, hne⟩ := (hp : Rd C.w (C.Sf f) (.sl y) l [v])
    obtain rfl : v = _ := by simpa using hv
    have hlt : n.toNat < l.length := by omega
    obtain ⟨g, off, cs, ty, fr, rfl, hS, hg, hall⟩ := hne (by intro e; subst e; simp at hlt)
    have hxx : l[n.toNat]? = some (l.getD n.toNat y.zero) := by rw [List.getD_eq_getElem?_getD, List.getElem?_eq_getElem hlt]; rfl
    refine ⟨_, _, h, ⟨g, off + n.toNat * y.width, cs, ty, fr, hS, hg, hall _ _ hxx, rfl⟩, fun w' _ => ?_⟩
    rw [key kd n g off l.length cap w' h0 h1, hw]
    simp
  · rename_i b kd n
    split at h
    case h_2 => cases h
    rename_i y ety l f hb
    rw [← hh] at hb
    obtain ⟨hw, h⟩ := beq_cond h
    split at h
    case isFalse => cases h
    rename_i h0
    split at h
    case isFalse => cases h
    rename_i h1
    obtain rfl : u = .int kd n := hx
    obtain ⟨ho, hlen, hs⟩ := (hp : CellR C (.own b) v)
    have hsh : shp C.H b = some (.arr y l.length) := by simp [shp, hb]
    have hv := hs _ _ hsh
    obtain ⟨xs, hown, _, hrd⟩ := hH.blk b _ hb
    rw [← hv] at hown
    have hlt : n.toNat < l.length := by omega
    rcases hown.parts.2 with ⟨hn, _⟩ | ⟨g, cap, cur, rfl, hg, hnc, _, _, htk⟩
    · omega
    refine ⟨_, _, h, ⟨rfl, hlen, fun t' n' hs' => ?_⟩, fun w' _ => by rw [key kd n g 0 l.length cap w' h0 h1]⟩
    rw [hsh] at hs'
    cases hs'
    exact ⟨hlt, g, l.length, cap, hv.symm, by simp [hw]⟩
  · cases h

theorem bt_get (s : ByteArray) (n : Int) (h0 : 0 ≤ n) (h1 : n < (s.size : Int)) : ∃ b : UInt8, s[n.toNat]? = some b ∧ bt s n = (b.toNat : Int) := by
  have hlt : n.toNat < s.size := by omega
  exact ⟨s[n.toNat], by simp [hlt], by simp [bt, hlt]⟩

theorem ints_r {kd : IntKind} : ∀ (cs : List Cell) (l : List Int) (vs : List Value), ints kd cs = some l → LR C cs vs → vs = l.map fun n => .int kd n
  | [], l, vs, h, hl => by
    cases h
    cases vs
    · rfl
    · cases hl
  | c :: r, l, [], h, hl => by cases hl
  | c :: r, l, v :: vs, h, hl => by
    unfold ints at h
    split at h
    case h_1 => simp_all
    case h_3 => cases h
    rename_i k n r' he
    cases he
    split at h
    case isFalse => cases h
    rename_i hk
    subst hk
    split at h
    case h_2 => cases h
    rename_i l' hl'
    cases h
    obtain ⟨h1, h2⟩ := hl
    obtain rfl : v = .int k n := h1
    rw [ints_r _ _ _ hl' h2]
    rfl

theorem indexK_r {T : Nat → Option TI} (hT : TOK P T) {t : Nat} {p ix : AV} {v u : Value} (hp : AVR C p v) (hx : AVR C ix u) {k : AV → Option R} (h : indexK T t p ix k = some r) :
    GoodV P C r k (Instr.index t v u) := by
  unfold indexK at h
  split at h
  · cases h
  rename_i ti hti
  obtain ⟨_, d, hu, ha, hd⟩ := hT t ti hti
  split at h
  case h_3 => cases h
  case h_2 =>
    rename_i n e kd a cr kx i hk
    rw [hk] at hd
    obtain ⟨rfl, ⟨de, ie, hue, hae, hie, hse⟩, _⟩ := hd
    split at h
    case h_2 => cases h
    rename_i l hl
    split at h
    case isFalse => cases h
    rename_i h0
    split at h
    case isFalse => cases h
    rename_i h1
    obtain ⟨hlen, h⟩ := beq_cond h
    obtain rfl : u = .int kx i := hx
    obtain ⟨cs, rfl, hcs⟩ := hp
    have hv := ints_r _ _ _ hl hcs
    have hL := hcs.length
    rw [hlen] at hL
    have hl2 : l.length = n := by rw [hv] at hL; simpa using hL
    have hlt : i.toNat < l.length := by omega
    have hget : cs[i.toNat]? = some (.int kd (l.getD i.toNat 0)) := by
      have : cs.toList[i.toNat]? = some (.int kd (l.getD i.toNat 0)) := by rw [hv]; simp [hlt]
      simpa using this
    exact ⟨.int kd (l.getD i.toNat 0), _, h, rfl, fun w' _ => by simp [Instr.index, asIntOf, run_underlying hu, h0, h1, part, run_isAgg hue, hae, sizeOf, typeInfo, hie, hse, hget]⟩
  rename_i s kd n hk
  rw [hk] at hd
  obtain rfl : d = .string := hd
  split at h
  case isFalse => cases h
  rename_i h0
  split at h
  case isFalse => cases h
  rename_i h1
  obtain rfl : u = .int kd n := hx
  obtain rfl : v = .string s := hp
  obtain ⟨b, hb, hbt⟩ := bt_get s n h0 h1
  exact ⟨.int .u8 (bt s n), _, h, rfl, fun w' _ => by simp [Instr.index, asIntOf, run_underlying hu, h0, hb, hbt]⟩

theorem wrapK_eq (k : IntKind) (n : Int) : wrapK k n = k.wrap n := by
  cases k <;> try rfl
  rw [IntKind.wrap_i64]; rfl

theorem binI_r {op : BinOp} {kd : IntKind} {a b : Int} {t : TypeId} {x y : Operand} {k : AV → Option R} (hop : op ≠ .shl ∧ op ≠ .shr) (h : binI op kd a b k = some r) :
    GoodV P C r k (do eqGuard op t x y (.int kd a) (.int kd b); binOp op t (.int kd a) (.int kd b)) := by
  have hg : ∀ w' : World, (eqGuard op t x y (.int kd a) (.int kd b)).run P w' = .ok () w' := by
    intro w'
    unfold eqGuard
    cases op <;> simp
  have hb1 : (a == b) = decide (a = b) := by by_cases e : a = b <;> simp [e]
  have hb2 : (a != b) = !decide (a = b) := by rw [bne, hb1]
  unfold binI at h
  cases op <;> simp only at h <;> first | (exact absurd rfl hop.1) | (exact absurd rfl hop.2) | skip
  case quo =>
    split at h
    · cases h
    rename_i hb
    exact ⟨_, _, h, rfl, fun w' _ => by simp [hg, binOp, Op.intDiv, hb, wrapK_eq]⟩
  case rem =>
    split at h
    · cases h
    rename_i hb
    exact ⟨_, _, h, rfl, fun w' _ => by simp [hg, binOp, Op.intDiv, hb]⟩
  all_goals first
    | cases h
    | (refine ⟨_, _, h, rfl, fun w' _ => ?_⟩; simp [hg, binOp, Op.intArith, wrapK_eq]; done)
    | (refine ⟨_, _, h, rfl, fun w' _ => ?_⟩; simp [hg, binOp, Op.intBits, bitAnd, bitOr, bitXor, bitAndNot]; done)
    | (refine ⟨_, _, h, rfl, fun w' _ => ?_⟩; simp [hg, binOp, Op.intCmp, hb1, hb2]; done)

theorem toB_r {c : Cell} {v : Value} {b : Bool} (hc : CellR C c v) (h : c.toB = some b) : v = .bool b := by
  cases c <;> simp only [Cell.toB, Option.some.injEq] at h <;> first | (cases h; done) | (subst h; exact hc)

theorem binS_r {op : BinOp} {a b : ByteArray} {t : TypeId} {x y : Operand} {k : AV → Option R} (h : binS op a b k = some r) :
    GoodV P C r k (do eqGuard op t x y (.string a) (.string b); binOp op t (.string a) (.string b)) := by
  have hg : ∀ w' : World, (eqGuard op t x y (.string a) (.string b)).run P w' = .ok () w' := by
    intro w'
    unfold eqGuard
    cases op <;> simp
  have he : (a.toList == b.toList) = decide (a = b) := by
    by_cases e : a = b
    · simp [e]
    · have : a.toList ≠ b.toList := fun h => e (ByteArray.ext (by have := congrArg List.toArray h; simpa [ByteArray.toList_eq] using this))
      simp [e, this]
  unfold binS at h
  cases op <;> simp only at h
  case add =>
    split at h
    case isFalse => cases h
    rename_i hb
    exact ⟨_, _, h, rfl, fun w' _ => by
      have : ¬ ((9223372036854775807 : Int) < (a.size : Int) + (b.size : Int)) := by omega
      simp [hg, binOp, Op.stringOp, IntKind.max, IntKind.signed, IntKind.bits, this]⟩
  all_goals first
    | cases h
    | (refine ⟨_, _, h, rfl, fun w' _ => ?_⟩; simp [hg, binOp, Op.stringOp, he]; done)

theorem binK_r {T : Nat → Option TI} (hT : TOK P T) {op : BinOp} {p q : AV} {v u : Value} (hp : AVR C p v) (hq : AVR C q u) {t : TypeId} {x y : Operand} {k : AV → Option R} (h : binK T t op p q k = some r) :
    GoodV P C r k (do eqGuard op t x y v u; binOp op t v u) := by
  unfold binK at h
  split at h
  · rename_i kd a kd' b
    obtain rfl : v = .int kd a := hp
    obtain rfl : u = .int kd' b := hq
    split at h
    · split at h
      · cases h
      rename_i hb
      exact ⟨_, _, h, rfl, fun w' _ => by simp [eqGuard, binOp, Op.shift, hb, shl]⟩
    · split at h
      · cases h
      rename_i hb
      refine ⟨_, _, h, rfl, fun w' _ => ?_⟩
      have : ∀ n : Nat, a.fdiv (2 ^ n) = a / 2 ^ n := fun n => Int.fdiv_eq_ediv_of_nonneg _ (Int.le_of_lt (Int.pow_pos (by decide)))
      simp [eqGuard, binOp, Op.shift, hb, shr, this]
    · rename_i h1 h2
      split at h
      case isFalse => cases h
      rename_i he
      subst he
      exact binI_r ⟨h1, h2⟩ h
  · rename_i a b
    obtain rfl : v = .string a := hp
    obtain rfl : u = .string b := hq
    exact binS_r h
  · rename_i cx cy _ _
    split at h
    · cases h
    rename_i ti hti
    obtain ⟨_, d, hu, _, hd⟩ := hT t ti hti
    split at h
    case h_2 => cases h
    rename_i a b hk ha hb
    rw [hk] at hd
    obtain rfl : d = .bool := hd
    have e1 : v = .bool a := toB_r hp ha
    have e2 : u = .bool b := toB_r hq hb
    subst e1
    subst e2
    have hg : ∀ w' : World, (eqGuard op t x y (.bool a) (.bool b)).run P w' = .ok () w' := by
      intro w'
      unfold eqGuard
      cases op <;> simp
    split at h
    · exact ⟨_, _, h, rfl, fun w' _ => by simp [hg, binOp, run_equal_bool w' t a b hu]⟩
    · exact ⟨_, _, h, rfl, fun w' _ => by simp [hg, binOp, run_equal_bool w' t a b hu]⟩
    · cases h
  · cases h

theorem unK_r {op : UnOp} {p : AV} {v : Value} (hp : AVR C p v) {k : AV → Option R} (h : unK op p k = some r) : GoodV P C r k (Op.unary op v) := by
  unfold unK at h
  split at h
  case h_7 => cases h
  case h_6 kd n =>
    obtain rfl : v = .int kd n := hp
    exact ⟨_, _, h, rfl, fun w' _ => by simp [Op.unary, Op.intArith, wrapK_eq]⟩
  all_goals
    have hv : v = _ := hp
    subst hv
    refine ⟨_, _, h, ?_, fun w' _ => rfl⟩
    simp [AVR, CellR]

theorem convK_r {T : Nat → Option TI} (hT : TOK P T) {src dst : Nat} {p : AV} {v : Value} (hp : AVR C p v) {k : AV → Option R} (h : convK T src dst p k = some r) : GoodV P C r k (convert src dst v) := by
  unfold convK at h
  split at h
  case h_3 => cases h
  · rename_i ts td kd n h1 h2
    obtain ⟨_, d, hu, _, hd⟩ := hT _ _ h2
    obtain ⟨_, ds, hus, _, _⟩ := hT _ _ h1
    obtain rfl : v = .int kd n := hp
    split at h
    case h_2 => cases h
    rename_i k' hk
    rw [hk] at hd
    obtain rfl : d = .int k' := hd
    exact ⟨_, _, h, rfl, fun w' _ => by simp [convert, run_underlying hu, run_underlying hus, Conv.intToInt, wrapK_eq]⟩
  · rename_i ts td s h1 h2
    obtain ⟨_, d, hu, _, hd⟩ := hT _ _ h2
    obtain ⟨_, ds, hus, _, _⟩ := hT _ _ h1
    obtain rfl : v = .string s := hp
    split at h
    case h_2 => cases h
    rename_i hk
    rw [hk] at hd
    obtain rfl : d = .string := hd
    exact ⟨_, _, h, rfl, fun w' _ => by simp [convert, run_underlying hu, run_underlying hus]⟩

theorem bound_r {lo : Option AV} {vlo : Option Value} (hlo : match lo, vlo with | none, none => True | some x, some v => AVR C x v | _, _ => False) {n : Int} {kd : IntKind} {a : Int}
    (h : (match lo with | none => AV.c (.int .i64 n) | some v => v) = .c (.int kd a)) : (vlo = none ∧ a = n) ∨ vlo = some (.int kd a) := by
  cases lo with
  | none =>
    cases vlo with
    | none => simp only [AV.c.injEq, Cell.int.injEq] at h; exact .inl ⟨rfl, h.2.symm⟩
    | some v => exact hlo.elim
  | some x =>
    cases vlo with
    | none => exact hlo.elim
    | some v => simp only at h; subst h; exact .inr (congrArg some hlo)

theorem run_sliceBound (kd : IntKind) (n : Int) (y : Nat) (code : BoundsCode) (w : World) (h0 : 0 ≤ n) (h1 : n ≤ (y : Int)) : (Instr.sliceBound (.int kd n) y code).run P w = .ok n.toNat w := by
  have : 0 ≤ n ∧ n ≤ (y : Int) := ⟨h0, h1⟩
  simp [Instr.sliceBound, asIntOf, this]

theorem run_sliceBounds (isSlice : Bool) (len cap : Nat) (vlo vhi : Option Value) (k1 k2 : IntKind) (a b : Int) (hlo : (vlo = none ∧ a = 0) ∨ vlo = some (.int k1 a)) (hhi : (vhi = none ∧ b = (len : Int)) ∨ vhi = some (.int k2 b))
    (h0 : 0 ≤ a) (h1 : a ≤ b) (h2 : b ≤ (cap : Int)) (w : World) : (Instr.sliceBounds isSlice len cap vlo vhi none).run P w = .ok (a.toNat, b.toNat, cap) w := by
  have h1' : a ≤ ((b.toNat : Nat) : Int) := by omega
  have hb : ∀ code, (Instr.sliceBound (.int k2 b) cap code).run P w = .ok b.toNat w := fun code => run_sliceBound _ _ _ _ _ (by omega) h2
  have hl : ∀ code, (Instr.sliceBound (.int k1 a) b.toNat code).run P w = .ok a.toNat w := fun code => run_sliceBound _ _ _ _ _ h0 h1'
  unfold Instr.sliceBounds
  rcases hlo with ⟨rfl, rfl⟩ | rfl <;> rcases hhi with ⟨rfl, rfl⟩ | rfl
  · simp
  · simp [hb]
  · simp only [Int.toNat_natCast] at hl
    simp [hl]
  · simp [hb, hl]

theorem sliceK_r {T : Nat → Option TI} (hT : TOK P T) {t : Nat} {p : AV} {v : Value} (hp : AVR C p v) {lo hi : Option AV} {vlo vhi : Option Value}
    (hlo : match lo, vlo with | none, none => True | some x, some v => AVR C x v | _, _ => False) (hhi : match hi, vhi with | none, none => True | some x, some v => AVR C x v | _, _ => False)
    {k : AV → Option R} (h : sliceK T t p lo hi k = some r) : GoodV P C r k (Instr.sliceAt t v vlo vhi none) := by
  unfold sliceK at h
  split at h
  · cases h
  rename_i ti hti
  obtain ⟨_, d, hu, ha, hd⟩ := hT t ti hti
  split at h
  case h_3 => cases h
  · rename_i s hk
    rw [hk] at hd
    obtain rfl : d = .string := hd
    obtain rfl : v = .string s := hp
    split at h
    case h_2 => cases h
    rename_i ka a kb b e1 e2
    split at h
    case isFalse => cases h
    rename_i h0
    split at h
    case isFalse => cases h
    rename_i h1
    split at h
    case isFalse => cases h
    rename_i h2
    refine ⟨_, _, h, rfl, fun w' _ => ?_⟩
    have := run_sliceBounds (P := P) false s.size s.size vlo vhi ka kb a b (bound_r hlo e1) (bound_r hhi e2) h0 h1 h2 w'
    simp [Instr.sliceAt, Instr.slice, run_underlying hu, this]
  · rename_i e f y l hk
    rw [hk] at hd
    obtain rfl : d = .slice e := hd
    split at h
    · cases h
    rename_i te hte
    obtain ⟨⟨i, z, hi', hsz, _⟩, _⟩ := hT e te hte
    obtain ⟨hw, h⟩ := beq_cond h
    split at h
    case h_2 => cases h
    rename_i ka a kb b e1 e2
    split at h
    case isFalse => cases h
    rename_i h0
    split at h
    case isFalse => cases h
    rename_i h1
    split at h
    case isFalse => cases h
    rename_i h2
    obtain ⟨A, cap, hv, hlc, hne⟩ := (hp : Rd C.w (C.Sf f) (.sl y) l [v])
    obtain rfl : v = _ := by simpa using hv
    have hbl : b.toNat ≤ l.length := by omega
    have hln : ((l.take b.toNat).drop a.toNat).length = b.toNat - a.toNat := by rw [List.length_drop, List.length_take]; omega
    have hrun : ∀ w' : World, (Instr.sliceAt t (.slice A l.length cap) vlo vhi none).run P w' = .ok (.slice (if cap = a.toNat then A else A.map (·.add (a.toNat * te.size))) (b.toNat - a.toNat) (cap - a.toNat)) w' := by
      intro w'
      have := run_sliceBounds (P := P) true l.length cap vlo vhi ka kb a b (bound_r hlo e1) (bound_r hhi e2) h0 h1 (by omega) w'
      simp [Instr.sliceAt, Instr.slice, run_underlying hu, this, sizeOf, typeInfo, hi', hsz]
    refine ⟨_, _, h, ?_, fun w' _ => hrun w'⟩
    refine ⟨_, cap - a.toNat, by rw [hln], by rw [hln]; omega, fun hn => ?_⟩
    have hpos : 0 < b.toNat - a.toNat := by
      rw [← hln]
      exact List.length_pos_iff.2 hn
    obtain ⟨g, off, cs, ty, fr, rfl, hS, hg, hall⟩ := hne (by intro e; subst e; simp at hn)
    rw [if_neg (by omega)]
    refine ⟨g, off + a.toNat * te.size, cs, ty, fr, by simp [addr_add], hS, hg, fun j x hx => ?_⟩
    rw [List.getElem?_drop, List.getElem?_take] at hx
    split at hx
    case isFalse => cases hx
    have := hall _ _ hx
    rw [hw, Nat.add_assoc, ← Nat.add_mul]
    exact this

theorem extractK_r {p : AV} {v : Value} (hp : AVR C p v) {i : Nat} {k : AV → Option R} (h : extractK p i k = some r) : GoodV P C r k (Instr.extract v i) := by
  unfold extractK at h
  split at h
  case h_2 => cases h
  rename_i l
  split at h
  case h_2 => cases h
  rename_i a cs hl
  obtain ⟨vs, rfl, htl⟩ := hp
  have key : ∀ (l : List (Bool × List Cell)) (vs : List Value) (i : Nat), TL C l vs → l[i]? = some (a, cs) → ∃ u, vs[i]? = some u ∧ SVR C (a, cs) u := by
    intro l
    induction l with
    | nil => intro vs i _ h; simp at h
    | cons p l ih =>
      intro vs i ht h
      cases vs with
      | nil => exact ht.elim
      | cons u vs =>
        cases i with
        | zero => simp at h; subst h; exact ⟨u, by simp, ht.1⟩
        | succ i => simp at h; obtain ⟨u', h1, h2⟩ := ih vs i ht.2 h; exact ⟨u', by simpa using h1, h2⟩
  obtain ⟨u, hu, hsv⟩ := key l vs.toList i htl hl
  have hrun : ∀ w' : World, (Instr.extract (.tuple vs) i).run P w' = .ok u w' := by
    intro w'
    have : vs[i]? = some u := by simpa using hu
    simp [Instr.extract, this]
  rcases mkV_r h with ⟨rfl, hk⟩ | ⟨rfl, x, rfl, hk⟩
  · exact ⟨u, _, hk, hsv, fun w' _ => hrun w'⟩
  · exact ⟨u, _, hk, hsv.1, fun w' _ => hrun w'⟩

theorem lenK_r {T : Nat → Option TI} (hT : TOK P T) {s : St} (hH : HeapR C) (hh : C.H = s.heap) {t : Nat} {p : AV} {v : Value} (hp : AVR C p v) {ty : TypeId} {k : AV → Option R} (h : lenK T s t p k = some r) :
    GoodV P C r k (Builtin.len_ #[t] ty #[v]) := by
  unfold lenK at h
  split at h
  · cases h
  rename_i ti hti
  obtain ⟨_, d, hu, ha, hd⟩ := hT t ti hti
  have slc : ∀ e, ti.k = .slice e → ∀ (A : Option Addr) (n cap : Nat) (w' : World), (Builtin.len_ #[t] ty #[.slice A n cap]).run P w' = .ok (.int .i64 (n : Int)) w' := by
    intro e hk A n cap w'
    rw [hk] at hd
    obtain rfl : d = .slice e := hd
    simp [Builtin.len_, run_underlying hu, goInt]
  split at h
  · rename_i e f y l hk
    obtain ⟨A, cap, hv, hlc, hne⟩ := (hp : Rd C.w (C.Sf f) (.sl y) l [v])
    obtain rfl : v = _ := by simpa using hv
    exact ⟨_, _, h, rfl, fun w' _ => slc e hk _ _ _ w'⟩
  · rename_i e hk
    obtain rfl : v = .slice none 0 0 := hp
    exact ⟨_, _, h, rfl, fun w' _ => slc e hk _ _ _ w'⟩
  · rename_i e hk
    obtain ⟨A, rfl⟩ := (hp : CellR C .emp v)
    exact ⟨_, _, h, rfl, fun w' _ => slc e hk _ _ _ w'⟩
  · rename_i s hk
    rw [hk] at hd
    obtain rfl : d = .string := hd
    obtain rfl : v = .string s := hp
    exact ⟨_, _, h, rfl, fun w' _ => by simp [Builtin.len_, run_underlying hu, goInt]⟩
  · rename_i e b hk
    split at h
    case h_2 => cases h
    rename_i y ety l f hb
    rw [← hh] at hb
    obtain ⟨_, _, hs⟩ := (hp : CellR C (.own b) v)
    have hv := hs y l.length (by simp [shp, hb])
    obtain ⟨xs, hown, _⟩ := hH.blk b _ hb
    rw [← hv] at hown
    rcases hown.parts.2 with ⟨hn, _, A, rfl⟩ | ⟨g, cap, cur, rfl, _⟩
    · exact ⟨_, _, h, rfl, fun w' _ => by rw [slc e hk, hn]⟩
    · exact ⟨_, _, h, rfl, fun w' _ => slc e hk _ _ _ w'⟩
  · cases h

theorem maxK_r {p q : AV} {v u : Value} (hp : AVR C p v) (hq : AVR C q u) {ts : Array TypeId} {ty : TypeId} {k : AV → Option R} (h : maxK mx p q k = some r) : GoodV P C r k (Builtin.max_ ts ty #[v, u]) := by
  unfold maxK at h
  split at h
  case h_2 => cases h
  rename_i kd a kd' b
  obtain rfl : v = .int kd a := hp
  obtain rfl : u = .int kd' b := hq
  exact ⟨_, _, h, rfl, fun w' _ => by simp [Builtin.max_, Builtin.max2, mx]⟩
theorem minK_r {p q : AV} {v u : Value} (hp : AVR C p v) (hq : AVR C q u) {ts : Array TypeId} {ty : TypeId} {k : AV → Option R} (h : maxK mn p q k = some r) : GoodV P C r k (Builtin.min_ ts ty #[v, u]) := by
  unfold maxK at h
  split at h
  case h_2 => cases h
  rename_i kd a kd' b
  obtain rfl : v = .int kd a := hp
  obtain rfl : u = .int kd' b := hq
  exact ⟨_, _, h, rfl, fun w' _ => by simp [Builtin.min_, Builtin.min2, mn]⟩

theorem LR.splice {l : List Cell} {vs : List Value} {o : Nat} {cs : List Cell} {us : List Value} (h : LR C l vs) (h' : LR C cs us) : LR C (splice l o cs) (vs.take o ++ us ++ vs.drop (o + us.length)) := by
  unfold A.splice
  rw [h'.length]
  exact ((h.take o).append h').append (h.drop _)

theorem fill_cells (cs : Array Value) (off : Nat) : ∀ (us : List Value) (i : Nat) (acc : Array Value), off + i + us.length ≤ acc.size →
    ((us.zipIdx i).foldl (fun cs (c, j) => cs.setIfInBounds (off + j) c) acc).toList = acc.toList.take (off + i) ++ us ++ acc.toList.drop (off + i + us.length)
  | [], i, acc, h => by simp
  | u :: us, i, acc, h => by
    simp only [List.zipIdx_cons, List.foldl_cons]
    rw [fill_cells cs off us (i + 1) (acc.setIfInBounds (off + i) u) (by simp at h ⊢; omega)]
    have e := list_seg_step acc.toList (off + i) u us (by simp at h ⊢; omega)
    simpa [Array.toList_setIfInBounds, Nat.add_assoc] using e

theorem buildK_go {s : St} {nt : Nat} {a : Act} (ht : TR C nt s.tmps a) {ti : TI} {k : AV → Option R} (place : Nat → Option (Nat × Nat)) (hplace : ∀ f off sz, ti.offs[f]? = some (off, sz) → place f = some (off, sz)) :
    ∀ (parts : List (Nat × Operand)) (acc : List Cell) (cs : Array Value), LR C acc cs.toList → buildK.go s k ti parts acc = some r →
      ∃ (out : Array Value) (l : List Cell), Instr.fill place cs (parts.map fun (i, x) => (i, a.eval x)) = some out ∧ LR C l out.toList ∧ k (.agg l) = some r
  | [], acc, cs, hl, h => ⟨cs, acc, rfl, hl, h⟩
  | (f, x) :: rest, acc, cs, hl, h => by
    simp only [buildK.go] at h
    split at h
    case h_2 => cases h
    rename_i off sz ho
    obtain ⟨hsz, h⟩ := beq_cond h
    obtain ⟨hkn, h⟩ := bool_cond h
    obtain ⟨hle, h⟩ := ble_cond h
    have hx := (ev_r ht x).cells hkn
    have hxl := hx.length
    rw [hsz] at hxl
    have hcl := hl.length
    have hfc := fill_cells cs off (a.eval x).cells.toList 0 cs (by simp at hxl hcl ⊢; omega)
    simp only [Nat.add_zero] at hfc
    obtain ⟨out, l, h1, h2, h3⟩ := buildK_go ht place hplace rest (splice acc off (s.ev x).cells) ((a.eval x).cells.zipIdx.foldl (fun cs (c, j) => cs.setIfInBounds (off + j) c) cs) (by
      have e : ((a.eval x).cells.zipIdx.foldl (fun cs (c, j) => cs.setIfInBounds (off + j) c) cs).toList = ((a.eval x).cells.toList.zipIdx.foldl (fun cs (c, j) => cs.setIfInBounds (off + j) c) cs).toList := by
        rw [← Array.foldl_toList]; simp
      rw [e, hfc]
      exact hl.splice hx) h
    refine ⟨out, l, ?_, h2, h3⟩
    simp only [List.map_cons, Instr.fill, hplace f off sz ho]
    have c1 : (a.eval x).cells.size = sz := by simpa using hxl
    have c2 : ¬ (off + sz > cs.size) := by simp at hcl; omega
    rw [if_neg (by simp [c1]; omega)]
    exact h1

theorem run_mapM {α β : Type} (f : α → Sem β) (g : α → β) : ∀ (l : List α), (∀ a ∈ l, ∀ w, (f a).run P w = .ok (g a) w) → ∀ w, (l.mapM f).run P w = .ok (l.map g) w
  | [], _, w => by simp
  | a :: l, h, w => by
    have h1 := h a (by simp)
    have h2 := run_mapM f g l (fun b hb => h b (by simp [hb]))
    simp [List.mapM_cons, h1, h2]
theorem buildK_r {T : Nat → Option TI} (hT : TOK P T) {s : St} {nt : Nat} {a : Act} (ht : TR C nt s.tmps a) {t : Nat} {parts : Array (Nat × Operand)} {k : AV → Option R} (h : buildK T s t parts.toList k = some r) :
    GoodV P C r k (Instr.build t (parts.map fun (i, x) => (i, a.eval x))) := by
  unfold buildK at h
  split at h
  · cases h
  rename_i ti hti
  obtain ⟨⟨i, z, hi, hsz, hby, hz, hzs, hzr⟩, d, hu, ha, hd⟩ := hT t ti hti
  split at h
  case h_3 => cases h
  case h_2 =>
    rename_i n e hk
    rw [hk] at hd
    obtain ⟨rfl, ⟨de, ie, hue, hae, hie, hse⟩, hoff⟩ := hd
    obtain ⟨out, l, h1, h2, h3⟩ := buildK_go ht (fun i => some (i * 1, 1)) (fun f off sz ho => by obtain ⟨rfl, rfl⟩ := hoff f off sz ho; simp) parts.toList ti.zero z.cells (hzr C) h
    refine ⟨.agg out, .agg l, h3, ⟨out, rfl, h2⟩, fun w' _ => ?_⟩
    have hp : (parts.map fun (i, x) => (i, a.eval x)).toList = parts.toList.map fun (i, x) => (i, a.eval x) := by simp
    simp only [Array.toList_map] at hp
    simp only [Nat.mul_one] at h1
    simp [Instr.build, zeroValue, typeInfo, hi, hz, run_underlying hu, sizeOf, hie, hse, h1]
  rename_i hk
  rw [hk] at hd
  obtain ⟨fs, rfl, hfn, hf⟩ := hd
  let g : Field → Nat × Nat := fun fl => (fl.offset, ((P.info? fl.type).map (·.size)).getD 0)
  have hall : ∀ fl ∈ fs.toList, ∃ i, P.info? fl.type = some i := by
    intro fl hm
    obtain ⟨n, hn⟩ := List.getElem?_of_mem hm
    have hlt : n < ti.offs.length := by rw [← hfn]; simpa using (List.getElem?_eq_some_iff.1 hn).1
    obtain ⟨fl', h1, _, j, hj, _⟩ := hf n _ _ (List.getElem?_eq_getElem hlt)
    have : fs[n]? = some fl := by simpa using hn
    rw [this] at h1
    cases h1
    exact ⟨j, hj⟩
  have hmap : ∀ w : World, (fs.mapM (fun f => Prod.mk f.offset <$> sizeOf f.type : Field → Sem (Nat × Nat))).run P w = .ok (fs.map g) w := by
    intro w
    rcases fs with ⟨l⟩
    rw [List.mapM_toArray]
    have := run_mapM (P := P) (fun f => Prod.mk f.offset <$> sizeOf f.type : Field → Sem (Nat × Nat)) g l (fun fl hm w => by
      obtain ⟨j, hj⟩ := hall fl hm
      simp [sizeOf, typeInfo, hj, g]) w
    simp [this]
  have hplace : ∀ (f off sz : Nat), ti.offs[f]? = some (off, sz) → (fs.map g)[f]? = some (off, sz) := by
    intro f off sz ho
    obtain ⟨fl, hfl, hoff, j, hj, hjs⟩ := hf f off sz ho
    simp [hfl, g, hj, hoff, hjs]
  obtain ⟨out, l, h1, h2, h3⟩ := buildK_go ht ((fs.map g)[·]?) hplace parts.toList ti.zero z.cells (hzr C) h
  refine ⟨.agg out, .agg l, h3, ⟨out, rfl, h2⟩, fun w' _ => ?_⟩
  have hp : (parts.map fun (i, x) => (i, a.eval x)).toList = parts.toList.map fun (i, x) => (i, a.eval x) := by simp
  simp only [Array.toList_map] at hp
  simp [Instr.build, zeroValue, typeInfo, hi, hz, run_underlying hu, hmap]
  simp only [Array.getElem?_map] at h1
  simp [h1]

theorem capsOf_r {s : St} {nt : Nat} {a : Act} (ht : TR C nt s.tmps a) : ∀ (caps : List Operand) (l : List Nat), capsOf s caps = some l → PtrsR C.H.length C.H C.ρ l (caps.map a.eval)
  | [], l, h => by cases h; trivial
  | x :: r, l, h => by
    simp only [capsOf] at h
    split at h
    case h_2 => cases h
    rename_i b hb
    split at h
    case h_2 => cases h
    rename_i l' hl
    cases h
    refine ⟨?_, capsOf_r ht r l' hl⟩
    have := ev_r ht x
    rw [hb] at this
    obtain ⟨_, h2, h3⟩ := this
    exact ⟨h2, fun hs => by obtain ⟨g, h4, h5⟩ := h3 hs; rw [h4, h5]⟩

/-- **An operation that leaves memory alone.** -/
theorem opP_r {T : Nat → Option TI} (hT : TOK P T) {s : St} {nt : Nat} {a : Act} (hH : HeapR C) (hh : C.H = s.heap) (ht : TR C nt s.tmps a) {o : Oper} {k : AV → Option R} (h : opP T s o.op k = some r) :
    GoodN P C r k (execOp a.eval o) := by
  obtain ⟨dst, op, type, pos, after, guard⟩ := o
  simp only at h
  unfold opP at h
  split at h
  · exact ⟨_, _, h, ev_r ht _, fun w' _ => rfl⟩
  · exact ⟨_, _, h, ev_r ht _, fun w' _ => rfl⟩
  · rename_i c x y
    obtain ⟨b, hb, h⟩ := condA_r (ev_r ht c) h
    cases b
    · exact ⟨_, _, h, ev_r ht y, fun w' _ => by simp [execOp, hb, asBool]⟩
    · exact ⟨_, _, h, ev_r ht x, fun w' _ => by simp [execOp, hb, asBool]⟩
  · exact (loadK_r hT hH hh (ev_r ht _) h).n
  · exact (fieldAddrK_r hT hh (ev_r ht _) h).n
  · exact (indexAddrK_r hT hH hh (ev_r ht _) (ev_r ht _) h).n
  · exact (indexK_r hT (ev_r ht _) (ev_r ht _) h).n
  · exact (binK_r hT (ev_r ht _) (ev_r ht _) h).n
  · exact (unK_r (ev_r ht _) h).n
  · exact (convK_r hT (ev_r ht _) h).n
  · rename_i t x lo hi
    refine (sliceK_r (vlo := lo.map a.eval) (vhi := hi.map a.eval) hT (ev_r ht _) ?_ ?_ h).n
    · cases lo <;> simp [ev_r ht]
    · cases hi <;> simp [ev_r ht]
  · exact (extractK_r (ev_r ht _) h).n
  · exact (buildK_r hT ht h).n
  · rename_i f first caps
    split at h
    case h_2 => cases h
    rename_i hf
    split at h
    case h_2 => cases h
    rename_i l hl
    have hf' : first = #[] := by simpa using hf
    subst hf'
    refine ⟨.func (.func f) #[] (caps.map a.eval), _, h, ⟨_, rfl, by simpa using capsOf_r ht caps.toList l hl⟩, fun w' _ => ?_⟩
    simp [execOp, Instr.makeFunc]
  · rename_i c
    obtain ⟨callee, args, argTypes⟩ := c
    simp only at h
    split at h
    · split at h
      case h_2 => cases h
      rename_i t x h1 h2
      obtain rfl : argTypes = #[t] := by apply Array.ext'; simpa using h1
      obtain rfl : args = #[x] := by apply Array.ext'; simpa using h2
      have := (lenK_r (ty := type) hT hH hh (ev_r ht x) h).n
      simpa [execOp, resolve, invoke, builtin] using this
    · split at h
      case h_2 => cases h
      rename_i x y h2
      obtain rfl : args = #[x, y] := by apply Array.ext'; simpa using h2
      have := (maxK_r (P := P) (ts := argTypes) (ty := type) (ev_r ht x) (ev_r ht y) h).n
      simpa [execOp, resolve, invoke, builtin] using this
    · split at h
      case h_2 => cases h
      rename_i x y h2
      obtain rfl : args = #[x, y] := by apply Array.ext'; simpa using h2
      have := (minK_r (P := P) (ts := argTypes) (ty := type) (ev_r ht x) (ev_r ht y) h).n
      simpa [execOp, resolve, invoke, builtin] using this
    · cases h
  · cases h
end
end Go.Proofs.YtgagpmiooeoodaaGreat.A
