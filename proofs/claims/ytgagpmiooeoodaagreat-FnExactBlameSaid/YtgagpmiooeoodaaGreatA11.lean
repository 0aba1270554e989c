/- Functions as data: their arguments, results and places by shapes; the contract out of equations. -/
import Derived.Test.YtgagpmiooeoodaaGreatA10
set_option linter.unusedVariables false
set_option linter.unusedSimpArgs false
set_option linter.unusedSectionVars false
namespace Go.Proofs.YtgagpmiooeoodaaGreat.A
open Go.RowKit

/-! ### The table of types -/

def zeroB : List Cell → List Value → Bool
  | [], [] => true
  | .int k n :: l, .int k' m :: vs => decide (k = k') && decide (n = m) && zeroB l vs
  | .lit b :: l, .bool b' :: vs => (b == b') && zeroB l vs
  | .str s :: l, .string s' :: vs => Nat.beq s.size 0 && Nat.beq s'.size 0 && zeroB l vs
  | .nil :: l, .slice none 0 0 :: vs => zeroB l vs
  | _, _ => false

theorem zeroB_r (C : Cx) : ∀ (l : List Cell) (vs : List Value), zeroB l vs = true → LR C l vs := by
  intro l vs h
  fun_induction zeroB l vs with
  | case1 => trivial
  | case2 k n l k' m vs ih =>
    simp only [Bool.and_eq_true, decide_eq_true_eq] at h
    obtain ⟨⟨rfl, rfl⟩, h⟩ := h
    exact ⟨rfl, ih h⟩
  | case3 b l b' vs ih =>
    simp only [Bool.and_eq_true, beq_iff_eq] at h
    obtain ⟨rfl, h⟩ := h
    exact ⟨rfl, ih h⟩
  | case4 s l s' vs ih =>
    simp only [Bool.and_eq_true] at h
    obtain ⟨⟨h1, h2⟩, h⟩ := h
    have e1 := Nat.eq_of_beq_eq_true h1
    have e2 := Nat.eq_of_beq_eq_true h2
    have : s' = s := by
      rcases s with ⟨a⟩
      rcases s' with ⟨b⟩
      have ha : a = #[] := Array.eq_empty_of_size_eq_zero e1
      have hb : b = #[] := Array.eq_empty_of_size_eq_zero e2
      rw [ha, hb]
    exact ⟨by show Value.string s' = Value.string s; rw [this], ih h⟩
  | case5 l vs ih => exact ⟨rfl, ih h⟩
  | case6 => cases h

def fieldsB (P : Program) : List Field → List (Nat × Nat) → Bool
  | [], [] => true
  | f :: fs, (o, s) :: r => Nat.beq f.offset o && (match P.info? f.type with | some i => Nat.beq i.size s | none => false) && fieldsB P fs r
  | _, _ => false

def unitB : Nat → List (Nat × Nat) → Bool
  | _, [] => true
  | n, (o, s) :: r => Nat.beq o n && (Nat.beq s 1 && unitB (n + 1) r)

theorem unitB_r : ∀ (n : Nat) (l : List (Nat × Nat)), unitB n l = true → ∀ (f off sz : Nat), l[f]? = some (off, sz) → off = n + f ∧ sz = 1
  | n, [], h, f, off, sz, hf => by simp at hf
  | n, (o, s) :: r, h, f, off, sz, hf => by
    simp only [unitB, Bool.and_eq_true] at h
    obtain ⟨h1, h2, h3⟩ := h
    cases f with
    | zero =>
      simp only [List.getElem?_cons_zero, Option.some.injEq, Prod.mk.injEq] at hf
      obtain ⟨rfl, rfl⟩ := hf
      exact ⟨by rw [Nat.eq_of_beq_eq_true h1]; rfl, Nat.eq_of_beq_eq_true h2⟩
    | succ f =>
      obtain ⟨k1, k2⟩ := unitB_r (n + 1) r h3 f off sz (by simpa using hf)
      exact ⟨by omega, k2⟩

def tkB (P : Program) (ti : TI) (d : TypeDesc) : Bool :=
  match ti.k, d with
  | .int k, .int k' => decide (k' = k)
  | .bool, .bool => true
  | .str, .string => true
  | .slice e, .slice e' => Nat.beq e' e
  | .struct, .struct fs => fieldsB P fs.toList ti.offs
  | .arr n e, .array n' e' => Nat.beq n' n && (Nat.beq e' e && (unitB 0 ti.offs && (match P.info? e, P.underlying e with | some i, some d => Nat.beq i.size 1 && (aggD d == false) | _, _ => false)))
  | .other, _ => true
  | _, _ => false

def tiB (P : Program) (t : Nat) (ti : TI) : Bool :=
  match P.info? t, P.underlying t with
  | some i, some d => Nat.beq i.size ti.size && Nat.beq i.bytes ti.bytes && (match i.zero with | some z => Nat.beq z.cells.size ti.size && zeroB ti.zero z.cells.toList | none => false) && (aggD d == ti.agg) && tkB P ti d
  | _, _ => false

theorem fieldsB_r {P : Program} : ∀ (fs : List Field) (offs : List (Nat × Nat)), fieldsB P fs offs = true → fs.length = offs.length ∧ ∀ (f off sz : Nat), offs[f]? = some (off, sz) → ∃ fl : Field, fs[f]? = some fl ∧ fl.offset = off ∧ ∃ i, P.info? fl.type = some i ∧ i.size = sz
  | [], [], _ => ⟨rfl, fun f off sz h => by simp at h⟩
  | f :: fs, (o, s) :: r, h => by
    simp only [fieldsB, Bool.and_eq_true] at h
    obtain ⟨⟨h1, h2⟩, h3⟩ := h
    obtain ⟨k1, k2⟩ := fieldsB_r fs r h3
    refine ⟨by simp [k1], fun n off sz hn => ?_⟩
    cases n with
    | zero =>
      simp only [List.getElem?_cons_zero, Option.some.injEq, Prod.mk.injEq] at hn
      obtain ⟨rfl, rfl⟩ := hn
      split at h2
      · rename_i i hi
        exact ⟨f, rfl, Nat.eq_of_beq_eq_true h1, i, hi, Nat.eq_of_beq_eq_true h2⟩
      · cases h2
    | succ n => simpa using k2 n off sz (by simpa using hn)
  | [], _ :: _, h => by cases h
  | _ :: _, [], h => by cases h

theorem tiB_r {P : Program} {t : Nat} {ti : TI} (h : tiB P t ti = true) : TIok P t ti := by
  unfold tiB at h
  split at h
  case h_2 => cases h
  rename_i i d hi hd
  simp only [Bool.and_eq_true, beq_iff_eq] at h
  obtain ⟨⟨⟨⟨h1, h2⟩, h3⟩, h4⟩, h5⟩ := h
  split at h3
  case h_2 => cases h3
  rename_i z hz
  simp only [Bool.and_eq_true] at h3
  refine ⟨⟨i, z, hi, Nat.eq_of_beq_eq_true h1, Nat.eq_of_beq_eq_true h2, hz, Nat.eq_of_beq_eq_true h3.1, fun C => zeroB_r C _ _ h3.2⟩, d, hd, h4, ?_⟩
  unfold tkB at h5
  split at h5
  · rename_i hk; rw [hk]; rw [decide_eq_true_eq] at h5; rw [h5]
  · rename_i hk; rw [hk]
  · rename_i hk; rw [hk]
  · rename_i hk; rw [hk]; rw [Nat.eq_of_beq_eq_true h5]
  · rename_i fs hk
    rw [hk]
    obtain ⟨k1, k2⟩ := fieldsB_r _ _ h5
    exact ⟨fs, rfl, by simpa using k1, fun f off sz hf => by obtain ⟨fl, h6, h7⟩ := k2 f off sz hf; exact ⟨fl, by simpa using h6, h7⟩⟩
  · rename_i hk
    rw [hk]
    simp only [Bool.and_eq_true] at h5
    obtain ⟨k1, k2, k3, k4⟩ := h5
    split at k4
    case h_2 => cases k4
    rename_i ie de hie hde
    simp only [Bool.and_eq_true, beq_iff_eq] at k4
    exact ⟨by rw [Nat.eq_of_beq_eq_true k1, Nat.eq_of_beq_eq_true k2], ⟨de, ie, hde, k4.2, hie, Nat.eq_of_beq_eq_true k4.1⟩, fun f off sz hf => by simpa using unitB_r 0 _ k3 f off sz hf⟩
  · rename_i hk; rw [hk]; trivial
  · cases h5

def lookT : List (Nat × TI) → Nat → Option TI
  | [], _ => none
  | (i, v) :: r, t => cond (Nat.beq i t) (some v) (lookT r t)

theorem tok_of {P : Program} {L : List (Nat × TI)} (h : (L.all fun p => tiB P p.1 p.2) = true) : TOK P (lookT L) := by
  intro t ti ht
  induction L with
  | nil => cases ht
  | cons p L ih =>
    simp only [List.all_cons, Bool.and_eq_true] at h
    simp only [lookT] at ht
    cases hb : Nat.beq p.1 t
    · rw [hb] at ht; exact ih h.2 ht
    · rw [hb] at ht
      cases ht
      have := Nat.eq_of_beq_eq_true hb
      subst this
      exact tiB_r h.1

/-! ### Arguments -/

@[reducible] def denTs : List Ty → Type
  | [] => Unit
  | t :: r => t.den × denTs r

inductive PS where
  | c (t : Ty)
  | agg (t : Ty)
  | cap (t : Ty)
  | fn (f : FuncId) (ts : List Ty)

@[reducible] def PS.den : PS → Type
  | .c t => t.den
  | .agg t => t.den
  | .cap t => t.den
  | .fn _ ts => denTs ts

def castT {t' t : Ty} (h : t' = t) (x : t'.den) : t.den := h ▸ x

def decCaps : (ts : List Ty) → List ((t : Ty) × t.den) → Option (denTs ts)
  | [], [] => some ()
  | t :: ts, ⟨t', x⟩ :: r => if h : t' = t then (match decCaps ts r with | some y => some (castT h x, y) | none => none) else none
  | _, _ => none
def encCaps : (ts : List Ty) → denTs ts → List ((t : Ty) × t.den)
  | [], _ => []
  | t :: ts, x => ⟨t, x.1⟩ :: encCaps ts x.2
theorem decCaps_some : ∀ (ts : List Ty) (l : List ((t : Ty) × t.den)) (x : denTs ts), decCaps ts l = some x → l = encCaps ts x
  | [], [], _, _ => rfl
  | t :: ts, ⟨t', x⟩ :: r, y, h => by
    simp only [decCaps] at h
    split at h
    case isFalse => cases h
    rename_i e
    split at h
    case h_2 => cases h
    rename_i z hz
    cases h
    subst e
    rw [decCaps_some ts r z hz]
    rfl
  | [], _ :: _, _, h => by cases h
  | _ :: _, [], _, h => by cases h

def encC : (t : Ty) → t.den → Cell
  | .int k, n => .int k n
  | .bool, b => .bool b
  | .str, s => .str s
  | .sl t, l => .sl false t l
  | .pair _ _, _ => .undef

def PS.de : (p : PS) → AV → Option p.den
  | .c t, .c x => dec t [x]
  | .agg t, .agg l => dec t l
  | .cap t, .c (.sptr _ t' x 0) => if h : t' = t then some (castT h x) else none
  | .fn f ts, .c (.fn f' l) => cond (Nat.beq f' f) (decCaps ts l) none
  | _, _ => none
def PS.en : (p : PS) → p.den → AV
  | .c t, x => .c (encC t x)
  | .agg t, x => .agg (enc false t x)
  | .cap t, x => .c (.sptr false t x 0)
  | .fn f ts, x => .c (.fn f (encCaps ts x))

theorem Sf_arg' (w : World) (f : Bool) : ∀ b, (argCx w).Sf f b → (argCx w).Sf false b := fun b hb => ⟨hb.1, fun e => by cases e⟩

theorem PS.de_r {w : World} : ∀ (p : PS) {v : AV} {u : Value} {x : p.den}, AVR (argCx w) v u → p.de v = some x → AVR (argCx w) (p.en x) u := by
  intro p v u x hv h
  unfold PS.de at h
  split at h
  · rename_i t c
    have hr := dec_r (C := argCx w) (f := false) t [c] x [u] ⟨hv, trivial⟩ h (fun e => by cases e)
    cases t with
    | pair a b =>
      have h1 := hr.length
      simp only [List.length_singleton, Ty.width] at h1
      have := a.width_pos
      have := b.width_pos
      omega
    | int k => have h1 : u = _ := (List.cons.inj (show [u] = [_] from hr)).1; exact h1
    | bool => have h1 : u = _ := (List.cons.inj (show [u] = [_] from hr)).1; exact h1
    | str => have h1 : u = _ := (List.cons.inj (show [u] = [_] from hr)).1; exact h1
    | sl t => exact hr
  · rename_i t l
    obtain ⟨vs, rfl, hl⟩ := hv
    exact ⟨vs, rfl, enc_r t x _ (dec_r (C := argCx w) (f := false) t l x _ hl h (fun e => by cases e))⟩
  · rename_i t f t' y
    split at h
    case isFalse => cases h
    rename_i e
    cases h
    subst e
    exact SPtr.mono (Sf_arg' w f) (fun _ _ => rfl) hv
  · rename_i f ts f' l
    obtain ⟨hf, h⟩ := beq_cond h
    subst hf
    have := decCaps_some ts l x h
    subst this
    exact hv
  · cases h

@[reducible] def denP : List PS → Type
  | [] => Unit
  | p :: r => p.den × denP r
def decP : (ps : List PS) → List AV → Option (denP ps)
  | [], [] => some ()
  | p :: ps, v :: vs => match p.de v with
    | none => none
    | some x => match decP ps vs with
      | none => none
      | some y => some (x, y)
  | _, _ => none
def encP : (ps : List PS) → denP ps → List AV
  | [], _ => []
  | p :: ps, x => p.en x.1 :: encP ps x.2
theorem decP_r {w : World} : ∀ (ps : List PS) {vs : List AV} {us : List Value} {x : denP ps}, AL (argCx w) vs us → decP ps vs = some x → AL (argCx w) (encP ps x) us
  | [], [], us, x, h, _ => h
  | p :: ps, v :: vs, us, x, h, hd => by
    simp only [decP] at hd
    split at hd
    · cases hd
    rename_i y hy
    split at hd
    · cases hd
    rename_i z hz
    cases hd
    cases us with
    | nil => exact h.elim
    | cons u us => exact ⟨p.de_r h.1 hy, decP_r ps h.2 hz⟩
  | [], _ :: _, _, _, _, hd => by cases hd
  | _ :: _, [], _, _, _, hd => by cases hd
theorem encP_length : ∀ (ps : List PS) (x : denP ps), (encP ps x).length = ps.length
  | [], _ => rfl
  | p :: ps, x => by simp [encP, encP_length ps x.2]

/-! ### Results, and what is live at a place -/

inductive LC where
  | int (k : IntKind)
  | bool
  | str
  | sl (f : Bool) (t : Ty)
  | own (i : Nat)
  | ptr (i o : Nat)
  | sptr (f : Bool) (t : Ty) (o : Nat)
  | fn (f : FuncId) (ts : List Ty)

@[reducible] def LC.den : LC → Type
  | .int _ => Int
  | .bool => Bool
  | .str => ByteArray
  | .sl _ t => List t.den
  | .own _ => Unit
  | .ptr _ _ => Unit
  | .sptr _ t _ => t.den
  | .fn _ ts => denTs ts

def LC.dec : (c : LC) → Cell → Option c.den
  | .int k, .int k' n => if k' = k then some n else none
  | .bool, .bool b => some b
  | .str, .str s => some s
  | .sl f t, .sl f' t' l => cond (f' == f) (if h : t' = t then some (castL h l) else none) none
  | .own i, .own j => cond (Nat.beq j i) (some ()) none
  | .ptr i o, .ptr j q => cond (Nat.beq j i) (cond (Nat.beq q o) (some ()) none) none
  | .sptr f t o, .sptr f' t' x q => cond (f' == f) (cond (Nat.beq q o) (if h : t' = t then some (castT h x) else none) none) none
  | .fn f ts, .fn f' l => cond (Nat.beq f' f) (decCaps ts l) none
  | _, _ => none
def LC.enc : (c : LC) → c.den → Cell
  | .int k, n => .int k n
  | .bool, b => .bool b
  | .str, s => .str s
  | .sl f t, l => .sl f t l
  | .own i, _ => .own i
  | .ptr i o, _ => .ptr i o
  | .sptr f t o, x => .sptr f t x o
  | .fn f ts, x => .fn f (encCaps ts x)
theorem LC.dec_some : ∀ (c : LC) {x : Cell} {d : c.den}, c.dec x = some d → x = c.enc d := by
  intro c x d h
  unfold LC.dec at h
  split at h
  · split at h
    case isFalse => cases h
    rename_i e; cases h; subst e; rfl
  · cases h; rfl
  · cases h; rfl
  · obtain ⟨e1, h⟩ := bool_cond h
    split at h
    case isFalse => cases h
    rename_i e; cases h; subst e; rw [beq_iff_eq] at e1; subst e1; rfl
  · obtain ⟨e1, h⟩ := beq_cond h; subst e1; rfl
  · obtain ⟨e1, h⟩ := beq_cond h
    obtain ⟨e2, h⟩ := beq_cond h
    subst e1; subst e2; rfl
  · obtain ⟨e1, h⟩ := bool_cond h
    obtain ⟨e2, h⟩ := beq_cond h
    split at h
    case isFalse => cases h
    rename_i e; cases h; subst e; rw [beq_iff_eq] at e1; subst e1; subst e2; rfl
  · obtain ⟨e1, h⟩ := beq_cond h
    have := decCaps_some _ _ _ h
    subst this; subst e1; rfl
  · cases h

@[reducible] def denL : List LC → Type
  | [] => Unit
  | c :: r => c.den × denL r
def decL : (l : List LC) → List Cell → Option (denL l)
  | [], [] => some ()
  | c :: l, x :: xs => match c.dec x with
    | none => none
    | some d => match decL l xs with
      | none => none
      | some e => some (d, e)
  | _, _ => none
def encL : (l : List LC) → denL l → List Cell
  | [], _ => []
  | c :: l, x => c.enc x.1 :: encL l x.2
theorem decL_some : ∀ (l : List LC) {xs : List Cell} {d : denL l}, decL l xs = some d → xs = encL l d
  | [], [], _, _ => rfl
  | c :: l, x :: xs, d, h => by
    simp only [decL] at h
    split at h
    · cases h
    rename_i a ha
    split at h
    · cases h
    rename_i b hb
    cases h
    rw [c.dec_some ha, decL_some l hb]; rfl
  | [], _ :: _, _, h => by cases h
  | _ :: _, [], _, h => by cases h

@[reducible] def denT : List (Bool × List LC) → Type
  | [] => Unit
  | p :: r => denL p.2 × denT r
def decT : (l : List (Bool × List LC)) → List (Bool × List Cell) → Option (denT l)
  | [], [] => some ()
  | p :: l, x :: xs => cond (x.1 == p.1) (match decL p.2 x.2 with
    | none => none
    | some d => match decT l xs with
      | none => none
      | some e => some (d, e)) none
  | _, _ => none
def encT : (l : List (Bool × List LC)) → denT l → List (Bool × List Cell)
  | [], _ => []
  | p :: l, x => (p.1, encL p.2 x.1) :: encT l x.2
theorem decT_some : ∀ (l : List (Bool × List LC)) {xs : List (Bool × List Cell)} {d : denT l}, decT l xs = some d → xs = encT l d
  | [], [], _, _ => rfl
  | p :: l, x :: xs, d, h => by
    simp only [decT] at h
    obtain ⟨e1, h⟩ := bool_cond h
    split at h
    · cases h
    rename_i a ha
    split at h
    · cases h
    rename_i b hb
    cases h
    rw [beq_iff_eq] at e1
    rw [decT_some l hb]
    simp only [encT]
    rw [← e1, ← decL_some _ ha]
  | [], _ :: _, _, h => by cases h
  | _ :: _, [], _, h => by cases h

inductive VC where
  | c (x : LC)
  | agg (l : List LC)
  | tup (l : List (Bool × List LC))
@[reducible] def VC.den : VC → Type
  | .c x => x.den
  | .agg l => denL l
  | .tup l => denT l
def VC.dec : (v : VC) → AV → Option v.den
  | .c x, .c y => x.dec y
  | .agg l, .agg xs => decL l xs
  | .tup l, .tup xs => decT l xs
  | _, _ => none
def VC.enc : (v : VC) → v.den → AV
  | .c x, d => .c (x.enc d)
  | .agg l, d => .agg (encL l d)
  | .tup l, d => .tup (encT l d)
theorem VC.dec_some : ∀ (v : VC) {x : AV} {d : v.den}, v.dec x = some d → x = v.enc d := by
  intro v x d h
  unfold VC.dec at h
  split at h
  · rename_i a b; exact congrArg AV.c (a.dec_some h)
  · exact congrArg AV.agg (decL_some _ h)
  · exact congrArg AV.tup (decT_some _ h)
  · cases h

inductive BC where
  | cells (ty : Nat) (l : List LC)
  | arr (t : Ty) (e : Nat) (f : Bool)
@[reducible] def BC.den : BC → Type
  | .cells _ l => denL l
  | .arr t _ _ => List t.den
def BC.dec : (b : BC) → Blk → Option b.den
  | .cells ty l, .cells ty' xs => cond (Nat.beq ty' ty) (decL l xs) none
  | .arr t e f, .arr t' e' l f' => cond (Nat.beq e' e) (cond (f' == f) (if h : t' = t then some (castL h l) else none) none) none
  | _, _ => none
def BC.enc : (b : BC) → b.den → Blk
  | .cells ty l, d => .cells ty (encL l d)
  | .arr t e f, d => .arr t e d f
theorem BC.dec_some : ∀ (b : BC) {x : Blk} {d : b.den}, b.dec x = some d → x = b.enc d := by
  intro b x d h
  unfold BC.dec at h
  split at h
  · obtain ⟨e1, h⟩ := beq_cond h
    subst e1
    rw [decL_some _ h]; rfl
  · obtain ⟨e1, h⟩ := beq_cond h
    obtain ⟨e2, h⟩ := bool_cond h
    split at h
    case isFalse => cases h
    rename_i e; cases h; subst e; subst e1; rw [beq_iff_eq] at e2; subst e2; rfl
  · cases h

@[reducible] def denB : List BC → Type
  | [] => Unit
  | b :: r => b.den × denB r
def decB : (l : List BC) → List Blk → Option (denB l)
  | [], [] => some ()
  | c :: l, x :: xs => match c.dec x with
    | none => none
    | some d => match decB l xs with
      | none => none
      | some e => some (d, e)
  | _, _ => none
def encB : (l : List BC) → denB l → List Blk
  | [], _ => []
  | c :: l, x => c.enc x.1 :: encB l x.2
theorem decB_some : ∀ (l : List BC) {xs : List Blk} {d : denB l}, decB l xs = some d → xs = encB l d
  | [], [], _, _ => rfl
  | c :: l, x :: xs, d, h => by
    simp only [decB] at h
    split at h
    · cases h
    rename_i a ha
    split at h
    · cases h
    rename_i b hb
    cases h
    rw [c.dec_some ha, decB_some l hb]; rfl
  | [], _ :: _, _, h => by cases h
  | _ :: _, [], _, h => by cases h

@[reducible] def denV : List VC → Type
  | [] => Unit
  | v :: r => v.den × denV r
def decV : (l : List VC) → List AV → Option (denV l)
  | [], [] => some ()
  | c :: l, x :: xs => match c.dec x with
    | none => none
    | some d => match decV l xs with
      | none => none
      | some e => some (d, e)
  | _, _ => none
def encV : (l : List VC) → denV l → List AV
  | [], _ => []
  | c :: l, x => c.enc x.1 :: encV l x.2
theorem decV_some : ∀ (l : List VC) {xs : List AV} {d : denV l}, decV l xs = some d → xs = encV l d
  | [], [], _, _ => rfl
  | c :: l, x :: xs, d, h => by
    simp only [decV] at h
    split at h
    · cases h
    rename_i a ha
    split at h
    · cases h
    rename_i b hb
    cases h
    rw [c.dec_some ha, decV_some l hb]; rfl
  | [], _ :: _, _, h => by cases h
  | _ :: _, [], _, h => by cases h

/-! ### Functions -/

structure FnD where
  f : Nat
  ps : List PS
  vc : VC
  bs : List BC
  R : Type
  fn : Nat → denP ps → Option R
  out : R → vc.den × denB bs
  inn : vc.den × denB bs → R
  inv : ∀ d, out (inn d) = d

def FnD.OK (P : Program) (c : FnD) : Prop := ∀ k x y, c.fn k x = some y → CallsOK P c.f (encP c.ps x) (c.vc.enc (c.out y).1) (encB c.bs (c.out y).2)

def cfOf {R : Type} (k : Nat) : List FnD → CF R
  | [], _, _, _ => none
  | c :: cs, f, vs, cont => match cond (Nat.beq c.f f) (decP c.ps vs) none with
    | some x => (c.fn k x).bind fun y => cont (c.vc.enc (c.out y).1) (encB c.bs (c.out y).2)
    | none => cfOf k cs f vs cont

def allOK (P : Program) : List FnD → Prop
  | [] => True
  | c :: cs => c.OK P ∧ allOK P cs

theorem cfOf_ok {P : Program} {R : Type} (k : Nat) : ∀ (cs : List FnD), allOK P cs → CFok P (cfOf (R := R) k cs)
  | [], _, f, vs, cont, r, h => by cases h
  | c :: cs, hcs, f, vs, cont, r, h => by
    simp only [cfOf] at h
    split at h
    · rename_i x hx
      obtain ⟨hf, hd⟩ := beq_cond hx
      subst hf
      cases hy : c.fn k x with
      | none => rw [hy] at h; cases h
      | some y =>
        rw [hy] at h
        obtain ⟨h1, h2⟩ := hcs.1 k x y hy
        exact ⟨_, _, h, h1, fun w us hus => h2 w us (decP_r c.ps hus hd)⟩
    · exact cfOf_ok k cs hcs.2 f vs cont r h

structure Lbl (R : Type) where
  lbl : Nat
  live : Live
  vs : List VC
  bs : List BC
  f : Nat → denV vs → denB bs → Option R

def lowOf {R : Type} (k : Nat) : List (Lbl R) → Lower R
  | [], _, _, _ => none
  | l :: ls, lbl, vs, H => cond (Nat.beq l.lbl lbl) (match decV l.vs vs with
    | none => none
    | some x => match decB l.bs H with
      | none => none
      | some y => l.f k x y) (lowOf k ls lbl vs H)
def annOf {R : Type} : List (Lbl R) → Nat → Option Live
  | [], _ => none
  | l :: ls, lbl => cond (Nat.beq l.lbl lbl) (some l.live) (annOf ls lbl)

def allEq {R : Type} (g : Nat → Nat → List (Nat × AV) → List Blk → Option R) : List (Lbl R) → Prop
  | [] => True
  | l :: ls => ((∀ x y, l.f 0 x y = none) ∧ ∀ k x y, g k l.lbl (mkTmps l.live (encV l.vs x)) (encB l.bs y) = l.f (k + 1) x y) ∧ allEq g ls

theorem lowOf_zero {R : Type} {g : Nat → Nat → List (Nat × AV) → List Blk → Option R} : ∀ (ls : List (Lbl R)), allEq g ls → ∀ lbl vs H, lowOf 0 ls lbl vs H = none
  | [], _, _, _, _ => rfl
  | l :: ls, h, lbl, vs, H => by
    simp only [lowOf]
    cases hb : Nat.beq l.lbl lbl
    · exact lowOf_zero ls h.2 lbl vs H
    · simp only [cond_true]
      cases hx : decV l.vs vs with
      | none => rfl
      | some x =>
        cases hy : decB l.bs H with
        | none => rfl
        | some y => exact h.1.1 x y

theorem lowOf_succ {R : Type} {g : Nat → Nat → List (Nat × AV) → List Blk → Option R} : ∀ (ls : List (Lbl R)), allEq g ls → ∀ k lbl live vs H r, annOf ls lbl = some live → lowOf (k + 1) ls lbl vs H = some r → g k lbl (mkTmps live vs) H = some r
  | [], _, _, _, _, _, _, _, h, _ => by cases h
  | l :: ls, h, k, lbl, live, vs, H, r, ha, hl => by
    simp only [lowOf] at hl
    simp only [annOf] at ha
    cases hb : Nat.beq l.lbl lbl
    · rw [hb] at hl ha; exact lowOf_succ ls h.2 k lbl live vs H r ha hl
    · rw [hb] at hl ha
      simp only [cond_true] at hl ha
      cases ha
      have := Nat.eq_of_beq_eq_true hb
      subst this
      split at hl
      · cases hl
      rename_i x hx
      split at hl
      · cases hl
      rename_i y hy
      rw [decV_some _ hx, decB_some _ hy, h.1.2 k x y]
      exact hl

def bodyOf (fn : Func) : Code := match fn.body with | some c => c | none => .skip

def FnD.fin (c : FnD) (v : AV) (H : List Blk) : Option c.R :=
  match c.vc.dec v with
  | none => none
  | some d => match decB c.bs H with
    | none => none
    | some e => some (c.inn (d, e))

/-- **A function's contract, out of equations that the kernel checks.** -/
theorem FnD.of {P : Program} {T : Nat → Option TI} (c : FnD) (hmix : P.follows .mixedOrders = true) (hT : TOK P T) {fn : Func} (hf : P.funcs[c.f]? = some fn) (hb : fn.body = some (bodyOf fn))
    (hen : ∀ (vs : Array Value) (w : World), (callFunc c.f vs).run P w = .ok (.enter c.f vs) w) (hnd : nodupN (labelsC (bodyOf fn)) = true) (hlen : Nat.ble c.ps.length fn.ntmps = true)
    (cs : List FnD) (hcs : allOK P cs) (ls : List (Lbl c.R)) (co : Co) (N : Nat)
    (hls : allEq (fun k lbl tmps H => go T (cfOf k cs) (lowOf k ls) (annOf ls) fn co c.fin N (stkOf (bodyOf fn) lbl) ⟨tmps, H⟩) ls)
    (h : ∀ k x, go T (cfOf k cs) (lowOf k ls) (annOf ls) fn co c.fin N [.code (bodyOf fn)] ⟨initT 0 (encP c.ps x), []⟩ = c.fn k x) : c.OK P := by
  intro k x y hy
  refine contract hmix hT hf hb hen hnd (fun k => cfOf k cs) (fun k => cfOf_ok k cs hcs) (fun k => lowOf k ls) N (fun lbl vs H => lowOf_zero ls hls lbl vs H) (fun k lbl live vs H r ha hj => lowOf_succ ls hls k lbl live vs H r ha hj)
    k (encP c.ps x) (by rw [encP_length]; exact Nat.le_of_ble_eq_true hlen) y ((h k x).trans hy) _ _ fun v H hfin => ?_
  unfold FnD.fin at hfin
  split at hfin
  · cases hfin
  rename_i d hd
  split at hfin
  · cases hfin
  rename_i e he
  cases hfin
  rw [c.inv]
  exact ⟨c.vc.dec_some hd, decB_some _ he⟩
end Go.Proofs.YtgagpmiooeoodaaGreat.A
