/- Functions as data: their arguments, results and places by shapes. -/
import Derived.Test.YtcjfheidmlcbfaaGreatDoorSV11d
set_option linter.unusedVariables false
set_option linter.unusedSimpArgs false
set_option linter.unusedSectionVars false
namespace Go.Proofs.YtcjfheidmlcbfaaGreatDoor.V
open Go.RowKit

/-! ### Arguments -/

@[reducible] def denTs : List Ty → Type
  | [] => Unit
  | t :: r => t.den × denTs r

def castT {t' t : Ty} (h : t' = t) (x : t'.den) : t.den := h ▸ x

def decCaps : (ts : List Ty) → List ((t : Ty) × t.den) → Option (denTs ts)
  | [], [] => some ()
  | t :: ts, ⟨t', x⟩ :: r => if h : t' = t then (match decCaps ts r with | some y => some (castT h x, y) | none => none) else none
  | _, _ => none
def encCaps : (ts : List Ty) → denTs ts → List ((t : Ty) × t.den)
  | [], _ => []
  | t :: ts, x => ⟨t, x.1⟩ :: encCaps ts x.2
theorem decCaps_some : ∀ (ts : List Ty) (l : List ((t : Ty) × t.den)) (x : denTs ts), decCaps ts l = some x → l = encCaps ts x
  | [], [], _, _ => rfl
  | t :: ts, ⟨t', x⟩ :: r, y, h => by
    simp only [decCaps] at h
    split at h
    case isFalse => cases h
    rename_i e
    split at h
    case h_2 => cases h
    rename_i z hz
    cases h
    subst e
    rw [decCaps_some ts r z hz]
    rfl
  | [], _ :: _, _, h => by cases h
  | _ :: _, [], _, h => by cases h

/-! ### Results, and what is live at a place -/

inductive LC where
  | int (k : IntKind)
  | bool
  | str
  | sl (f : Bool) (t : Ty)
  | own (i : Nat)
  | ptr (i o : Nat)
  | sptr (f : Bool) (t : Ty) (o : Nat)
  | fn (f : FuncId) (ts : List Ty)
  | nil
  | emp

@[reducible] def LC.den : LC → Type
  | .int _ => Int
  | .bool => Bool
  | .str => ByteArray
  | .sl _ t => List t.den
  | .own _ => Unit
  | .ptr _ _ => Unit
  | .sptr _ t _ => t.den
  | .fn _ ts => denTs ts
  | .nil => Unit
  | .emp => Unit

def LC.dec : (c : LC) → Cell → Option c.den
  | .int k, .int k' n => if k' = k then some n else none
  | .bool, .bool b => some b
  | .str, .str s => some s
  | .sl f t, .sl f' t' l => cond (f' == f) (if h : t' = t then some (castL h l) else none) none
  | .own i, .own j => cond (Nat.beq j i) (some ()) none
  | .ptr i o, .ptr j q => cond (Nat.beq j i) (cond (Nat.beq q o) (some ()) none) none
  | .sptr f t o, .sptr f' t' x q => cond (f' == f) (cond (Nat.beq q o) (if h : t' = t then some (castT h x) else none) none) none
  | .fn f ts, .fn f' l => cond (Nat.beq f' f) (decCaps ts l) none
  | .nil, .nil => some ()
  | .emp, .emp => some ()
  | _, _ => none
def LC.enc : (c : LC) → c.den → Cell
  | .int k, n => .int k n
  | .bool, b => .bool b
  | .str, s => .str s
  | .sl f t, l => .sl f t l
  | .own i, _ => .own i
  | .ptr i o, _ => .ptr i o
  | .sptr f t o, x => .sptr f t x o
  | .fn f ts, x => .fn f (encCaps ts x)
  | .nil, _ => .nil
  | .emp, _ => .emp
theorem LC.dec_some : ∀ (c : LC) {x : Cell} {d : c.den}, c.dec x = some d → x = c.enc d := by
  intro c x d h
  unfold LC.dec at h
  split at h
  · split at h
    case isFalse => cases h
    rename_i e; cases h; subst e; rfl
  · cases h; rfl
  · cases h; rfl
  · obtain ⟨e1, h⟩ := bool_cond h
    split at h
    case isFalse => cases h
    rename_i e; cases h; subst e; rw [beq_iff_eq] at e1; subst e1; rfl
  · obtain ⟨e1, h⟩ := beq_cond h; subst e1; rfl
  · obtain ⟨e1, h⟩ := beq_cond h
    obtain ⟨e2, h⟩ := beq_cond h
    subst e1; subst e2; rfl
  · obtain ⟨e1, h⟩ := bool_cond h
    obtain ⟨e2, h⟩ := beq_cond h
    split at h
    case isFalse => cases h
    rename_i e; cases h; subst e; rw [beq_iff_eq] at e1; subst e1; subst e2; rfl
  · obtain ⟨e1, h⟩ := beq_cond h
    have := decCaps_some _ _ _ h
    subst this; subst e1; rfl
  · rfl
  · rfl
  · cases h

@[reducible] def denL : List LC → Type
  | [] => Unit
  | c :: r => c.den × denL r
def decL : (l : List LC) → List Cell → Option (denL l)
  | [], [] => some ()
  | c :: l, x :: xs => match c.dec x with
    | none => none
    | some d => match decL l xs with
      | none => none
      | some e => some (d, e)
  | _, _ => none
def encL : (l : List LC) → denL l → List Cell
  | [], _ => []
  | c :: l, x => c.enc x.1 :: encL l x.2
theorem decL_some : ∀ (l : List LC) {xs : List Cell} {d : denL l}, decL l xs = some d → xs = encL l d
  | [], [], _, _ => rfl
  | c :: l, x :: xs, d, h => by
    simp only [decL] at h
    split at h
    · cases h
    rename_i a ha
    split at h
    · cases h
    rename_i b hb
    cases h
    rw [c.dec_some ha, decL_some l hb]; rfl
  | [], _ :: _, _, h => by cases h
  | _ :: _, [], _, h => by cases h

@[reducible] def denT : List (Bool × List LC) → Type
  | [] => Unit
  | p :: r => denL p.2 × denT r
def decT : (l : List (Bool × List LC)) → List (Bool × List Cell) → Option (denT l)
  | [], [] => some ()
  | p :: l, x :: xs => cond (x.1 == p.1) (match decL p.2 x.2 with
    | none => none
    | some d => match decT l xs with
      | none => none
      | some e => some (d, e)) none
  | _, _ => none
def encT : (l : List (Bool × List LC)) → denT l → List (Bool × List Cell)
  | [], _ => []
  | p :: l, x => (p.1, encL p.2 x.1) :: encT l x.2
theorem decT_some : ∀ (l : List (Bool × List LC)) {xs : List (Bool × List Cell)} {d : denT l}, decT l xs = some d → xs = encT l d
  | [], [], _, _ => rfl
  | p :: l, x :: xs, d, h => by
    simp only [decT] at h
    obtain ⟨e1, h⟩ := bool_cond h
    split at h
    · cases h
    rename_i a ha
    split at h
    · cases h
    rename_i b hb
    cases h
    rw [beq_iff_eq] at e1
    rw [decT_some l hb]
    simp only [encT]
    rw [← e1, ← decL_some _ ha]
  | [], _ :: _, _, h => by cases h
  | _ :: _, [], _, h => by cases h

inductive VC where
  | c (x : LC)
  | agg (l : List LC)
  | tup (l : List (Bool × List LC))
@[reducible] def VC.den : VC → Type
  | .c x => x.den
  | .agg l => denL l
  | .tup l => denT l
def VC.dec : (v : VC) → AV → Option v.den
  | .c x, .c y => x.dec y
  | .agg l, .agg xs => decL l xs
  | .tup l, .tup xs => decT l xs
  | _, _ => none
def VC.enc : (v : VC) → v.den → AV
  | .c x, d => .c (x.enc d)
  | .agg l, d => .agg (encL l d)
  | .tup l, d => .tup (encT l d)
theorem VC.dec_some : ∀ (v : VC) {x : AV} {d : v.den}, v.dec x = some d → x = v.enc d := by
  intro v x d h
  unfold VC.dec at h
  split at h
  · rename_i a b; exact congrArg AV.c (a.dec_some h)
  · exact congrArg AV.agg (decL_some _ h)
  · exact congrArg AV.tup (decT_some _ h)
  · cases h

inductive BC where
  | cells (ty : Nat) (l : List LC)
  | arr (t : Ty) (m : Md)
  | mix (t : Ty)
  | bld (t u : Nat)
  | dead
@[reducible] def BC.den : BC → Type
  | .cells _ l => denL l
  | .arr t _ => List t.den
  | .mix t => List t.den × Nat
  | .bld _ _ => ByteArray
  | .dead => Unit
def BC.dec : (b : BC) → Blk → Option b.den
  | .cells ty l, .cells ty' xs => cond (Nat.beq ty' ty) (decL l xs) none
  | .arr t m, .arr t' l m' v h => cond (Md.eqb m' m) (cond (Nat.beq v 0) (match h with | none => if h : t' = t then some (castL h l) else none | some _ => none) none) none
  | .mix t, .mix t' l n => if h : t' = t then some (castL h l, n) else none
  | .bld t u, .bld t' u' s => cond (Nat.beq t' t) (cond (Nat.beq u' u) (some s) none) none
  | .dead, .dead => some ()
  | _, _ => none
def BC.enc : (b : BC) → b.den → Blk
  | .cells ty l, d => .cells ty (encL l d)
  | .arr t m, d => .arr t d m 0 none
  | .mix t, d => .mix t d.1 d.2
  | .bld t u, d => .bld t u d
  | .dead, _ => .dead
theorem Md.eqb_eq {m m' : Md} (h : Md.eqb m m' = true) : m = m' := by cases m <;> cases m' <;> first | rfl | cases h
theorem BC.dec_some : ∀ (b : BC) {x : Blk} {d : b.den}, b.dec x = some d → x = b.enc d := by
  intro b x d h
  unfold BC.dec at h
  split at h
  · obtain ⟨e1, h⟩ := beq_cond h
    subst e1
    rw [decL_some _ h]; rfl
  · obtain ⟨e1, h⟩ := bool_cond h
    obtain ⟨e2, h⟩ := beq_cond h
    have := Md.eqb_eq e1
    subst this; subst e2
    split at h
    · split at h
      case isFalse => cases h
      rename_i e; cases h; subst e; rfl
    · cases h
  · split at h
    case isFalse => cases h
    rename_i e; cases h; subst e; rfl
  · obtain ⟨e1, h⟩ := beq_cond h
    obtain ⟨e2, h⟩ := beq_cond h
    subst e1; subst e2
    cases h; rfl
  · rfl
  · cases h

@[reducible] def denB : List BC → Type
  | [] => Unit
  | b :: r => b.den × denB r
def decB : (l : List BC) → List Blk → Option (denB l)
  | [], [] => some ()
  | c :: l, x :: xs => match c.dec x with
    | none => none
    | some d => match decB l xs with
      | none => none
      | some e => some (d, e)
  | _, _ => none
def encB : (l : List BC) → denB l → List Blk
  | [], _ => []
  | c :: l, x => c.enc x.1 :: encB l x.2
theorem decB_some : ∀ (l : List BC) {xs : List Blk} {d : denB l}, decB l xs = some d → xs = encB l d
  | [], [], _, _ => rfl
  | c :: l, x :: xs, d, h => by
    simp only [decB] at h
    split at h
    · cases h
    rename_i a ha
    split at h
    · cases h
    rename_i b hb
    cases h
    rw [c.dec_some ha, decB_some l hb]; rfl
  | [], _ :: _, _, h => by cases h
  | _ :: _, [], _, h => by cases h

@[reducible] def denV : List VC → Type
  | [] => Unit
  | v :: r => v.den × denV r
def decV : (l : List VC) → List AV → Option (denV l)
  | [], [] => some ()
  | c :: l, x :: xs => match c.dec x with
    | none => none
    | some d => match decV l xs with
      | none => none
      | some e => some (d, e)
  | _, _ => none
def encV : (l : List VC) → denV l → List AV
  | [], _ => []
  | c :: l, x => c.enc x.1 :: encV l x.2
theorem decV_some : ∀ (l : List VC) {xs : List AV} {d : denV l}, decV l xs = some d → xs = encV l d
  | [], [], _, _ => rfl
  | c :: l, x :: xs, d, h => by
    simp only [decV] at h
    split at h
    · cases h
    rename_i a ha
    split at h
    · cases h
    rename_i b hb
    cases h
    rw [c.dec_some ha, decV_some l hb]; rfl
  | [], _ :: _, _, h => by cases h
  | _ :: _, [], _, h => by cases h

inductive PS where
  | c (t : Ty)
  | agg (t : Ty)
  | cap (t : Ty)
  | fn (f : FuncId) (ts : List Ty)
  | vc (v : VC)

@[reducible] def PS.den : PS → Type
  | .c t => t.den
  | .agg t => t.den
  | .cap t => t.den
  | .fn _ ts => denTs ts
  | .vc v => v.den

def encC : (t : Ty) → t.den → Cell
  | .int k, n => .int k n
  | .bool, b => .bool b
  | .str, s => .str s
  | .sl t, l => .sl false t l
  | .pair _ _, _ => .undef

def PS.de : (p : PS) → AV → Option p.den
  | .c t, .c x => dec t [x]
  | .agg t, .agg l => dec t l
  | .cap t, .c (.sptr _ t' x 0) => if h : t' = t then some (castT h x) else none
  | .fn f ts, .c (.fn f' l) => cond (Nat.beq f' f) (decCaps ts l) none
  | .vc v, a => v.dec a
  | _, _ => none
def PS.en : (p : PS) → p.den → AV
  | .c t, x => .c (encC t x)
  | .agg t, x => .agg (enc false t x)
  | .cap t, x => .c (.sptr false t x 0)
  | .fn f ts, x => .c (.fn f (encCaps ts x))
  | .vc v, x => v.enc x

theorem PS.de_r {D : Cx} : ∀ (p : PS) {v : AV} {u : Value} {x : p.den}, AVR D v u → p.de v = some x → AVR D (p.en x) u := by
  intro p v u x hv h
  unfold PS.de at h
  split at h
  · rename_i t c
    have hr := dec_r (C := D) (f := false) t [c] x [u] ⟨hv, trivial⟩ h (fun e => by cases e)
    cases t with
    | pair a b =>
      have h1 := hr.length
      simp only [List.length_singleton, Ty.width] at h1
      have := a.width_pos
      have := b.width_pos
      omega
    | int k => have h1 : u = _ := (List.cons.inj (show [u] = [_] from hr)).1; exact h1
    | bool => have h1 : u = _ := (List.cons.inj (show [u] = [_] from hr)).1; exact h1
    | str => have h1 : u = _ := (List.cons.inj (show [u] = [_] from hr)).1; exact h1
    | sl t => exact hr
  · rename_i t l
    obtain ⟨vs, rfl, hl⟩ := hv
    exact ⟨vs, rfl, enc_r t x _ (dec_r (C := D) (f := false) t l x _ hl h (fun e => by cases e))⟩
  · rename_i t f t' y
    split at h
    case isFalse => cases h
    rename_i e
    cases h
    subst e
    exact SPtr.mono (fun g p hb => ⟨hb.1, fun e => by cases e⟩) (fun _ _ _ _ h => h) hv
  · rename_i f ts f' l
    obtain ⟨hf, h⟩ := beq_cond h
    subst hf
    have := decCaps_some ts l x h
    subst this
    exact hv
  · rw [VC.dec_some _ h] at hv
    exact hv
  · cases h

@[reducible] def denP : List PS → Type
  | [] => Unit
  | p :: r => p.den × denP r
def decP : (ps : List PS) → List AV → Option (denP ps)
  | [], [] => some ()
  | p :: ps, v :: vs => match p.de v with
    | none => none
    | some x => match decP ps vs with
      | none => none
      | some y => some (x, y)
  | _, _ => none
def encP : (ps : List PS) → denP ps → List AV
  | [], _ => []
  | p :: ps, x => p.en x.1 :: encP ps x.2
theorem decP_r {D : Cx} : ∀ (ps : List PS) {vs : List AV} {us : List Value} {x : denP ps}, AL D vs us → decP ps vs = some x → AL D (encP ps x) us
  | [], [], us, x, h, _ => h
  | p :: ps, v :: vs, us, x, h, hd => by
    simp only [decP] at hd
    split at hd
    · cases hd
    rename_i y hy
    split at hd
    · cases hd
    rename_i z hz
    cases hd
    cases us with
    | nil => exact h.elim
    | cons u us => exact ⟨p.de_r h.1 hy, decP_r ps h.2 hz⟩
  | [], _ :: _, _, _, _, hd => by cases hd
  | _ :: _, [], _, _, _, hd => by cases hd
theorem encP_length : ∀ (ps : List PS) (x : denP ps), (encP ps x).length = ps.length
  | [], _ => rfl
  | p :: ps, x => by simp [encP, encP_length ps x.2]

end Go.Proofs.YtcjfheidmlcbfaaGreatDoor.V
