/- What the interpreter's values stand for in memory. -/
import Derived.Test.YtcjfheidmlcbfaaGreatDoorSV0
import Derived.Test.YtcjfheidmlcbfaaGreatDoorSV1
import Derived.Below
import Derived.Deep.AppendSrc
import Derived.Laws.MakeOwn
set_option linter.unusedVariables false
set_option linter.unusedSimpArgs false
namespace Go.Proofs.YtcjfheidmlcbfaaGreatDoor.V
open Go.RowKit

/-- Cells of memory, by block and place. -/
abbrev Foot := Nat → Nat → Prop

abbrev at_ (g p : Nat) : Addr := ⟨g, p, none⟩

/-- The cells from o on hold us, and all of them are of S. -/
def At (w : World) (S : Foot) (g o : Nat) (us : List Value) : Prop := ∀ j u, us[j]? = some u → S g (o + j) ∧ w.cell? (at_ g (o + j)) = some u
def AtW (w : World) (g o : Nat) (us : List Value) : Prop := ∀ j u, us[j]? = some u → w.cell? (at_ g (o + j)) = some u

/-- The cells 'vs' hold the datum x; whatever memory they lead to lies in cells of which S holds. -/
def Rd (w : World) (S : Foot) : (t : Ty) → t.den → List Value → Prop
  | .int k, n, vs => vs = [.int k n]
  | .bool, b, vs => vs = [.bool b]
  | .str, s, vs => vs = [.string s]
  | .sl t, l, vs => ∃ A cap, vs = [.slice A l.length cap] ∧ l.length ≤ cap ∧ (l ≠ [] → ∃ g off, A = some (at_ g off) ∧ ∀ i x, l[i]? = some x → ∃ us, At w S g (off + i * t.width) us ∧ Rd w S t x us)
  | .pair a b, x, vs => Rd w S a x.1 (vs.take a.width) ∧ Rd w S b x.2 (vs.drop a.width)

theorem At.mono {w w' : World} {S S' : Foot} (hS : ∀ g p, S g p → S' g p) (hw : ∀ g p u, S g p → w.cell? (at_ g p) = some u → w'.cell? (at_ g p) = some u) {g o : Nat} {us : List Value} (h : At w S g o us) : At w' S' g o us :=
  fun j u hj => ⟨hS _ _ (h j u hj).1, hw _ _ _ (h j u hj).1 (h j u hj).2⟩

theorem Rd.mono {w w' : World} {S S' : Foot} (hS : ∀ g p, S g p → S' g p) (hw : ∀ g p u, S g p → w.cell? (at_ g p) = some u → w'.cell? (at_ g p) = some u) : ∀ (t : Ty) (x : t.den) (vs : List Value), Rd w S t x vs → Rd w' S' t x vs := by
  intro t
  induction t with
  | int k => intro x vs h; exact h
  | bool => intro x vs h; exact h
  | str => intro x vs h; exact h
  | sl t ih =>
    intro x vs h
    obtain ⟨A, cap, hv, hl, hi⟩ := h
    refine ⟨A, cap, hv, hl, fun hx => ?_⟩
    obtain ⟨g, off, hA, hr⟩ := hi hx
    refine ⟨g, off, hA, fun i y hy => ?_⟩
    obtain ⟨us, h1, h2⟩ := hr i y hy
    exact ⟨us, h1.mono hS hw, ih _ _ h2⟩
  | pair a b iha ihb => intro x vs h; exact ⟨iha _ _ h.1, ihb _ _ h.2⟩

theorem Ty.width_pos (t : Ty) : 0 < t.width := by
  induction t with
  | pair a b iha ihb => simp only [Ty.width]; omega
  | _ => simp [Ty.width]

theorem Rd.length {w : World} {S : Foot} : ∀ (t : Ty) (x : t.den) (vs : List Value), Rd w S t x vs → vs.length = t.width := by
  intro t
  induction t with
  | int k => intro x vs h; obtain rfl : vs = _ := h; rfl
  | bool => intro x vs h; obtain rfl : vs = _ := h; rfl
  | str => intro x vs h; obtain rfl : vs = _ := h; rfl
  | sl t ih => intro x vs h; obtain ⟨A, cap, hv, _⟩ := h; subst hv; rfl
  | pair a b iha ihb =>
    intro x vs h
    have h1 := iha _ _ h.1
    have h2 := ihb _ _ h.2
    have hb := b.width_pos
    simp only [Ty.width, List.length_take, List.length_drop] at *
    omega

theorem Rd.one {w : World} {S : Foot} : ∀ (t : Ty) (x : t.den) (vs : List Value), Rd w S t x vs → ∀ v ∈ vs, v.oneCell' = true := by
  intro t
  induction t with
  | int k => intro x vs h v hv; obtain rfl : vs = _ := h; simp at hv; subst hv; rfl
  | bool => intro x vs h v hv; obtain rfl : vs = _ := h; simp at hv; subst hv; rfl
  | str => intro x vs h v hv; obtain rfl : vs = _ := h; simp at hv; subst hv; rfl
  | sl t ih => intro x vs h v hv; obtain ⟨A, cap, he, _⟩ := h; subst he; simp at hv; subst hv; rfl
  | pair a b iha ihb =>
    intro x vs h v hv
    rw [← List.take_append_drop a.width vs] at hv
    rcases List.mem_append.1 hv with h1 | h1
    · exact iha _ _ h.1 v h1
    · exact ihb _ _ h.2 v h1

theorem Rd.flat {w : World} {S S' : Foot} : ∀ (t : Ty) (x : t.den) (vs : List Value), t.flat = true → Rd w S t x vs → Rd w S' t x vs := by
  intro t
  induction t with
  | int k => intro x vs _ h; exact h
  | bool => intro x vs _ h; exact h
  | str => intro x vs _ h; exact h
  | sl t ih => intro x vs hf h; cases hf
  | pair a b iha ihb =>
    intro x vs hf h
    simp only [Ty.flat, Bool.and_eq_true] at hf
    exact ⟨iha _ _ hf.1 h.1, ihb _ _ hf.2 h.2⟩

/-! ### Rows of the call's own -/

/-- The slice v of n elements, each of wd cells: where it stands, its room all of F. -/
structure Room (w : World) (F : Foot) (wd : Nat) (v : Value) (n g off cap : Nat) : Prop where
  val : v = .slice (some (at_ g off)) n cap
  cur : ∃ cs e, w.heap[g]? = some (Obj.cells cs e (0, 0)) ∧ off + cap * wd ≤ cs.size
  len : n ≤ cap
  most : cap ≤ maxLen
  foot : ∀ p, off ≤ p → p < off + cap * wd → F g p

/-- Each element's own memory, apart from the row's and from the others'. -/
structure Nest (F : Foot) (g off n : Nat) (G : Nat → Foot) : Prop where
  sub : ∀ i g' p, G i g' p → F g' p
  out : ∀ i p, G i g p → off ≤ p → p < off + n → False
  inj : ∀ i j g' p, G i g' p → G j g' p → i = j

/-- The cells 'vs' hold the datum x; whatever memory they lead to is theirs alone, and of F. -/
def RdU (w : World) : (t : Ty) → t.den → List Value → Foot → Prop
  | .int k, n, vs, _ => vs = [.int k n]
  | .bool, b, vs, _ => vs = [.bool b]
  | .str, s, vs, _ => vs = [.string s]
  | .sl t, l, vs, F => ∃ v, vs = [v] ∧ ((l = [] ∧ ∃ A, v = .slice A 0 0) ∨ ∃ g off cap G, Room w F t.width v l.length g off cap ∧ Nest F g off (cap * t.width) G ∧ ∀ i x, l[i]? = some x → ∃ us, AtW w g (off + i * t.width) us ∧ RdU w t x us (G i))
  | .pair a b, x, vs, F => ∃ Fa Fb : Foot, (∀ g p, Fa g p → F g p) ∧ (∀ g p, Fb g p → F g p) ∧ (∀ g p, Fa g p → Fb g p → False) ∧ RdU w a x.1 (vs.take a.width) Fa ∧ RdU w b x.2 (vs.drop a.width) Fb

/-- One world's cells of F are another's; the blocks keep their kinds and sizes. -/
structure Kept (w w' : World) (F : Foot) : Prop where
  obj : ∀ (g : Nat) (cs : Array Value) (e : TypeId) (fr : Nat × Nat), w.heap[g]? = some (Obj.cells cs e fr) → ∃ cs', w'.heap[g]? = some (Obj.cells cs' e fr) ∧ cs'.size = cs.size
  cell : ∀ g p u, F g p → w.cell? (at_ g p) = some u → w'.cell? (at_ g p) = some u

theorem Kept.sub {w w' : World} {F G : Foot} (h : Kept w w' F) (hs : ∀ g p, G g p → F g p) : Kept w w' G := ⟨h.obj, fun g p u hg => h.cell g p u (hs g p hg)⟩

theorem Room.keep {w w' : World} {F F' : Foot} {wd : Nat} {v : Value} {n g off cap : Nat} (hk : Kept w w' F) (hF : ∀ g p, F g p → F' g p) (h : Room w F wd v n g off cap) : Room w' F' wd v n g off cap := by
  obtain ⟨cs, e, h1, h2⟩ := h.cur
  obtain ⟨cs', h3, h4⟩ := hk.obj g cs e _ h1
  exact ⟨h.val, ⟨cs', e, h3, by omega⟩, h.len, h.most, fun p h5 h6 => hF _ _ (h.foot p h5 h6)⟩

theorem room_cell {wd n i j off cap : Nat} (hi : i < n) (hn : n ≤ cap) (hj : j < wd) : off ≤ off + i * wd + j ∧ off + i * wd + j < off + cap * wd := by
  have : (i + 1) * wd ≤ cap * wd := Nat.mul_le_mul_right _ (by omega)
  rw [Nat.add_mul, Nat.one_mul] at this
  omega

theorem RdU.length {w : World} : ∀ (t : Ty) (x : t.den) (vs : List Value) (F : Foot), RdU w t x vs F → vs.length = t.width := by
  intro t
  induction t with
  | int k => intro x vs F h; obtain rfl : vs = _ := h; rfl
  | bool => intro x vs F h; obtain rfl : vs = _ := h; rfl
  | str => intro x vs F h; obtain rfl : vs = _ := h; rfl
  | sl t ih => intro x vs F h; obtain ⟨v, hv, _⟩ := h; subst hv; rfl
  | pair a b iha ihb =>
    intro x vs F h
    obtain ⟨Fa, Fb, _, _, _, ha, hb⟩ := h
    have h1 := iha _ _ _ ha
    have h2 := ihb _ _ _ hb
    have hb := b.width_pos
    simp only [Ty.width, List.length_take, List.length_drop] at *
    omega

theorem RdU.keep {w w' : World} : ∀ (t : Ty) (x : t.den) (vs : List Value) (F F' : Foot), Kept w w' F → (∀ g p, F g p → F' g p) → RdU w t x vs F → RdU w' t x vs F' := by
  intro t
  induction t with
  | int k => intro x vs F F' _ _ h; exact h
  | bool => intro x vs F F' _ _ h; exact h
  | str => intro x vs F F' _ _ h; exact h
  | sl t ih =>
    intro x vs F F' hk hF h
    obtain ⟨v, hv, h⟩ := h
    refine ⟨v, hv, ?_⟩
    rcases h with h | ⟨g, off, cap, G, h1, h2, h3⟩
    · exact .inl h
    · refine .inr ⟨g, off, cap, G, h1.keep hk hF, ⟨fun i g' p hg => hF _ _ (h2.sub i g' p hg), h2.out, h2.inj⟩, fun i y hy => ?_⟩
      obtain ⟨us, h4, h5⟩ := h3 i y hy
      refine ⟨us, fun j u hj => hk.cell _ _ _ ?_ (h4 j u hj), ih _ _ _ _ (hk.sub (h2.sub i)) (fun _ _ h => h) h5⟩
      have hl := h5.length
      have hi := (List.getElem?_eq_some_iff.1 hy).1
      have hjl := (List.getElem?_eq_some_iff.1 hj).1
      obtain ⟨q1, q2⟩ := room_cell (off := off) hi h1.len (by omega : j < t.width)
      exact h1.foot _ q1 q2
  | pair a b iha ihb =>
    intro x vs F F' hk hF h
    obtain ⟨Fa, Fb, h1, h2, h3, ha, hb⟩ := h
    exact ⟨Fa, Fb, fun g p h => hF _ _ (h1 g p h), fun g p h => hF _ _ (h2 g p h), h3, iha _ _ _ _ (hk.sub h1) (fun _ _ h => h) ha, ihb _ _ _ _ (hk.sub h2) (fun _ _ h => h) hb⟩

theorem Kept.refl (w : World) (F : Foot) : Kept w w F := ⟨fun g cs e fr h => ⟨cs, h, rfl⟩, fun _ _ _ _ h => h⟩
theorem RdU.sub {w : World} {t : Ty} {x : t.den} {vs : List Value} {F F' : Foot} (h : RdU w t x vs F) (hF : ∀ g p, F g p → F' g p) : RdU w t x vs F' := RdU.keep t x vs F F' (.refl w F) hF h

/-- What is held alone can be read. -/
theorem RdU.rd {w : World} {S : Foot} : ∀ (t : Ty) (x : t.den) (vs : List Value) (F : Foot), (∀ g p, F g p → S g p) → RdU w t x vs F → Rd w S t x vs := by
  intro t
  induction t with
  | int k => intro x vs F _ h; exact h
  | bool => intro x vs F _ h; exact h
  | str => intro x vs F _ h; exact h
  | sl t ih =>
    intro x vs F hF h
    obtain ⟨v, rfl, h⟩ := h
    rcases h with ⟨hl, A, rfl⟩ | ⟨g, off, cap, G, h1, h2, h3⟩
    · have : x = [] := hl
      subst this
      exact ⟨A, 0, rfl, Nat.le_refl _, fun h => absurd rfl h⟩
    · refine ⟨_, cap, by rw [h1.val], h1.len, fun _ => ⟨g, off, rfl, fun i y hy => ?_⟩⟩
      obtain ⟨us, h4, h5⟩ := h3 i y hy
      refine ⟨us, fun j u hj => ⟨hF _ _ ?_, h4 j u hj⟩, ih _ _ _ (fun g p h => hF _ _ (h2.sub i g p h)) h5⟩
      have hl := h5.length
      have hi := (List.getElem?_eq_some_iff.1 hy).1
      have hjl := (List.getElem?_eq_some_iff.1 hj).1
      obtain ⟨q1, q2⟩ := room_cell (off := off) hi h1.len (by omega : j < t.width)
      exact h1.foot _ q1 q2
  | pair a b iha ihb =>
    intro x vs F hF h
    obtain ⟨Fa, Fb, h1, h2, h3, ha, hb⟩ := h
    exact ⟨iha _ _ _ (fun g p h => hF _ _ (h1 g p h)) ha, ihb _ _ _ (fun g p h => hF _ _ (h2 g p h)) hb⟩

theorem RdU.one {w : World} {t : Ty} {x : t.den} {vs : List Value} {F : Foot} (h : RdU w t x vs F) : ∀ v ∈ vs, v.oneCell' = true := (RdU.rd (S := F) t x vs F (fun _ _ h => h) h).one

/-- Flat data lead nowhere. -/
theorem Rd.rdU {w : World} {S F : Foot} : ∀ (t : Ty) (x : t.den) (vs : List Value), t.flat = true → Rd w S t x vs → RdU w t x vs F := by
  intro t
  induction t generalizing F with
  | int k => intro x vs _ h; exact h
  | bool => intro x vs _ h; exact h
  | str => intro x vs _ h; exact h
  | sl t ih => intro x vs hf h; cases hf
  | pair a b iha ihb =>
    intro x vs hf h
    simp only [Ty.flat, Bool.and_eq_true] at hf
    exact ⟨fun _ _ => False, fun _ _ => False, fun _ _ h => h.elim, fun _ _ h => h.elim, fun _ _ h _ => h.elim, iha _ _ hf.1 h.1, ihb _ _ hf.2 h.2⟩

/-! ### The walk's state and memory -/

structure Cx where
  B : Nat
  X : Foot
  w : World
  S : Foot
  H : List Blk
  ρ : Nat → Value
  fp : Nat → Foot
  sh : Nat → Option Ty
  vn : Nat → Option Nat

def Cx.Own (C : Cx) (g p : Nat) : Prop := C.B ≤ g ∨ C.X g p
def Cx.Sf (C : Cx) (f : Bool) : Foot := fun g p => C.S g p ∧ (f = true → C.Own g p)

def SPtr (w : World) (S : Foot) (t : Ty) (x : t.den) (o : Nat) (v : Value) : Prop :=
  ∃ g off us, At w S g off us ∧ Rd w S t x us ∧ v = .pointer (some (at_ g (off + o)))

def CapsR (w : World) (S : Foot) : List ((t : Ty) × t.den) → List Value → Prop
  | [], [] => True
  | ⟨t, x⟩ :: r, v :: vs => SPtr w S t x 0 v ∧ CapsR w S r vs
  | _, _ => False

def PtrsR (n : Nat) (ρ : Nat → Value) : List Nat → List Value → Prop
  | [], [] => True
  | b :: r, v :: vs => (b < n ∧ v = ρ b) ∧ PtrsR n ρ r vs
  | _, _ => False

/-- A slice stands at cell o of a datum. -/
def slAt : Ty → Nat → Bool
  | .sl _, o => Nat.beq o 0
  | .pair a b, o => cond (Nat.blt o a.width) (slAt a o) (slAt b (o - a.width))
  | _, _ => false

/-- The elements' kind of the slice at cell o of a datum. -/
def elAt : Ty → Nat → Option Ty
  | .sl t, o => cond (Nat.beq o 0) (some t) none
  | .pair a b, o => cond (Nat.blt o a.width) (elAt a o) (elAt b (o - a.width))
  | _, _ => none

def CellR (C : Cx) : Cell → Value → Prop
  | .int k n, v => v = .int k n
  | .lit b, v => v = .bool b
  | .bool b, v => v = .bool b
  | .nbool b, v => v = .bool (!b)
  | .prop p d, v => v = .bool (@decide p d)
  | .nprop p d, v => v = .bool (!(@decide p d))
  | .str s, v => v = .string s
  | .nil, v => v = .slice none 0 0
  | .emp, v => ∃ A, v = .slice A 0 0
  | .sl f t l, v => Rd C.w (C.Sf f) (.sl t) l [v]
  | .own b, v => v.oneCell' = true ∧ b < C.H.length ∧ v = C.ρ b
  | .ptr b o, v => v.oneCell' = true ∧ b < C.H.length ∧ ∃ g off, C.ρ b = .pointer (some (at_ g off)) ∧ v = .pointer (some (at_ g (off + o)))
  | .eptr b i o, v => v.oneCell' = true ∧ b < C.H.length ∧ ∃ t g off n cap, C.sh b = some t ∧ C.ρ b = .slice (some (at_ g off)) n cap ∧ i < n ∧ v = .pointer (some (at_ g (off + i * t.width + o)))
  | .nst b i o ver, v => v.oneCell' = true ∧ b < C.H.length ∧ ∀ v0, C.vn b = some v0 → ver ≤ v0 ∧ (v0 = ver → ∃ t g off n cap, C.sh b = some t ∧ slAt t o = true ∧ C.ρ b = .slice (some (at_ g off)) n cap ∧ i < n ∧ C.w.cell? (at_ g (off + i * t.width + o)) = some v)
  | .neptr b i o ver j q, v => v.oneCell' = true ∧ (∃ A, v = .pointer (some A)) ∧ b < C.H.length ∧ ∀ v0, C.vn b = some v0 → ver ≤ v0 ∧ (v0 = ver → ∃ t g off n cap u g' off' n' cap', C.sh b = some t ∧ slAt t o = true ∧ elAt t o = some u ∧ C.ρ b = .slice (some (at_ g off)) n cap ∧ i < n ∧ C.w.cell? (at_ g (off + i * t.width + o)) = some (.slice (some (at_ g' off')) n' cap') ∧ j < n' ∧ v = .pointer (some (at_ g' (off' + j * u.width + q))))
  | .nsv b i o ver lo, v => v.oneCell' = true ∧ b < C.H.length ∧ ∀ v0, C.vn b = some v0 → ver ≤ v0 ∧ (v0 = ver → ∃ t g off n cap u g' off' n' cap', C.sh b = some t ∧ slAt t o = true ∧ elAt t o = some u ∧ C.ρ b = .slice (some (at_ g off)) n cap ∧ i < n ∧ C.w.cell? (at_ g (off + i * t.width + o)) = some (.slice (some (at_ g' off')) n' cap') ∧ lo < n' ∧ v = .slice (some (at_ g' (off' + lo * u.width))) (n' - lo) (cap' - lo))
  | .sptr f t x o, v => SPtr C.w (C.Sf f) t x o v
  | .fn f caps, v => ∃ vs, v = .func (.func f) #[] vs ∧ CapsR C.w C.S caps vs.toList
  | .fnp f bs, v => ∃ vs, v = .func (.func f) #[] vs ∧ PtrsR C.H.length C.ρ bs vs.toList
  | .isn n, v => ∃ b, v = .bool b ∧ (n ≠ 0 → b = false)
  | .nisn n, v => ∃ b, v = .bool (!b) ∧ (n ≠ 0 → b = false)
  | .un, v => v = undef
  | .undef, _ => True

def LR (C : Cx) : List Cell → List Value → Prop
  | [], [] => True
  | c :: l, v :: vs => CellR C c v ∧ LR C l vs
  | _, _ => False

def SVR (C : Cx) (p : Bool × List Cell) (u : Value) : Prop :=
  match p.1 with
  | true => ∃ vs, u = .agg vs ∧ LR C p.2 vs.toList
  | false => LR C p.2 [u]

def TL (C : Cx) : List (Bool × List Cell) → List Value → Prop
  | [], [] => True
  | c :: l, v :: vs => SVR C c v ∧ TL C l vs
  | _, _ => False

def AVR (C : Cx) : AV → Value → Prop
  | .c x, v => CellR C x v
  | .agg l, v => ∃ vs, v = .agg vs ∧ LR C l vs.toList
  | .tup l, v => ∃ vs, v = .tuple vs ∧ TL C l vs.toList

/-- What is known goes on. -/
structure Cx.le (C C' : Cx) : Prop where
  B : C'.B = C.B
  X : C'.X = C.X
  S : ∀ g p, C.S g p → C'.S g p
  heap : ∀ g p u, C.S g p → C.w.cell? (at_ g p) = some u → C'.w.cell? (at_ g p) = some u
  len : C.H.length ≤ C'.H.length
  blk : ∀ b, b < C.H.length → C'.sh b = C.sh b ∧ C'.ρ b = C.ρ b
  vn : ∀ b, b < C.H.length → C'.vn b = none ∨ ∃ v v', C.vn b = some v ∧ C'.vn b = some v' ∧ v ≤ v' ∧ (v = v' → ∀ t g off n cap i o u, C.sh b = some t → C.ρ b = .slice (some (at_ g off)) n cap → i < n → slAt t o = true → C.w.cell? (at_ g (off + i * t.width + o)) = some u → C'.w.cell? (at_ g (off + i * t.width + o)) = some u)

theorem vn_refl (C : Cx) (b : Nat) : C.vn b = none ∨ ∃ v v', C.vn b = some v ∧ C.vn b = some v' ∧ v ≤ v' ∧ (v = v' → ∀ t g off n cap i o u, C.sh b = some t → C.ρ b = .slice (some (at_ g off)) n cap → i < n → slAt t o = true → C.w.cell? (at_ g (off + i * t.width + o)) = some u → C.w.cell? (at_ g (off + i * t.width + o)) = some u) := by
  cases h : C.vn b with
  | none => exact .inl rfl
  | some v => exact .inr ⟨v, v, rfl, rfl, Nat.le_refl _, fun _ _ _ _ _ _ _ _ _ _ _ _ _ h => h⟩
theorem Cx.le.refl (C : Cx) : C.le C := ⟨rfl, rfl, fun _ _ h => h, fun _ _ _ _ h => h, Nat.le_refl _, fun _ _ => ⟨rfl, rfl⟩, fun b _ => vn_refl C b⟩
theorem Cx.le.trans {A B C : Cx} (h : A.le B) (k : B.le C) : A.le C := by
  refine ⟨k.B.trans h.B, k.X.trans h.X, fun g p hb => k.S g p (h.S g p hb), fun g p u hb hc => k.heap g p u (h.S g p hb) (h.heap g p u hb hc), Nat.le_trans h.len k.len, fun b hb => ?_, fun b hb => ?_⟩
  · obtain ⟨h1, h2⟩ := h.blk b hb
    obtain ⟨k1, k2⟩ := k.blk b (Nat.lt_of_lt_of_le hb h.len)
    exact ⟨k1.trans h1, k2.trans h2⟩
  · obtain ⟨e1, e2⟩ := h.blk b hb
    rcases k.vn b (Nat.lt_of_lt_of_le hb h.len) with k1 | ⟨v1, v2, k1, k2, k3, k4⟩
    · exact .inl k1
    · rcases h.vn b hb with h1 | ⟨u1, u2, h1, h2, h3, h4⟩
      · rw [h1] at k1; cases k1
      · rw [h2] at k1
        cases k1
        refine .inr ⟨u1, v2, h1, k2, by omega, fun e => ?_⟩
        have e1' : v1 = u1 := by omega
        have e2' : v1 = v2 := by omega
        subst e1'
        subst e2'
        intro t g off n cap i o u q1 q2 q3 q4 q5
        exact k4 rfl t g off n cap i o u (e1.trans q1) (e2.trans q2) q3 q4 (h4 rfl t g off n cap i o u q1 q2 q3 q4 q5)
theorem Cx.le.Own {C C' : Cx} (h : C.le C') : ∀ g p, C.Own g p → C'.Own g p := fun g p hb => by unfold Cx.Own at *; rw [h.B, h.X]; exact hb
theorem Cx.le.Sf {C C' : Cx} (h : C.le C') (f : Bool) : ∀ g p, C.Sf f g p → C'.Sf f g p := fun g p hb => ⟨h.S g p hb.1, fun hf => h.Own g p (hb.2 hf)⟩
theorem Cx.le.cell {C C' : Cx} (h : C.le C') (f : Bool) : ∀ g p u, C.Sf f g p → C.w.cell? (at_ g p) = some u → C'.w.cell? (at_ g p) = some u := fun g p u hb => h.heap g p u hb.1

theorem SPtr.mono {w w' : World} {S S' : Foot} (hS : ∀ g p, S g p → S' g p) (hw : ∀ g p u, S g p → w.cell? (at_ g p) = some u → w'.cell? (at_ g p) = some u) {t : Ty} {x : t.den} {o : Nat} {v : Value} (h : SPtr w S t x o v) : SPtr w' S' t x o v := by
  obtain ⟨g, off, us, h1, hr, hv⟩ := h
  exact ⟨g, off, us, h1.mono hS hw, Rd.mono hS hw _ _ _ hr, hv⟩

theorem CapsR.mono {w w' : World} {S S' : Foot} (hS : ∀ g p, S g p → S' g p) (hw : ∀ g p u, S g p → w.cell? (at_ g p) = some u → w'.cell? (at_ g p) = some u) : ∀ (l : List ((t : Ty) × t.den)) (vs : List Value), CapsR w S l vs → CapsR w' S' l vs
  | [], [], _ => trivial
  | ⟨t, x⟩ :: r, v :: vs, h => ⟨h.1.mono hS hw, CapsR.mono hS hw r vs h.2⟩
  | [], _ :: _, h => h.elim
  | _ :: _, [], h => h.elim

theorem PtrsR.mono {C C' : Cx} (h : C.le C') : ∀ (l : List Nat) (vs : List Value), PtrsR C.H.length C.ρ l vs → PtrsR C'.H.length C'.ρ l vs
  | [], [], _ => trivial
  | b :: r, v :: vs, hh => by
    obtain ⟨⟨h1, h2⟩, h3⟩ := hh
    exact ⟨⟨Nat.lt_of_lt_of_le h1 h.len, h2.trans (h.blk b h1).2.symm⟩, PtrsR.mono h r vs h3⟩
  | [], _ :: _, h => h.elim
  | _ :: _, [], h => h.elim

theorem CellR.mono {C C' : Cx} (h : C.le C') {c : Cell} {v : Value} (hc : CellR C c v) : CellR C' c v := by
  cases c <;> try exact hc
  case sl f t l => exact Rd.mono (h.Sf f) (h.cell f) (.sl t) _ _ hc
  case own b =>
    obtain ⟨h1, h2, h3⟩ := hc
    exact ⟨h1, Nat.lt_of_lt_of_le h2 h.len, h3.trans (h.blk b h2).2.symm⟩
  case ptr b o =>
    obtain ⟨h1, h2, g, off, h3, h4⟩ := hc
    exact ⟨h1, Nat.lt_of_lt_of_le h2 h.len, g, off, (h.blk b h2).2.trans h3, h4⟩
  case eptr b i o =>
    obtain ⟨h1, h2, t, g, off, n, cap, h3, h4, h5, h6⟩ := hc
    exact ⟨h1, Nat.lt_of_lt_of_le h2 h.len, t, g, off, n, cap, (h.blk b h2).1.trans h3, (h.blk b h2).2.trans h4, h5, h6⟩
  case nst b i o ver =>
    obtain ⟨h1, h2, h3⟩ := hc
    refine ⟨h1, Nat.lt_of_lt_of_le h2 h.len, fun v0 e => ?_⟩
    rcases h.vn b h2 with k | ⟨v1, v2, k1, k2, k3, k4⟩
    · rw [k] at e; cases e
    · rw [k2] at e
      cases e
      obtain ⟨h4, h5⟩ := h3 v1 k1
      refine ⟨by omega, fun e => ?_⟩
      obtain ⟨t, g, off, n, cap, q1, q2, q3, q4, q5⟩ := h5 (by omega)
      exact ⟨t, g, off, n, cap, (h.blk b h2).1.trans q1, q2, (h.blk b h2).2.trans q3, q4, k4 (by omega) t g off n cap i o v q1 q3 q4 q2 q5⟩
  case neptr b i o ver j q =>
    obtain ⟨h1, h1', h2, h3⟩ := hc
    refine ⟨h1, h1', Nat.lt_of_lt_of_le h2 h.len, fun v0 e => ?_⟩
    rcases h.vn b h2 with k | ⟨v1, v2, k1, k2, k3, k4⟩
    · rw [k] at e; cases e
    · rw [k2] at e
      cases e
      obtain ⟨h4, h5⟩ := h3 v1 k1
      refine ⟨by omega, fun e => ?_⟩
      obtain ⟨t, g, off, n, cap, u, g', off', n', cap', q1, q2, q3, q4, q5, q6, q7, q8⟩ := h5 (by omega)
      exact ⟨t, g, off, n, cap, u, g', off', n', cap', (h.blk b h2).1.trans q1, q2, q3, (h.blk b h2).2.trans q4, q5, k4 (by omega) t g off n cap i o _ q1 q4 q5 q2 q6, q7, q8⟩
  case nsv b i o ver lo =>
    obtain ⟨h1, h2, h3⟩ := hc
    refine ⟨h1, Nat.lt_of_lt_of_le h2 h.len, fun v0 e => ?_⟩
    rcases h.vn b h2 with k | ⟨v1, v2, k1, k2, k3, k4⟩
    · rw [k] at e; cases e
    · rw [k2] at e
      cases e
      obtain ⟨h4, h5⟩ := h3 v1 k1
      refine ⟨by omega, fun e => ?_⟩
      obtain ⟨t, g, off, n, cap, u, g', off', n', cap', q1, q2, q3, q4, q5, q6, q7, q8⟩ := h5 (by omega)
      exact ⟨t, g, off, n, cap, u, g', off', n', cap', (h.blk b h2).1.trans q1, q2, q3, (h.blk b h2).2.trans q4, q5, k4 (by omega) t g off n cap i o _ q1 q4 q5 q2 q6, q7, q8⟩
  case sptr f t x o => exact SPtr.mono (h.Sf f) (h.cell f) hc
  case fn f caps =>
    obtain ⟨vs, hv, hr⟩ := hc
    exact ⟨vs, hv, CapsR.mono h.S h.heap _ _ hr⟩
  case fnp f bs =>
    obtain ⟨vs, hv, hr⟩ := hc
    exact ⟨vs, hv, hr.mono h⟩

theorem LR.mono {C C' : Cx} (h : C.le C') : ∀ {l : List Cell} {vs : List Value}, LR C l vs → LR C' l vs
  | [], [], _ => trivial
  | _ :: _, _ :: _, hh => ⟨hh.1.mono h, LR.mono h hh.2⟩
  | [], _ :: _, hh => hh.elim
  | _ :: _, [], hh => hh.elim
theorem SVR.mono {C C' : Cx} (h : C.le C') {p : Bool × List Cell} {u : Value} (hh : SVR C p u) : SVR C' p u := by
  obtain ⟨b, l⟩ := p
  cases b
  · exact LR.mono h hh
  · obtain ⟨vs, hv, hl⟩ := hh
    exact ⟨vs, hv, hl.mono h⟩
theorem TL.mono {C C' : Cx} (h : C.le C') : ∀ {l : List (Bool × List Cell)} {vs : List Value}, TL C l vs → TL C' l vs
  | [], [], _ => trivial
  | _ :: _, _ :: _, hh => ⟨hh.1.mono h, TL.mono h hh.2⟩
  | [], _ :: _, hh => hh.elim
  | _ :: _, [], hh => hh.elim
theorem AVR.mono {C C' : Cx} (h : C.le C') {a : AV} {v : Value} (hh : AVR C a v) : AVR C' a v := by
  cases a with
  | c x => exact CellR.mono h hh
  | agg l => obtain ⟨vs, hv, hl⟩ := hh; exact ⟨vs, hv, hl.mono h⟩
  | tup l => obtain ⟨vs, hv, hl⟩ := hh; exact ⟨vs, hv, hl.mono h⟩

section
variable {C : Cx}
theorem LR.length : ∀ {l : List Cell} {vs : List Value}, LR C l vs → vs.length = l.length
  | [], [], _ => rfl
  | _ :: _, _ :: _, hh => by simp [LR.length hh.2]
  | [], _ :: _, hh => hh.elim
  | _ :: _, [], hh => hh.elim
theorem LR.drop : ∀ {l : List Cell} {vs : List Value} (n : Nat), LR C l vs → LR C (l.drop n) (vs.drop n)
  | _, _, 0, h => by simpa using h
  | [], [], n + 1, _ => by simp [LR]
  | _ :: _, _ :: _, n + 1, h => by simpa using LR.drop n h.2
  | [], _ :: _, _ + 1, h => h.elim
  | _ :: _, [], _ + 1, h => h.elim
theorem LR.take : ∀ {l : List Cell} {vs : List Value} (n : Nat), LR C l vs → LR C (l.take n) (vs.take n)
  | _, _, 0, h => by simp [LR]
  | [], [], n + 1, _ => by simp [LR]
  | _ :: _, _ :: _, n + 1, h => ⟨h.1, LR.take n h.2⟩
  | [], _ :: _, _ + 1, h => h.elim
  | _ :: _, [], _ + 1, h => h.elim
theorem LR.append : ∀ {l : List Cell} {vs : List Value} {l' : List Cell} {vs' : List Value}, LR C l vs → LR C l' vs' → LR C (l ++ l') (vs ++ vs')
  | [], [], _, _, _, h => h
  | _ :: _, _ :: _, _, _, h, h' => ⟨h.1, LR.append h.2 h'⟩
  | [], _ :: _, _, _, h, _ => h.elim
  | _ :: _, [], _, _, h, _ => h.elim
theorem LR.get : ∀ {l : List Cell} {vs : List Value} {i : Nat} {c : Cell}, LR C l vs → l[i]? = some c → ∃ v, vs[i]? = some v ∧ CellR C c v
  | _ :: _, v :: _, 0, c, h, hi => by
    simp only [List.getElem?_cons_zero, Option.some.injEq] at hi
    subst hi
    exact ⟨v, rfl, h.1⟩
  | _ :: _, _ :: _, i + 1, c, h, hi => by
    simp only [List.getElem?_cons_succ] at hi
    obtain ⟨v, hv, hc⟩ := LR.get h.2 hi
    exact ⟨v, by simpa using hv, hc⟩
  | [], _, _, _, _, hi => by simp at hi
  | _ :: _, [], _, _, h, _ => h.elim
theorem LR.map {f : Cell → Cell} (hf : ∀ c v, CellR C c v → CellR C (f c) v) : ∀ {l : List Cell} {vs : List Value}, LR C l vs → LR C (l.map f) vs
  | [], [], _ => trivial
  | _ :: _, _ :: _, hh => ⟨hf _ _ hh.1, LR.map hf hh.2⟩
  | [], _ :: _, hh => hh.elim
  | _ :: _, [], hh => hh.elim
theorem LR.of : ∀ {l : List Cell} {vs : List Value}, vs.length = l.length → (∀ (i : Nat) (c : Cell) (v : Value), l[i]? = some c → vs[i]? = some v → CellR C c v) → LR C l vs
  | [], [], _, _ => trivial
  | c :: l, v :: vs, hl, h => ⟨h 0 c v rfl rfl, LR.of (by simpa using hl) fun i c v h1 h2 => h (i + 1) c v (by simpa using h1) (by simpa using h2)⟩
  | [], _ :: _, hl, _ => by simp at hl
  | _ :: _, [], hl, _ => by simp at hl
end

/-! ### What memory holds -/

/-- Held alone, but for the slice at cell o, which is another's. -/
def RdH (w : World) : (t : Ty) → t.den → List Value → Foot → Nat → Prop
  | .sl _, _, vs, _, o => o = 0 ∧ ∃ v, vs = [v] ∧ v.oneCell' = true
  | .pair a b, x, vs, F, o => ∃ Fa Fb : Foot, (∀ g p, Fa g p → F g p) ∧ (∀ g p, Fb g p → F g p) ∧ (∀ g p, Fa g p → Fb g p → False) ∧
      ((o < a.width ∧ RdH w a x.1 (vs.take a.width) Fa o ∧ RdU w b x.2 (vs.drop a.width) Fb) ∨ (a.width ≤ o ∧ RdU w a x.1 (vs.take a.width) Fa ∧ RdH w b x.2 (vs.drop a.width) Fb (o - a.width)))
  | _, _, _, _, _ => False

def hole (h : Option (Nat × Nat)) : Prop := h = h

/-- A row's elements. -/
def Els (C : Cx) (b : Nat) (t : Ty) (l : List t.den) (m : Md) (g off cap : Nat) : Prop :=
  match m with
  | .un => ∃ G, Nest (C.fp b) g off (cap * t.width) G ∧ ∀ i x, l[i]? = some x → ∃ us, AtW C.w g (off + i * t.width) us ∧ RdU C.w t x us (G i)
  | .fr => ∀ i x, l[i]? = some x → ∃ us, AtW C.w g (off + i * t.width) us ∧ Rd C.w (C.Sf true) t x us
  | .sh => ∀ i x, l[i]? = some x → ∃ us, AtW C.w g (off + i * t.width) us ∧ Rd C.w (C.Sf false) t x us

/-- A slice's row: nothing, or a room and its elements. -/
def RowR (C : Cx) (b : Nat) (t : Ty) (l : List t.den) (m : Md) : Prop :=
  (l = [] ∧ ∃ A, C.ρ b = .slice A 0 0) ∨ ∃ g off cap, Room C.w (C.fp b) t.width (C.ρ b) l.length g off cap ∧ Els C b t l m g off cap

/-- A row of which element i's slice at cell o is another's. -/
def RowH (C : Cx) (b : Nat) (t : Ty) (l : List t.den) (i o : Nat) : Prop :=
  ∃ g off cap G, Room C.w (C.fp b) t.width (C.ρ b) l.length g off cap ∧ Nest (C.fp b) g off (cap * t.width) G ∧ ∀ j x, l[j]? = some x → ∃ us, AtW C.w g (off + j * t.width) us ∧ (j ≠ i → RdU C.w t x us (G j)) ∧ (j = i → RdH C.w t x us (G j) o)
def RowX (C : Cx) (b : Nat) (t : Ty) (l : List t.den) (m : Md) : Option (Nat × Nat) → Prop
  | none => RowR C b t l m
  | some (i, o) => m = .un ∧ RowH C b t l i o

/-- A row of which the elements below n hold what they lead to alone. -/
def RowM (C : Cx) (b : Nat) (t : Ty) (l : List t.den) (n : Nat) : Prop :=
  (l = [] ∧ ∃ A, C.ρ b = .slice A 0 0) ∨ ∃ g off cap G, Room C.w (C.fp b) t.width (C.ρ b) l.length g off cap ∧ Nest (C.fp b) g off (cap * t.width) G ∧ ∀ i x, l[i]? = some x → ∃ us, AtW C.w g (off + i * t.width) us ∧ (i < n → RdU C.w t x us (G i)) ∧ (n ≤ i → Rd C.w (C.Sf false) t x us)

def BlkR (C : Cx) (b : Nat) : Blk → Prop
  | .dead => True
  | .cells _ l => C.sh b = none ∧ ∃ g off cs ty, C.ρ b = .pointer (some (at_ g off)) ∧ C.w.heap[g]? = some (Obj.cells cs ty (0, 0)) ∧ off + l.length ≤ cs.size ∧ ∀ j c, l[j]? = some c → c = .undef ∨ (C.fp b g (off + j) ∧ ∃ u, C.w.cell? (at_ g (off + j)) = some u ∧ CellR C c u)
  | .arr t l m ver h => hole h ∧ C.sh b = some t ∧ (m = .un → C.vn b = some ver) ∧ RowX C b t l m h
  | .mix t l n => C.sh b = some t ∧ RowM C b t l n
  | .bld t u s => C.sh b = none ∧ ∃ g p v, C.B ≤ g ∧ C.ρ b = .pointer (some (at_ g 0)) ∧ C.w.heap[g]? = some (Obj.cells #[p, v] t (0, 0)) ∧ (p = .pointer none ∨ p = .pointer (some (at_ g 0))) ∧ (∀ q, C.fp b g q) ∧
      ((s.size = 0 ∧ v = .slice none 0 0) ∨ ∃ g2 cap cur, g2 ≠ g ∧ C.B ≤ g2 ∧ v = .slice (some (at_ g2 0)) s.size cap ∧ C.w.heap[g2]? = some (Obj.cells cur u (0, 0)) ∧ s.size ≤ cap ∧ cap ≤ maxLen ∧ cur.size = cap ∧ (∀ i (h : i < s.data.toList.length), cur[i]? = some (.int .u8 ((s.data.toList[i]'h).toNat : Int))) ∧ ∀ q, C.fp b g2 q)

def live (C : Cx) (b : Nat) : Prop := ∃ x, C.H[b]? = some x ∧ x ≠ .dead

/-- A laid package variable holds what it was laid with: variable g is block g of memory. -/
def GlobAt (w : World) (q : Nat × (List Value → Prop)) : Prop := ∃ l ty fr, q.2 l ∧ w.heap[q.1]? = some (Obj.cells l.toArray ty fr)

structure HeapR (C : Cx) : Prop where
  base : C.B ≤ C.w.heap.size
  st : ∀ g p, C.S g p → g < C.w.heap.size
  blk : ∀ b x, C.H[b]? = some x → BlkR C b x
  own : ∀ b g p, live C b → C.fp b g p → ¬ C.S g p ∧ C.Own g p ∧ g < C.w.heap.size
  inj : ∀ b b' g p, live C b → live C b' → C.fp b g p → C.fp b' g p → b = b'
  vl : ∀ b v, C.vn b = some v → ∃ t l h, C.H[b]? = some (.arr t l .un v h)
  gl : ∀ q, q ∈ Glob.tab → GlobAt C.w q ∧ ∀ p, ¬ C.Own q.1 p

/-- The temporaries. -/
structure TR (C : Cx) (nt : Nat) (tmps : List (Nat × AV)) (a : Act) : Prop where
  size : a.tmps.size = nt
  defers : a.defers = []
  at_ : ∀ t, AVR C (look tmps t) (a.tmps.getD t undef)

theorem TR.mono {C C' : Cx} (h : C.le C') {nt : Nat} {tmps : List (Nat × AV)} {a : Act} (hh : TR C nt tmps a) : TR C' nt tmps a :=
  ⟨hh.size, hh.defers, fun t => (hh.at_ t).mono h⟩

theorem TR.put {C : Cx} {nt : Nat} {s : St} {a : Act} (hh : TR C nt s.tmps a) {d : Option Nat} (hd : ∀ t, d = some t → t < nt) {av : AV} {v : Value} (hv : AVR C av v) : TR C nt (s.put d av).tmps (a.put d v) := by
  cases d with
  | none => exact hh
  | some d =>
    refine ⟨by simp [Act.put, hh.size], hh.defers, fun t => ?_⟩
    simp only [St.put, look, Act.put]
    by_cases e : d = t
    · subst e
      have hlt : d < a.tmps.size := by rw [hh.size]; exact hd d rfl
      simp [Array.getD_eq_getD_getElem?, hlt]
      exact hv
    · have hb : Nat.beq d t = false := by
        cases hq : Nat.beq d t
        · rfl
        · exact absurd (Nat.eq_of_beq_eq_true hq) e
      have h1 := hh.at_ t
      rw [hb]
      simp only [cond_false]
      rw [Array.getD_eq_getD_getElem?] at h1 ⊢
      rw [Array.getElem?_setIfInBounds_ne e]
      exact h1

theorem put_heap (s : St) (d : Option Nat) (v : AV) : (s.put d v).heap = s.heap := by cases d <;> rfl

theorem constCell_r (C : Cx) (v : Value) : CellR C (constCell v) v := by
  unfold constCell
  split <;> simp [CellR]

theorem constCells_r (C : Cx) : ∀ l : List Value, LR C (l.map constCell) l
  | [] => trivial
  | v :: l => ⟨constCell_r C v, constCells_r C l⟩

theorem ofConst_r (C : Cx) (v : Value) : AVR C (ofConst v) v := by
  unfold ofConst
  split
  · rename_i cs
    exact ⟨cs, rfl, constCells_r C _⟩
  · trivial
  · exact constCell_r C v

theorem ev_r {C : Cx} {nt : Nat} {s : St} {a : Act} (h : TR C nt s.tmps a) (x : Operand) : AVR C (s.ev x) (a.eval x) := by
  cases x with
  | tmp t => exact h.at_ t
  | const v => exact ofConst_r C v
  | global g => trivial
  | func f => exact ⟨#[], rfl, trivial⟩

def knownC : Cell → Bool
  | .un => false
  | .undef => false
  | _ => true
theorem known_cons {c : Cell} {l : List Cell} (h : known (c :: l) = true) : knownC c = true ∧ known l = true := by
  cases c <;> simp_all [known, knownC]
theorem CellR.one {C : Cx} {c : Cell} {v : Value} (hk : knownC c = true) (h : CellR C c v) : v.oneCell' = true := by
  cases c <;> simp only [CellR] at h <;> first | (subst h; rfl) | (obtain ⟨_, rfl⟩ := h; rfl) | exact h.1 | skip
  case sl f t l => obtain ⟨A, cap, hv, _⟩ := h; cases hv; rfl
  case sptr f t x o => obtain ⟨_, _, _, _, _, rfl⟩ := h; rfl
  case fn f l => obtain ⟨_, rfl, _⟩ := h; rfl
  case fnp f l => obtain ⟨_, rfl, _⟩ := h; rfl
  case isn n => obtain ⟨_, rfl, _⟩ := h; rfl
  case nisn n => obtain ⟨_, rfl, _⟩ := h; rfl
  all_goals simp [knownC] at hk
theorem LR.one {C : Cx} : ∀ {l : List Cell} {vs : List Value}, known l = true → LR C l vs → ∀ v ∈ vs, v.oneCell' = true
  | [], [], _, _, v, hv => by cases hv
  | c :: l, u :: vs, hk, h, v, hv => by
    obtain ⟨h1, h2⟩ := known_cons hk
    rcases List.mem_cons.1 hv with rfl | hv
    · exact CellR.one h1 h.1
    · exact LR.one h2 h.2 v hv
  | [], _ :: _, _, h, _, _ => h.elim
  | _ :: _, [], _, h, _, _ => h.elim
theorem cells_of_one {v : Value} (h : v.oneCell' = true) : v.cells = #[v] := by
  cases v <;> first | rfl | simp [Value.oneCell'] at h

theorem AVR.cells {C : Cx} {a : AV} {v : Value} (h : AVR C a v) (hk : known a.cells = true) : LR C a.cells v.cells.toList := by
  cases a with
  | c x =>
    have h1 : CellR C x v := h
    rw [cells_of_one (CellR.one (known_cons hk).1 h1)]
    exact ⟨h1, trivial⟩
  | agg l => obtain ⟨vs, rfl, hl⟩ := h; exact hl
  | tup l => cases hk
/-! ### Cells that hold what they lead to alone -/

def CU (w : World) : Cell → Value → Foot → Prop
  | .sl _ t l, v, F => RdU w (.sl t) l [v] F
  | .nil, v, _ => v = .slice none 0 0
  | .int k n, v, _ => v = .int k n
  | .lit b, v, _ => v = .bool b
  | .bool b, v, _ => v = .bool b
  | .nbool b, v, _ => v = .bool (!b)
  | .prop p d, v, _ => v = .bool (@decide p d)
  | .nprop p d, v, _ => v = .bool (!(@decide p d))
  | .str s, v, _ => v = .string s
  | _, _, _ => False

def LU (w : World) : List Cell → List Value → Foot → Prop
  | [], [], _ => True
  | c :: l, v :: vs, F => ∃ Fa Fb : Foot, (∀ g p, Fa g p → F g p) ∧ (∀ g p, Fb g p → F g p) ∧ (∀ g p, Fa g p → Fb g p → False) ∧ CU w c v Fa ∧ LU w l vs Fb
  | _, _, _ => False

end Go.Proofs.YtcjfheidmlcbfaaGreatDoor.V
