/- Functions as data: their arguments, results and places by shapes; the contract out of equations. -/
import Derived.Test.YtcjfheidmlcbfaaGreatDoorSV10
set_option linter.unusedVariables false
set_option linter.unusedSimpArgs false
set_option linter.unusedSectionVars false
namespace Go.Proofs.YtcjfheidmlcbfaaGreatDoor.V
open Go.RowKit

/-! ### The table of types -/

def zeroB : List Cell → List Value → Bool
  | [], [] => true
  | .int k n :: l, .int k' m :: vs => decide (k = k') && decide (n = m) && zeroB l vs
  | .lit b :: l, .bool b' :: vs => (b == b') && zeroB l vs
  | .str s :: l, .string s' :: vs => Nat.beq s.size 0 && Nat.beq s'.size 0 && zeroB l vs
  | .nil :: l, .slice none 0 0 :: vs => zeroB l vs
  | _, _ => false

theorem zeroB_r (C : Cx) : ∀ (l : List Cell) (vs : List Value), zeroB l vs = true → LR C l vs := by
  intro l vs h
  fun_induction zeroB l vs with
  | case1 => trivial
  | case2 k n l k' m vs ih =>
    simp only [Bool.and_eq_true, decide_eq_true_eq] at h
    obtain ⟨⟨rfl, rfl⟩, h⟩ := h
    exact ⟨rfl, ih h⟩
  | case3 b l b' vs ih =>
    simp only [Bool.and_eq_true, beq_iff_eq] at h
    obtain ⟨rfl, h⟩ := h
    exact ⟨rfl, ih h⟩
  | case4 s l s' vs ih =>
    simp only [Bool.and_eq_true] at h
    obtain ⟨⟨h1, h2⟩, h⟩ := h
    have e1 := Nat.eq_of_beq_eq_true h1
    have e2 := Nat.eq_of_beq_eq_true h2
    have : s' = s := by
      rcases s with ⟨a⟩
      rcases s' with ⟨b⟩
      have ha : a = #[] := Array.eq_empty_of_size_eq_zero e1
      have hb : b = #[] := Array.eq_empty_of_size_eq_zero e2
      rw [ha, hb]
    exact ⟨by show Value.string s' = Value.string s; rw [this], ih h⟩
  | case5 l vs ih => exact ⟨rfl, ih h⟩
  | case6 => cases h

def fieldsB (P : Program) : List Field → List (Nat × Nat) → Bool
  | [], [] => true
  | f :: fs, (o, s) :: r => Nat.beq f.offset o && (match P.info? f.type with | some i => Nat.beq i.size s | none => false) && fieldsB P fs r
  | _, _ => false

def unitB : Nat → List (Nat × Nat) → Bool
  | _, [] => true
  | n, (o, s) :: r => Nat.beq o n && (Nat.beq s 1 && unitB (n + 1) r)

theorem unitB_r : ∀ (n : Nat) (l : List (Nat × Nat)), unitB n l = true → ∀ (f off sz : Nat), l[f]? = some (off, sz) → off = n + f ∧ sz = 1
  | n, [], h, f, off, sz, hf => by simp at hf
  | n, (o, s) :: r, h, f, off, sz, hf => by
    simp only [unitB, Bool.and_eq_true] at h
    obtain ⟨h1, h2, h3⟩ := h
    cases f with
    | zero =>
      simp only [List.getElem?_cons_zero, Option.some.injEq, Prod.mk.injEq] at hf
      obtain ⟨rfl, rfl⟩ := hf
      exact ⟨by rw [Nat.eq_of_beq_eq_true h1]; rfl, Nat.eq_of_beq_eq_true h2⟩
    | succ f =>
      obtain ⟨k1, k2⟩ := unitB_r (n + 1) r h3 f off sz (by simpa using hf)
      exact ⟨by omega, k2⟩

def tkB (P : Program) (ti : TI) (d : TypeDesc) : Bool :=
  match ti.k, d with
  | .int k, .int k' => decide (k' = k)
  | .bool, .bool => true
  | .str, .string => true
  | .slice e, .slice e' => Nat.beq e' e
  | .struct, .struct fs => fieldsB P fs.toList ti.offs
  | .arr n e, .array n' e' => Nat.beq n' n && (Nat.beq e' e && (unitB 0 ti.offs && (match P.info? e, P.underlying e with | some i, some d => Nat.beq i.size 1 && (aggD d == false) | _, _ => false)))
  | .bld _, .struct _ => true
  | .other, _ => true
  | _, _ => false

theorem zeroB_u (w : World) (F : Foot) : ∀ (l : List Cell) (vs : List Value), zeroB l vs = true → LU w l vs F := by
  intro l vs h
  have mk : ∀ {c : Cell} {l : List Cell} {v : Value} {vs : List Value}, CU w c v (fun _ _ => False) → LU w l vs F → LU w (c :: l) (v :: vs) F := fun h1 h2 => ⟨fun _ _ => False, F, fun _ _ h => h.elim, fun _ _ h => h, fun _ _ h => h.elim, h1, h2⟩
  fun_induction zeroB l vs with
  | case1 => trivial
  | case2 k n l k' m vs ih =>
    simp only [Bool.and_eq_true, decide_eq_true_eq] at h
    obtain ⟨⟨rfl, rfl⟩, h⟩ := h
    exact mk rfl (ih h)
  | case3 b l b' vs ih =>
    simp only [Bool.and_eq_true, beq_iff_eq] at h
    obtain ⟨rfl, h⟩ := h
    exact mk rfl (ih h)
  | case4 s l s' vs ih =>
    simp only [Bool.and_eq_true] at h
    obtain ⟨⟨h1, h2⟩, h⟩ := h
    have e1 := Nat.eq_of_beq_eq_true h1
    have e2 := Nat.eq_of_beq_eq_true h2
    have : s' = s := by
      rcases s with ⟨a⟩
      rcases s' with ⟨b⟩
      have ha : a = #[] := Array.eq_empty_of_size_eq_zero e1
      have hb : b = #[] := Array.eq_empty_of_size_eq_zero e2
      rw [ha, hb]
    exact mk (c := .str s) (v := .string s') (by show Value.string s' = Value.string s; rw [this]) (ih h)
  | case5 l vs ih => exact mk rfl (ih h)
  | case6 => cases h

/-! ### Equality of structs -/

def eqF (eb : TypeId → Ty → Bool) : List Field → Nat → Ty → Bool
  | [], _, _ => false
  | [f], off, y => (f.name != "_") && (Nat.beq f.offset off && eb f.type y)
  | f :: fs, off, y => match y with
    | .pair a b => (f.name != "_") && (Nat.beq f.offset off && (eb f.type a && eqF eb fs (off + a.width) b))
    | _ => false

def eqB (P : Program) : Nat → TypeId → Ty → Bool
  | 0, _, _ => false
  | n + 1, t, y => (match P.info? t with | some i => Nat.beq i.size y.width | none => false) && match P.underlying t with
    | some (.int _) => (match y with | .int _ => true | _ => false)
    | some .bool => (match y with | .bool => true | _ => false)
    | some .string => (match y with | .str => true | _ => false)
    | some (.struct fs) => (!P.stoodInHeld t) && eqF (eqB P n) fs.toList 0 y
    | _ => false

/-- The value whose cells are us. -/
def mkA (P : Program) (t : TypeId) (us : List Value) : Value := match P.underlying t with
  | some (.struct _) => .agg us.toArray
  | _ => us.headD undef

theorem Ty.deq_pair (a b : Ty) (x y : (Ty.pair a b).den) : @decide (x = y) ((Ty.pair a b).deq x y) = (@decide (x.1 = y.1) (a.deq _ _) && @decide (x.2 = y.2) (b.deq _ _)) := by
  rw [Bool.eq_iff_iff, Bool.and_eq_true]
  constructor
  · intro h
    have := @of_decide_eq_true _ (_) h
    exact ⟨@decide_eq_true _ (_) (congrArg Prod.fst this), @decide_eq_true _ (_) (congrArg Prod.snd this)⟩
  · rintro ⟨h1, h2⟩
    exact @decide_eq_true _ (_) (Prod.ext (@of_decide_eq_true _ (_) h1) (@of_decide_eq_true _ (_) h2))

section
variable {P : Program} {w0 : World} {S0 : Foot}
theorem part_r {eb : TypeId → Ty → Bool} {n : Nat} (heb : eb = eqB P n) {f : Field} {off : Nat} {y : Ty} (hf : eb f.type y = true) {xs : Array Value} {us : List Value} (hus : us = (xs.toList.drop off).take y.width) (hl : us.length = y.width) (w : World) : (part f.type xs off).run P w = .ok (mkA P f.type us) w := by
  subst heb
  cases n with
  | zero => cases hf
  | succ n =>
    simp only [eqB, Bool.and_eq_true] at hf
    obtain ⟨h1, h2⟩ := hf
    split at h1
    case h_2 => cases h1
    rename_i i hi
    have hs := Nat.eq_of_beq_eq_true h1
    have cell : ∀ {d : TypeDesc}, P.underlying f.type = some d → aggD d = false → y.width = 1 → (match P.underlying f.type with | some (.struct _) => Value.agg us.toArray | _ => us.headD undef) = us.headD undef → (part f.type xs off).run P w = .ok (mkA P f.type us) w := by
      intro d hu ha hw hm
      have hne : us ≠ [] := by intro e; rw [e] at hl; simp at hl; omega
      have hx : xs[off]? = some (us.headD undef) := by
        cases hq : us with
        | nil => exact absurd hq hne
        | cons v r =>
          have := congrArg (·[0]?) hus
          rw [hq] at this
          simp only [List.getElem?_cons_zero, List.getElem?_take, hw] at this
          simp at this
          simpa using this.symm
      unfold mkA
      rw [hm]
      simp [part, run_isAgg hu, ha, hx]
    split at h2
    · rename_i k hu
      cases y <;> simp only at h2 <;> try (cases h2; done)
      exact cell hu rfl rfl (by rw [hu])
    · rename_i hu
      cases y <;> simp only at h2 <;> try (cases h2; done)
      exact cell hu rfl rfl (by rw [hu])
    · rename_i hu
      cases y <;> simp only at h2 <;> try (cases h2; done)
      exact cell hu rfl rfl (by rw [hu])
    · rename_i fs hu
      unfold mkA
      rw [hu]
      have he : xs.extract off (off + i.size) = us.toArray := by
        apply Array.ext'
        rw [Array.toList_extract, hus, hs]
        simp [List.extract, List.drop_take]
      simp [part, run_isAgg hu, aggD, sizeOf, typeInfo, hi, he]
    · cases h2

theorem eq_r : ∀ (n : Nat) (t : TypeId) (y : Ty), eqB P n t y = true → ∀ (d : Nat) (a b : y.den) (us vs : List Value), Rd w0 S0 y a us → Rd w0 S0 y b vs → ∀ w : World, (Op.equalIn (d + n) t (mkA P t us) (mkA P t vs)).run P w = .ok (@decide (a = b) (y.deq a b)) w
  | 0, _, _, h => by cases h
  | n + 1, t, y, h => by
    intro d a b us vs ha hb w
    have ih := eq_r n
    simp only [eqB, Bool.and_eq_true] at h
    obtain ⟨h1, h2⟩ := h
    rw [← Nat.add_assoc]
    unfold mkA
    split at h2
    · rename_i k hu
      cases y <;> simp only at h2 <;> try (cases h2; done)
      obtain rfl : us = _ := ha
      obtain rfl : vs = _ := hb
      rw [hu]
      simp only [List.headD_cons]
      rw [run_equalIn_int w _ _ _ _ _ _ hu]
      congr 1
    · rename_i hu
      cases y <;> simp only at h2 <;> try (cases h2; done)
      obtain rfl : us = _ := ha
      obtain rfl : vs = _ := hb
      rw [hu]
      simp only [List.headD_cons]
      rw [run_equalIn_bool w _ _ _ _ hu]
      congr 1
    · rename_i hu
      cases y <;> simp only at h2 <;> try (cases h2; done)
      obtain rfl : us = _ := ha
      obtain rfl : vs = _ := hb
      rw [hu]
      simp only [List.headD_cons]
      rw [run_equalIn_string w _ _ _ _ hu]
      congr 1
      rw [Bool.eq_iff_iff]
      constructor
      · intro h
        refine @decide_eq_true _ (_) (ByteArray.ext ?_)
        have := congrArg List.toArray (beq_iff_eq.1 h)
        simpa [ByteArray.toList_eq] using this
      · intro h
        have := @of_decide_eq_true _ (_) h
        rw [this]
        exact beq_self_eq_true _
    · rename_i fs hu
      rw [hu]
      simp only
      rw [Bool.and_eq_true, Bool.not_eq_true'] at h2
      have hfo : P.fieldsOf t = fs := by simp [Program.fieldsOf, hu]
      rw [run_equalIn_struct w _ _ _ _ (by rw [hfo]; exact hu) h2.1, hfo]
      have key : ∀ (fs : List Field) (off : Nat) (y : Ty), eqF (eqB P n) fs off y = true → ∀ (xs ys : Array Value) (a b : y.den), xs.size = off + y.width → ys.size = off + y.width → Rd w0 S0 y a (xs.toList.drop off) → Rd w0 S0 y b (ys.toList.drop off) → (Op.eqFields (d + n) xs ys fs).run P w = .ok (@decide (a = b) (y.deq a b)) w := by
        intro fs
        induction fs with
        | nil => intro off y h; cases h
        | cons f fs ihf =>
          intro off y h xs ys a b hx hy ra rb
          have one : ∀ (y' : Ty) (a' b' : y'.den), (f.name != "_") = true → Nat.beq f.offset off = true → eqB P n f.type y' = true → off + y'.width ≤ xs.size → off + y'.width ≤ ys.size → Rd w0 S0 y' a' ((xs.toList.drop off).take y'.width) → Rd w0 S0 y' b' ((ys.toList.drop off).take y'.width) →
              (Op.eqFields (d + n) xs ys (f :: fs)).run P w = if @decide (a' = b') (y'.deq a' b') = true then (Op.eqFields (d + n) xs ys fs).run P w else .ok false w := by
            intro y' a' b' q1 q2 q3 q4 q5 q6 q7
            have hn : f.name ≠ "_" := by simpa using q1
            have ho := Nat.eq_of_beq_eq_true q2
            have p1 := part_r (eb := eqB P n) rfl (f := f) (off := off) q3 (xs := xs) rfl (by simp; omega) w
            have p2 := part_r (eb := eqB P n) rfl (f := f) (off := off) q3 (xs := ys) rfl (by simp; omega) w
            have p3 := ih f.type y' q3 d a' b' _ _ q6 q7 w
            simp only [Op.eqFields, hn, ne_eq, not_false_eq_true, if_true, Sem.run_bind, ho, p1, p2, p3, Result.andThen_ok]
            cases @decide (a' = b') (y'.deq a' b') <;> simp
          cases fs with
          | nil =>
            simp only [eqF, Bool.and_eq_true] at h
            have e1 : (xs.toList.drop off).take y.width = xs.toList.drop off := List.take_of_length_le (by simp; omega)
            have e2 : (ys.toList.drop off).take y.width = ys.toList.drop off := List.take_of_length_le (by simp; omega)
            rw [one y a b h.1 h.2.1 h.2.2 (by omega) (by omega) (by rw [e1]; exact ra) (by rw [e2]; exact rb)]
            cases hd : @decide (a = b) (y.deq a b) <;> simp [Op.eqFields]
          | cons g fs =>
            cases y <;> simp only [eqF] at h <;> try (cases h; done)
            rename_i ya yb
            simp only [Bool.and_eq_true] at h
            simp only [Ty.width] at hx hy
            have r1 := one ya a.1 b.1 h.1 h.2.1 h.2.2.1 (by omega) (by omega) ra.1 rb.1
            have r2 := ihf (off + ya.width) yb h.2.2.2 xs ys a.2 b.2 (by omega) (by omega) (by rw [← List.drop_drop]; exact ra.2) (by rw [← List.drop_drop]; exact rb.2)
            rw [r1, r2, Ty.deq_pair]
            cases @decide (a.1 = b.1) (ya.deq _ _) <;> simp
      have hla := ha.length
      have hlb := hb.length
      exact key fs.toList 0 y h2.2 us.toArray vs.toArray a b (by simpa using hla) (by simpa using hlb) (by simpa using ha) (by simpa using hb)
    · cases h2
end

/-- The zero value is the table's. -/
def zeroT (ti : TI) (z : Value) : Bool :=
  match ti.k with
  | .bld _ => ti.ty.isNone && (match ti.zero with | [.undef, .nil] => true | _ => false) && (match z with | .agg ⟨[.pointer none, .slice none 0 0]⟩ => true | _ => false)
  | _ => zeroB ti.zero z.cells.toList
theorem zeroT_r {ti : TI} {z : Value} (h : zeroT ti z = true) : (∀ C, LR C ti.zero z.cells.toList) ∧ (ti.ty.isSome = true → ∀ w F, LU w ti.zero z.cells.toList F) ∧ ∀ u, ti.k = .bld u → z = .agg #[.pointer none, .slice none 0 0] := by
  unfold zeroT at h
  split at h
  · simp only [Bool.and_eq_true] at h
    obtain ⟨⟨h1, h2⟩, h3⟩ := h
    split at h2
    case h_2 => cases h2
    rename_i hz
    split at h3
    case h_2 => cases h3
    refine ⟨fun C => ?_, fun hs => ?_, fun _ _ => rfl⟩
    · rw [hz]; exact ⟨trivial, rfl, trivial⟩
    · cases hy : ti.ty <;> rw [hy] at h1 hs <;> simp at h1 hs
  · rename_i hk
    exact ⟨fun C => zeroB_r C _ _ h, fun _ w F => zeroB_u w F _ _ h, fun u e => absurd e (hk u)⟩
def tiB (P : Program) (t : Nat) (ti : TI) : Bool :=
  (match P.info? t, P.underlying t with
  | some i, some d => Nat.beq i.size ti.size && Nat.beq i.bytes ti.bytes && (match i.zero with | some z => Nat.beq z.cells.size ti.size && zeroT ti z | none => false) && (aggD d == ti.agg) && tkB P ti d
  | _, _ => false) && (!ti.eq || ((!P.eqGuardType P.depth t) && (match ti.k, ti.ty with | .struct, some y => eqB P 20 t y | _, _ => false)))

theorem fieldsB_r {P : Program} : ∀ (fs : List Field) (offs : List (Nat × Nat)), fieldsB P fs offs = true → fs.length = offs.length ∧ ∀ (f off sz : Nat), offs[f]? = some (off, sz) → ∃ fl : Field, fs[f]? = some fl ∧ fl.offset = off ∧ ∃ i, P.info? fl.type = some i ∧ i.size = sz
  | [], [], _ => ⟨rfl, fun f off sz h => by simp at h⟩
  | f :: fs, (o, s) :: r, h => by
    simp only [fieldsB, Bool.and_eq_true] at h
    obtain ⟨⟨h1, h2⟩, h3⟩ := h
    obtain ⟨k1, k2⟩ := fieldsB_r fs r h3
    refine ⟨by simp [k1], fun n off sz hn => ?_⟩
    cases n with
    | zero =>
      simp only [List.getElem?_cons_zero, Option.some.injEq, Prod.mk.injEq] at hn
      obtain ⟨rfl, rfl⟩ := hn
      split at h2
      · rename_i i hi
        exact ⟨f, rfl, Nat.eq_of_beq_eq_true h1, i, hi, Nat.eq_of_beq_eq_true h2⟩
      · cases h2
    | succ n => simpa using k2 n off sz (by simpa using hn)
  | [], _ :: _, h => by cases h
  | _ :: _, [], h => by cases h

theorem tiB_r {P : Program} {t : Nat} {ti : TI} (h : tiB P t ti = true) : TIok P t ti := by
  unfold tiB at h
  rw [Bool.and_eq_true] at h
  obtain ⟨h, he⟩ := h
  split at h
  case h_2 => cases h
  rename_i i d hi hd
  simp only [Bool.and_eq_true, beq_iff_eq] at h
  obtain ⟨⟨⟨⟨h1, h2⟩, h3⟩, h4⟩, h5⟩ := h
  split at h3
  case h_2 => cases h3
  rename_i z hz
  simp only [Bool.and_eq_true] at h3
  have hk : match ti.k with
    | .int k => d = .int k
    | .bool => d = .bool
    | .str => d = .string
    | .slice e => d = .slice e
    | .struct => ∃ fs : Array Field, d = .struct fs ∧ fs.size = ti.offs.length ∧ ∀ (f off sz : Nat), ti.offs[f]? = some (off, sz) → ∃ fl : Field, fs[f]? = some fl ∧ fl.offset = off ∧ ∃ i, P.info? fl.type = some i ∧ i.size = sz
    | .arr n e => d = .array n e ∧ (∃ de i, P.underlying e = some de ∧ aggD de = false ∧ P.info? e = some i ∧ i.size = 1) ∧ ∀ (f off sz : Nat), ti.offs[f]? = some (off, sz) → off = f ∧ sz = 1
    | .bld u => ∃ i, P.info? t = some i ∧ i.zero = some (.agg #[.pointer none, .slice none 0 0])
    | .other => True := by
    unfold tkB at h5
    split at h5
    · rename_i hk; rw [hk]; rw [decide_eq_true_eq] at h5; rw [h5]
    · rename_i hk; rw [hk]
    · rename_i hk; rw [hk]
    · rename_i hk; rw [hk]; rw [Nat.eq_of_beq_eq_true h5]
    · rename_i fs hk
      rw [hk]
      obtain ⟨k1, k2⟩ := fieldsB_r _ _ h5
      exact ⟨fs, rfl, by simpa using k1, fun f off sz hf => by obtain ⟨fl, h6, h7⟩ := k2 f off sz hf; exact ⟨fl, by simpa using h6, h7⟩⟩
    · rename_i hk
      rw [hk]
      simp only [Bool.and_eq_true] at h5
      obtain ⟨k1, k2, k3, k4⟩ := h5
      split at k4
      case h_2 => cases k4
      rename_i ie de hie hde
      simp only [Bool.and_eq_true, beq_iff_eq] at k4
      exact ⟨by rw [Nat.eq_of_beq_eq_true k1, Nat.eq_of_beq_eq_true k2], ⟨de, ie, hde, k4.2, hie, Nat.eq_of_beq_eq_true k4.1⟩, fun f off sz hf => by simpa using unitB_r 0 _ k3 f off sz hf⟩
    · rename_i hk; rw [hk]; exact ⟨i, hi, by rw [hz, (zeroT_r h3.2).2.2 _ hk]⟩
    · rename_i hk; rw [hk]; trivial
    · cases h5
  refine ⟨⟨i, z, hi, Nat.eq_of_beq_eq_true h1, Nat.eq_of_beq_eq_true h2, hz, Nat.eq_of_beq_eq_true h3.1, (zeroT_r h3.2).1, (zeroT_r h3.2).2.1⟩, ⟨d, hd, h4, hk⟩, fun heq => ?_⟩
  rw [heq] at he
  simp only [Bool.not_true, Bool.false_or, Bool.and_eq_true, Bool.not_eq_true'] at he
  obtain ⟨he1, he2⟩ := he
  refine ⟨he1, fun ty hty w0 S0 a b us vs ha hb w => ?_⟩
  rw [hty] at he2
  split at he2
  case h_2 => cases he2
  rename_i y hks hy
  cases hy
  rw [hks] at hk
  obtain ⟨fs, rfl, _⟩ := hk
  have := eq_r 20 t ty he2 9980 a b us vs ha hb w
  unfold mkA at this
  rw [hd] at this
  exact this

def lookT : List (Nat × TI) → Nat → Option TI
  | [], _ => none
  | (i, v) :: r, t => cond (Nat.beq i t) (some v) (lookT r t)

theorem tok_of {P : Program} {L : List (Nat × TI)} (h : (L.all fun p => tiB P p.1 p.2) = true) : TOK P (lookT L) := by
  intro t ti ht
  induction L with
  | nil => cases ht
  | cons p L ih =>
    simp only [List.all_cons, Bool.and_eq_true] at h
    simp only [lookT] at ht
    cases hb : Nat.beq p.1 t
    · rw [hb] at ht; exact ih h.2 ht
    · rw [hb] at ht
      cases ht
      have := Nat.eq_of_beq_eq_true hb
      subst this
      exact tiB_r h.1

end Go.Proofs.YtcjfheidmlcbfaaGreatDoor.V
