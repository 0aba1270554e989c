/- What comes back from a callee that blocks were handed over to. -/
import Derived.Test.YtcjfheidmlcbfaaGreatDoorSV11c
set_option linter.unusedVariables false
set_option linter.unusedSimpArgs false
set_option linter.unusedSectionVars false
namespace Go.Proofs.YtcjfheidmlcbfaaGreatDoor.V
open Go.RowKit

def bck (σ : List Nat) (n j : Nat) : Nat := match σ[j]? with | some b => b | none => n + (j - σ.length)
def mapC (f : Nat → Nat) : Cell → Cell
  | .own b => .own (f b)
  | .ptr b o => .ptr (f b) o
  | .eptr b i o => .eptr (f b) i o
  | .fnp g l => .fnp g (l.map f)
  | .nst _ _ _ _ => .undef
  | .neptr _ _ _ _ _ _ => .undef
  | .nsv _ _ _ _ _ => .undef
  | c => c
def mapA (f : Nat → Nat) : AV → AV
  | .c x => .c (mapC f x)
  | .agg l => .agg (l.map (mapC f))
  | .tup l => .tup (l.map fun p => (p.1, p.2.map (mapC f)))
def mapB (f : Nat → Nat) : Blk → Blk
  | .cells ty l => .cells ty (l.map (mapC f))
  | .bld _ _ _ => .dead
  | b => b
def verB (old x : Blk) : Blk :=
  match x with
  | .arr t l .un v h => match old with
    | .arr _ _ .un v0 _ => .arr t l .un (v0 + 1) h
    | _ => .dead
  | x => x
def updL (H : List Blk) : List Nat → List Blk → List Blk
  | [], l => H ++ l
  | _ :: _, [] => H
  | b :: σ, x :: l => (updL H σ l).set b (verB (H.getD b .dead) x)

theorem updL_get {H : List Blk} : ∀ (σ : List Nat) (l : List Blk), nodupN σ = true → (∀ b ∈ σ, b < H.length) → σ.length ≤ l.length →
    (updL H σ l).length = H.length + (l.length - σ.length) ∧ (∀ (j b : Nat) (x : Blk), σ[j]? = some b → l[j]? = some x → (updL H σ l)[b]? = some (verB (H.getD b .dead) x)) ∧
    (∀ b : Nat, b < H.length → b ∉ σ → (updL H σ l)[b]? = H[b]?) ∧ ∀ m : Nat, (updL H σ l)[H.length + m]? = l[σ.length + m]?
  | [], l, _, _, _ => by
    refine ⟨by simp [updL], fun j b x h _ => by simp at h, fun b hb _ => by simp [updL, List.getElem?_append_left hb], fun m => ?_⟩
    simp only [updL, List.length_nil, Nat.zero_add]
    rw [List.getElem?_append_right (by omega)]
    congr 1
    omega
  | _ :: _, [], _, _, h => by simp at h
  | b :: σ, x :: l, hn, hlt, hle => by
    have hnb : b ∉ σ := by
      intro hm
      simp only [nodupN, (memN_iff σ b).2 hm, cond_true] at hn
      cases hn
    have hn' : nodupN σ = true := by
      simp only [nodupN] at hn
      cases hm : memN σ b
      · rw [hm] at hn; exact hn
      · rw [hm] at hn; cases hn
    have hb := hlt b (by simp)
    obtain ⟨h1, h2, h3, h4⟩ := updL_get (H := H) σ l hn' (fun b hb => hlt b (by simp [hb])) (by simpa using hle)
    refine ⟨by simp [updL, h1], fun j b' y hj hy => ?_, fun b' hb' hm => ?_, fun m => ?_⟩
    · cases j with
      | zero =>
        simp only [List.getElem?_cons_zero, Option.some.injEq] at hj hy
        subst hj
        subst hy
        simp only [updL]
        rw [List.getElem?_set_self (by omega)]
      | succ j =>
        simp only [List.getElem?_cons_succ] at hj hy
        have hm := List.mem_of_getElem? hj
        simp only [updL]
        rw [List.getElem?_set_ne (fun e : b = b' => hnb (by rw [e]; exact hm))]
        exact h2 j b' y hj hy
    · simp only [List.mem_cons, not_or] at hm
      simp only [updL]
      rw [List.getElem?_set_ne (fun e => hm.1 e.symm)]
      exact h3 b' hb' hm.2
    · simp only [updL]
      rw [List.getElem?_set_ne (by omega), h4 m]
      have : (b :: σ).length + m = (σ.length + m) + 1 := by simp; omega
      rw [this, List.getElem?_cons_succ]

theorem posN_of {σ : List Nat} (hn : nodupN σ = true) {j b : Nat} (h : σ[j]? = some b) : posN σ b = some j := by
  have key : ∀ (σ : List Nat) (b : Nat), b ∈ σ → ∃ i, posN σ b = some i := by
    intro σ
    induction σ with
    | nil => intro b hb; simp at hb
    | cons a σ ih =>
      intro b hb
      simp only [posN]
      cases e : Nat.beq a b
      · have hne : b ≠ a := fun q => by rw [q, Nat.beq_refl] at e; cases e
        obtain ⟨i, hi⟩ := ih b ((List.mem_cons.1 hb).resolve_left hne)
        exact ⟨i + 1, by simp [hi]⟩
      · exact ⟨0, rfl⟩
  obtain ⟨i, hi⟩ := key σ b (List.mem_of_getElem? h)
  rw [hi, nodupN_inj σ i j b hn (posN_get σ b i hi) h]
theorem posN_none {σ : List Nat} {b : Nat} : b ∉ σ → posN σ b = none := by
  intro h
  cases e : posN σ b with
  | none => rfl
  | some i => exact absurd (List.mem_of_getElem? (posN_get σ b i e)) h
theorem posN_mem {σ : List Nat} {b : Nat} : posN σ b = none → b ∉ σ := by
  intro h hm
  obtain ⟨i, hi⟩ := List.getElem?_of_mem hm
  clear hm
  induction σ generalizing i with
  | nil => simp at hi
  | cons a σ ih =>
    simp only [posN] at h
    cases e : Nat.beq a b
    · rw [e] at h
      simp only [cond_false] at h
      cases i with
      | zero => simp only [List.getElem?_cons_zero, Option.some.injEq] at hi; rw [hi, Nat.beq_refl] at e; cases e
      | succ i =>
        refine ih ?_ i (by simpa using hi)
        cases hp : posN σ b with
        | none => rfl
        | some q => rw [hp] at h; cases h
    · rw [e] at h; cases h

section
variable {C D C' : Cx} {f : Nat → Nat} (hw : C'.w = D.w) (hS : ∀ g p, D.S g p → C'.S g p) (hO : ∀ g p, D.Own g p → C'.Own g p) (hf : ∀ j, j < D.H.length → f j < C'.H.length ∧ C'.ρ (f j) = D.ρ j ∧ C'.sh (f j) = D.sh j)
include hw hS hO hf

theorem mapC_r {c : Cell} {v : Value} (h : CellR D c v) : CellR C' (mapC f c) v := by
  have hSf : ∀ q g p, D.Sf q g p → C'.Sf q g p := fun q g p h => ⟨hS g p h.1, fun e => hO g p (h.2 e)⟩
  have hcell : ∀ (F : Foot) (g p : Nat) (u : Value), F g p → D.w.cell? (at_ g p) = some u → C'.w.cell? (at_ g p) = some u := fun F g p u _ h => by rw [hw]; exact h
  cases c <;> simp only [mapC] <;> try exact h
  case sl q t l => exact Rd.mono (hSf q) (hcell _) (.sl t) _ _ h
  case own b => obtain ⟨h1, h2, h3⟩ := h; obtain ⟨k1, k2, k3⟩ := hf b h2; exact ⟨h1, k1, h3.trans k2.symm⟩
  case ptr b o => obtain ⟨h1, h2, g, off, h3, h4⟩ := h; obtain ⟨k1, k2, k3⟩ := hf b h2; exact ⟨h1, k1, g, off, k2.trans h3, h4⟩
  case eptr b i o => obtain ⟨h1, h2, t, g, off, n, cap, h3, h4, h5⟩ := h; obtain ⟨k1, k2, k3⟩ := hf b h2; exact ⟨h1, k1, t, g, off, n, cap, k3.trans h3, k2.trans h4, h5⟩
  case nst b i o v => trivial
  case neptr b i o v j q => trivial
  case nsv b i o v lo => trivial
  case sptr q t x o => exact SPtr.mono (hSf q) (hcell _) h
  case fn g caps => obtain ⟨vs, hv, hc⟩ := h; exact ⟨vs, hv, CapsR.mono hS (hcell _) _ _ hc⟩
  case fnp g l =>
    obtain ⟨vs, hv, hc⟩ := h
    refine ⟨vs, hv, ?_⟩
    have key : ∀ (l : List Nat) (vs : List Value), PtrsR D.H.length D.ρ l vs → PtrsR C'.H.length C'.ρ (l.map f) vs := by
      intro l
      induction l with
      | nil => intro vs h; cases vs with | nil => trivial | cons _ _ => exact h.elim
      | cons b l ih =>
        intro vs h
        cases vs with
        | nil => exact h.elim
        | cons v vs => obtain ⟨⟨h1, h2⟩, h3⟩ := h; obtain ⟨k1, k2, _⟩ := hf b h1; exact ⟨⟨k1, h2.trans k2.symm⟩, ih vs h3⟩
    exact key l _ hc
theorem mapL_r : ∀ {l : List Cell} {vs : List Value}, LR D l vs → LR C' (l.map (mapC f)) vs
  | [], [], _ => trivial
  | _ :: _, _ :: _, h => ⟨mapC_r hw hS hO hf h.1, mapL_r h.2⟩
  | [], _ :: _, h => h.elim
  | _ :: _, [], h => h.elim
theorem mapTL_r : ∀ {l : List (Bool × List Cell)} {vs : List Value}, TL D l vs → TL C' (l.map fun p => (p.1, p.2.map (mapC f))) vs
  | [], [], _ => trivial
  | (b, l) :: _, u :: _, h => by
    refine ⟨?_, mapTL_r h.2⟩
    cases b
    · exact mapL_r hw hS hO hf (vs := [u]) h.1
    · obtain ⟨vs, hv, hl⟩ := h.1; exact ⟨vs, hv, mapL_r hw hS hO hf hl⟩
  | [], _ :: _, h => h.elim
  | _ :: _, [], h => h.elim
theorem mapA_r {v : AV} {u : Value} (h : AVR D v u) : AVR C' (mapA f v) u := by
  cases v with
  | c x => exact mapC_r hw hS hO hf h
  | agg l => obtain ⟨vs, hv, hl⟩ := h; exact ⟨vs, hv, mapL_r hw hS hO hf hl⟩
  | tup l => obtain ⟨vs, hv, hl⟩ := h; exact ⟨vs, hv, mapTL_r hw hS hO hf hl⟩

/-- A block under its new number. -/
theorem mapB_r {j : Nat} (hj : j < D.H.length) (hfp : C'.fp (f j) = D.fp j) {y x : Blk} (hB : BlkR D j y) (hx : x = mapB f y ∨ ∃ t l v v' h, y = .arr t l .un v h ∧ x = .arr t l .un v' h) (hv : ∀ t l v h, x = .arr t l .un v h → C'.vn (f j) = some v) : BlkR C' (f j) x := by
  obtain ⟨k1, k2, k3⟩ := hf j hj
  have hSf : ∀ q g p, D.Sf q g p → C'.Sf q g p := fun q g p h => ⟨hS g p h.1, fun e => hO g p (h.2 e)⟩
  have row : ∀ {t : Ty} {l : List t.den} {m : Md} {h : Option (Nat × Nat)}, RowX D j t l m h → RowX C' (f j) t l m h := by
    intro t l m h hr
    cases h with
    | none =>
      have hr : RowR D j t l m := hr
      show RowR C' (f j) t l m
      unfold RowR at *
      rw [k2, hfp, hw]
      rcases hr with h3 | ⟨g, off, cap, q1, q2⟩
      · exact .inl h3
      · refine .inr ⟨g, off, cap, q1, ?_⟩
        cases m with
        | un => obtain ⟨G, r1, r2⟩ := q2; exact ⟨G, by rw [hfp]; exact r1, by rw [hw]; exact r2⟩
        | fr => exact fun i x hx => by obtain ⟨us, r1, r2⟩ := q2 i x hx; exact ⟨us, by rw [hw]; exact r1, by rw [hw]; exact Rd.mono (hSf _) (fun _ _ _ _ h => h) _ _ _ r2⟩
        | sh => exact fun i x hx => by obtain ⟨us, r1, r2⟩ := q2 i x hx; exact ⟨us, by rw [hw]; exact r1, by rw [hw]; exact Rd.mono (hSf _) (fun _ _ _ _ h => h) _ _ _ r2⟩
    | some q =>
      obtain ⟨q0, g, off, cap, G, q1, q2, q3⟩ := hr
      exact ⟨q0, g, off, cap, G, by rw [k2, hfp, hw]; exact q1, by rw [hfp]; exact q2, by rw [hw]; exact q3⟩
  rcases hx with rfl | ⟨t, l, v, v', h, rfl, rfl⟩
  · cases y with
    | dead => trivial
    | cells ty l =>
      obtain ⟨h1, g, off, cs, ty', h2, h3, h4, h5⟩ := hB
      refine ⟨k3.trans h1, g, off, cs, ty', k2.trans h2, by rw [hw]; exact h3, by simpa using h4, fun i c hc => ?_⟩
      rw [List.getElem?_map] at hc
      cases hli : l[i]? with
      | none => rw [hli] at hc; cases hc
      | some c0 =>
        rw [hli] at hc
        simp only [Option.map_some, Option.some.injEq] at hc
        subst hc
        rcases h5 i c0 hli with rfl | ⟨q1, u, q2, q3⟩
        · exact .inl rfl
        · exact .inr ⟨by rw [hfp]; exact q1, u, by rw [hw]; exact q2, mapC_r hw hS hO hf q3⟩
    | arr t l m v h =>
      obtain ⟨h0, h1, h2, h3⟩ := hB
      exact ⟨h0, k3.trans h1, fun e => hv t l v h (by subst e; rfl), row h3⟩
    | mix t l n =>
      obtain ⟨h1, h3⟩ := hB
      refine ⟨k3.trans h1, ?_⟩
      unfold RowM at *
      rw [k2, hfp, hw]
      rcases h3 with h3 | ⟨g, off, cap, G, q1, q2, q3⟩
      · exact .inl h3
      · refine .inr ⟨g, off, cap, G, q1, q2, fun i x hx => ?_⟩
        obtain ⟨us, r1, r2, r3⟩ := q3 i x hx
        exact ⟨us, r1, r2, fun h => Rd.mono (hSf _) (fun _ _ _ _ h => h) _ _ _ (r3 h)⟩
    | bld t u s => trivial
  · obtain ⟨h0, h1, h2, h3⟩ := hB
    exact ⟨h0, k3.trans h1, fun e => hv t l v' h rfl, row h3⟩
end

theorem verB_cases {old x : Blk} (hd : verB old x ≠ .dead) : x ≠ .dead ∧ (verB old x = x ∧ (∀ t l v h, x ≠ .arr t l .un v h) ∨ ∃ t l v h t0 l0 v0 h0, x = .arr t l .un v h ∧ old = .arr t0 l0 .un v0 h0 ∧ verB old x = .arr t l .un (v0 + 1) h) := by
  refine ⟨fun e => hd (by subst e; rfl), ?_⟩
  unfold verB at *
  split at hd
  · rename_i t l v h
    split at hd
    · rename_i t0 l0 v0 h0
      exact .inr ⟨t, l, v, h, t0, l0, v0, h0, rfl, rfl, rfl⟩
    · exact absurd rfl hd
  · rename_i hx
    exact .inl ⟨rfl, fun t l v h e => hx t l v h e⟩

variable {C : Cx}

/-- **Memory behind a call.** -/
theorem HeapR.back (hH : HeapR C) {σ : List Nat} (hn : nodupN σ = true) (hlive : ∀ b ∈ σ, live C b) {sh : Bool} {D : Cx} (hcon : Con sh ((C.ren σ).sub sh) D) (hD : HeapR D) :
    ∃ C', C'.H = updL C.H σ (D.H.map (mapB (bck σ C.H.length))) ∧ C'.w = D.w ∧ C.le C' ∧ HeapR C' ∧ Frm C C' ∧ (∀ v u, AVR D v u → AVR C' (mapA (bck σ C.H.length) v) u) ∧ ∀ b : Nat, b < C.H.length → b ∉ σ → C'.H[b]? = C.H[b]? := by
  let C0 := (C.ren σ).sub sh
  have hlen0 : C0.H.length = σ.length := by simp [C0, Cx.sub, Cx.ren]
  have hle : σ.length ≤ D.H.length := by have := hcon.len; rw [hlen0] at this; exact this
  have hlt : ∀ b ∈ σ, b < C.H.length := fun b hb => live_lt (hlive b hb)
  obtain ⟨u1, u2, u3, u4⟩ := updL_get (H := C.H) σ (D.H.map (mapB (bck σ C.H.length))) hn hlt (by simpa using hle)
  let H2 := updL C.H σ (D.H.map (mapB (bck σ C.H.length)))
  have hhand : ∀ g p, C0.X g p → ∃ b ∈ σ, live C b ∧ C.fp b g p := by
    rintro g p ⟨i, h1, h2⟩
    obtain ⟨b, y, z1, z2, z3, _⟩ := ren_live h1
    obtain ⟨_, e2, _⟩ := ren_at C z1
    rw [e2] at h2
    exact ⟨b, List.mem_of_getElem? z1, ⟨y, z2, z3⟩, h2⟩
  have hDown : ∀ g p, D.Own g p → C.w.heap.size ≤ g ∨ C0.X g p := by
    intro g p h
    unfold Cx.Own at h
    rw [hcon.B, hcon.X] at h
    exact h
  let C' : Cx := { B := C.B, X := C.X, w := D.w, S := fun g p => C.S g p ∨ (D.S g p ∧ C0.Own g p), H := H2, ρ := fun b => if b < C.H.length then C.ρ b else D.ρ (σ.length + (b - C.H.length)), fp := fun b => if b < C.H.length then (match posN σ b with | some j => D.fp j | none => C.fp b) else D.fp (σ.length + (b - C.H.length)), sh := fun b => if b < C.H.length then C.sh b else D.sh (σ.length + (b - C.H.length)), vn := fun b => match posN σ b with | some _ => vnOf H2 b | none => if b < C.H.length then C.vn b else vnOf H2 b }
  have hS : ∀ g p, D.S g p → C'.S g p := by
    intro g p h
    rcases hcon.S g p h with ⟨e, k⟩ | k
    · subst e; exact .inl k
    · exact .inr ⟨h, k⟩
  have hO : ∀ g p, D.Own g p → C'.Own g p := by
    intro g p h
    rcases hDown g p h with k | k
    · exact .inl (Nat.le_trans hH.base k)
    · obtain ⟨b, _, h1, h2⟩ := hhand g p k
      exact (hH.own b g p h1 h2).2.1
  have hpos : ∀ j b, σ[j]? = some b → bck σ C.H.length j = b ∧ b < C.H.length ∧ posN σ b = some j := fun j b h => ⟨by simp [bck, h], hlt b (List.mem_of_getElem? h), posN_of hn h⟩
  have hneg : ∀ j, σ.length ≤ j → bck σ C.H.length j = C.H.length + (j - σ.length) := fun j h => by simp [bck, h]
  have hf : ∀ j, j < D.H.length → bck σ C.H.length j < C'.H.length ∧ C'.ρ (bck σ C.H.length j) = D.ρ j ∧ C'.sh (bck σ C.H.length j) = D.sh j := by
    intro j hj
    have hl2 : C'.H.length = C.H.length + (D.H.length - σ.length) := by show H2.length = _; simp only [H2]; rw [u1]; simp
    rcases Nat.lt_or_ge j σ.length with h | h
    · obtain ⟨q1, q2, q3⟩ := hpos j σ[j] (List.getElem?_eq_getElem h)
      obtain ⟨e1, e2, e3, _⟩ := ren_at C (List.getElem?_eq_getElem h)
      obtain ⟨d1, d2⟩ := hcon.blk j (by rw [hlen0]; exact h)
      refine ⟨by rw [q1]; omega, ?_, ?_⟩
      · rw [q1]; simp only [C', q2, if_true]; exact (d2.trans e1).symm
      · rw [q1]; simp only [C', q2, if_true]; exact (d1.trans e3).symm
    · rw [hneg j h]
      have e : ¬ C.H.length + (j - σ.length) < C.H.length := by omega
      have e' : σ.length + (C.H.length + (j - σ.length) - C.H.length) = j := by omega
      refine ⟨by omega, ?_, ?_⟩ <;> simp only [C', e, if_false, e']
  have hfp : ∀ j, j < D.H.length → C'.fp (bck σ C.H.length j) = D.fp j := by
    intro j hj
    rcases Nat.lt_or_ge j σ.length with h | h
    · obtain ⟨q1, q2, q3⟩ := hpos j σ[j] (List.getElem?_eq_getElem h)
      rw [q1]
      simp only [C', q2, if_true, q3]
    · rw [hneg j h]
      have e : ¬ C.H.length + (j - σ.length) < C.H.length := by omega
      have e' : σ.length + (C.H.length + (j - σ.length) - C.H.length) = j := by omega
      simp only [C', e, if_false, e']
  -- every block that is not kept is one of the callee's
  have hfrom : ∀ b x, C'.H[b]? = some x → x ≠ .dead → ¬ (live C b ∧ b ∉ σ) → ∃ j y, j < D.H.length ∧ b = bck σ C.H.length j ∧ D.H[j]? = some y ∧ y ≠ .dead ∧ ((b ∈ σ ∧ x = verB (C.H.getD b .dead) (mapB (bck σ C.H.length) y)) ∨ (C.H.length ≤ b ∧ x = mapB (bck σ C.H.length) y)) := by
    intro b x hx hd hk
    rcases Nat.lt_or_ge b C.H.length with h | h
    · by_cases hm : b ∈ σ
      · obtain ⟨j, hj⟩ := List.getElem?_of_mem hm
        have hjl : j < D.H.length := Nat.lt_of_lt_of_le (List.getElem?_eq_some_iff.1 hj).1 hle
        have := u2 j b (mapB (bck σ C.H.length) D.H[j]) hj (by rw [List.getElem?_map, List.getElem?_eq_getElem hjl]; rfl)
        have hx' : H2[b]? = some x := hx
        rw [this] at hx'
        cases hx'
        refine ⟨j, D.H[j], hjl, (hpos j b hj).1.symm, List.getElem?_eq_getElem hjl, fun e => ?_, .inl ⟨hm, rfl⟩⟩
        rw [e] at hd
        exact hd rfl
      · have hx' : H2[b]? = some x := hx
        rw [u3 b h hm] at hx'
        exact absurd ⟨⟨x, hx', hd⟩, hm⟩ hk
    · have hx' : H2[b]? = some x := hx
      have := u4 (b - C.H.length)
      rw [show C.H.length + (b - C.H.length) = b by omega] at this
      rw [this, List.getElem?_map] at hx'
      cases hy : D.H[σ.length + (b - C.H.length)]? with
      | none => rw [hy] at hx'; cases hx'
      | some y =>
        rw [hy] at hx'
        simp only [Option.map_some, Option.some.injEq] at hx'
        refine ⟨_, y, (List.getElem?_eq_some_iff.1 hy).1, ?_, hy, fun e => ?_, .inr ⟨h, hx'.symm⟩⟩
        · rw [hneg _ (by omega)]; omega
        · subst e; subst hx'; exact hd rfl
  have hliveD : ∀ b, live C' b → ¬ (live C b ∧ b ∉ σ) → ∃ j, j < D.H.length ∧ b = bck σ C.H.length j ∧ live D j := by
    rintro b ⟨x, hx, hd⟩ hk
    obtain ⟨j, y, h1, h2, h3, h4, _⟩ := hfrom b x hx hd hk
    exact ⟨j, h1, h2, y, h3, h4⟩
  have hsize : C.w.heap.size ≤ D.w.heap.size := hcon.chg.size
  have main := hH.next (C' := C') (F := C0.X) (fun b => live C b ∧ b ∉ σ) rfl rfl ⟨hcon.chg.os, hcon.chg.tape, hcon.chg.output, hsize, fun g o ho => hcon.chg.obj g o (Array.getElem?_eq_some_iff.1 ho).1 ho, fun g p hg hx => hcon.chg.cell g p hg fun ho => by
      rcases ho with k | k
      · have k : C.w.heap.size ≤ g := k
        have hg : g < C.w.heap.size := hg
        omega
      · exact hx k⟩ (fun g p h => by
      obtain ⟨b, h1, h2, h3⟩ := hhand g p h
      exact ⟨b, h2, fun q => q.2 h1, h3⟩) (fun g p h => .inl h) (fun g p h => by
      rcases h with h | ⟨_, h | h⟩
      · exact .inl h
      · exact .inr (.inr h)
      · obtain ⟨b, h1, h2, h3⟩ := hhand g p h
        exact .inr (.inl ⟨b, h2, fun q => q.2 h1, h3⟩)) (fun g p h => by
      rcases h with h | h
      · exact Nat.lt_of_lt_of_le (hH.st g p h) hsize
      · exact hD.st g p h.1) (by show C.H.length ≤ H2.length; simp only [H2]; rw [u1]; omega) (fun b hb => by simp [C', hb]) (fun b hb hk => by
      by_cases hm : b ∈ σ
      · obtain ⟨j, hj⟩ := List.getElem?_of_mem hm
        obtain ⟨q1, q2, q3⟩ := hpos j b hj
        have hv : C'.vn b = vnOf H2 b := by simp only [C', q3]
        rw [hv]
        have hjl : j < D.H.length := Nat.lt_of_lt_of_le (List.getElem?_eq_some_iff.1 hj).1 hle
        have := u2 j b (mapB (bck σ C.H.length) D.H[j]) hj (by rw [List.getElem?_map, List.getElem?_eq_getElem hjl]; rfl)
        unfold vnOf
        rw [show H2[b]? = _ from this]
        split
        · rename_i t l v h e
          have e := Option.some.inj e
          have hd : verB (C.H.getD b .dead) (mapB (bck σ C.H.length) D.H[j]) ≠ .dead := by rw [e]; simp
          rcases (verB_cases hd).2 with ⟨e1, e2⟩ | ⟨t1, l1, v1, h1, t0, l0, v0, h0, e1, e2, e3⟩
          · rw [e1] at e; exact absurd e (e2 _ _ _ _)
          · rw [e3] at e
            have hbo : C.H[b]? = some (.arr t0 l0 .un v0 h0) := by
              rw [List.getD_eq_getElem?_getD] at e2
              rw [List.getElem?_eq_getElem q2] at e2 ⊢
              simpa using e2
            obtain ⟨_, _, hvn, _⟩ := hH.blk b _ hbo
            have ev : v0 + 1 = v := by cases e; rfl
            exact .inr ⟨v0, v, hvn rfl, rfl, by omega, fun e => by omega⟩
        · exact .inl rfl
      · refine .inl ?_
        have : C'.vn b = C.vn b := by simp only [C', posN_none hm, hb, if_true]
        rw [this]
        exact hH.vnone fun hl => hk ⟨hl, hm⟩) (fun b v hk hv => by
      have key : vnOf H2 b = some v → ∃ t l h, C'.H[b]? = some (.arr t l .un v h) := by
        intro h
        unfold vnOf at h
        split at h
        · rename_i t l v' h' e
          cases h
          exact ⟨t, l, h', e⟩
        · cases h
      cases hp : posN σ b with
      | some j => simp only [C', hp] at hv; exact key hv
      | none =>
        simp only [C', hp] at hv
        split at hv
        · rw [hH.vnone fun hl => hk ⟨hl, posN_mem hp⟩] at hv; cases hv
        · exact key hv) (fun b hb => by
      have hbl := live_lt hb.1
      refine ⟨hb.1, u3 b hbl hb.2, by simp only [C', posN_none hb.2, hbl, if_true], fun g p => by simp only [C', posN_none hb.2, hbl, if_true]⟩) (fun _ b x hx hd hk => by
      obtain ⟨j, y, h1, rfl, h3, h4, h5⟩ := hfrom b x hx hd hk
      have hvn : ∀ t l v h, x = .arr t l .un v h → C'.vn (bck σ C.H.length j) = some v := by
        intro t l v h e
        have hv : vnOf H2 (bck σ C.H.length j) = some v := by
          unfold vnOf
          rw [show H2[bck σ C.H.length j]? = some x from hx, e]
        rcases h5 with ⟨h5, _⟩ | ⟨h5, _⟩
        · obtain ⟨i, hi⟩ := List.getElem?_of_mem h5
          simp only [C', (hpos i _ hi).2.2]
          exact hv
        · have hm : bck σ C.H.length j ∉ σ := fun hm => by have := hlt _ hm; omega
          have hnl : ¬ bck σ C.H.length j < C.H.length := by omega
          simp only [C', posN_none hm, hnl, if_false]
          exact hv
      refine mapB_r (C' := C') (D := D) rfl hS hO hf h1 (hfp j h1) (hD.blk j y h3) ?_ hvn
      rcases h5 with ⟨_, e⟩ | ⟨_, e⟩
      · rw [e] at hd
        rcases (verB_cases hd).2 with ⟨e1, _⟩ | ⟨t1, l1, v1, k1, t0, l0, v0, k0, e1, e2, e3⟩
        · exact .inl (e.trans e1)
        · refine .inr ?_
          cases y with
          | dead => cases e1
          | cells ty l => cases e1
          | mix t l n => cases e1
          | bld t u s => cases e1
          | arr t l m v h => cases e1; exact ⟨t1, l1, v1, v0 + 1, k1, rfl, e.trans e3⟩
      · exact .inl e) (fun b g p hl hk hf' => by
      obtain ⟨j, h1, rfl, h3⟩ := hliveD b hl hk
      rw [hfp j h1] at hf'
      obtain ⟨q1, q2, q3⟩ := hD.own j g p h3 hf'
      have q4 := hDown g p q2
      refine ⟨fun hs => ?_, q3, ?_⟩
      · rcases hs with hs | hs
        · rcases q4 with k | k
          · have := hH.st g p hs; omega
          · obtain ⟨b, _, z1, z2⟩ := hhand g p k
            exact (hH.own b g p z1 z2).1 hs
        · exact q1 hs.1
      · rcases q4 with k | k
        · exact .inr k
        · obtain ⟨b, z0, z1, z2⟩ := hhand g p k
          exact .inl ⟨b, z1, fun q => q.2 z0, z2⟩) (fun b b' g p hl hl' hk hk' hf1 hf2 => by
      obtain ⟨j, h1, rfl, h3⟩ := hliveD b hl hk
      obtain ⟨j', h1', rfl, h3'⟩ := hliveD b' hl' hk'
      rw [hfp j h1] at hf1
      rw [hfp j' h1'] at hf2
      rw [hD.inj j j' g p h3 h3' hf1 hf2])
  exact ⟨C', rfl, rfl, main.1, main.2.1, main.2.2, fun v u h => mapA_r (C' := C') (D := D) rfl hS hO hf h, u3⟩
end Go.Proofs.YtcjfheidmlcbfaaGreatDoor.V
