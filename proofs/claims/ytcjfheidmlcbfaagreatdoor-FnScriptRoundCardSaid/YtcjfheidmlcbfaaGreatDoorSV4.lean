/- How what is known of memory goes on: new blocks, stores, rows that nobody writes any more. -/
import Derived.Test.YtcjfheidmlcbfaaGreatDoorSV3
import Derived.Deep.Upon
set_option linter.unusedVariables false
set_option linter.unusedSimpArgs false
namespace Go.Proofs.YtcjfheidmlcbfaaGreatDoor.V
open Go.RowKit

/-- A world that came out of another, cells of F alone (and new blocks) apart. -/
structure Chg (w w' : World) (F : Foot) : Prop where
  os : w'.os = w.os
  tape : w'.tape = w.tape
  output : w'.output = w.output
  size : w.heap.size ≤ w'.heap.size
  obj : ∀ (g : Nat) (o : Obj), w.heap[g]? = some o → w'.heap[g]? = some o ∨ ∃ (cs cs' : Array Value) (ty : TypeId) (fr : Nat × Nat), o = Obj.cells cs ty fr ∧ w'.heap[g]? = some (Obj.cells cs' ty fr) ∧ cs'.size = cs.size
  cell : ∀ g p, g < w.heap.size → ¬ F g p → w'.cell? (at_ g p) = w.cell? (at_ g p)

theorem Chg.refl (w : World) (F : Foot) : Chg w w F := ⟨rfl, rfl, rfl, Nat.le_refl _, fun _ _ h => .inl h, fun _ _ _ _ => rfl⟩
theorem Chg.mono {w w' : World} {F G : Foot} (h : Chg w w' F) (hs : ∀ g p, F g p → G g p) : Chg w w' G := ⟨h.os, h.tape, h.output, h.size, h.obj, fun g p hg hn => h.cell g p hg fun e => hn (hs g p e)⟩
theorem Chg.trans {a b c : World} {F : Foot} (h : Chg a b F) (k : Chg b c F) : Chg a c F := by
  refine ⟨k.os.trans h.os, k.tape.trans h.tape, k.output.trans h.output, Nat.le_trans h.size k.size, fun g o ho => ?_, fun g p hg hn => (k.cell g p (Nat.lt_of_lt_of_le hg h.size) hn).trans (h.cell g p hg hn)⟩
  rcases h.obj g o ho with h1 | ⟨cs, cs', ty, fr, rfl, h1, h2⟩
  · exact k.obj g o h1
  · rcases k.obj g _ h1 with k1 | ⟨ds, ds', ty', fr', e, k1, k2⟩
    · exact .inr ⟨cs, cs', ty, fr, rfl, k1, h2⟩
    · cases e
      exact .inr ⟨cs, ds', ty, fr, rfl, k1, k2.trans h2⟩
theorem Chg.kept {w w' : World} {F G : Foot} (h : Chg w w' F) (hd : ∀ g p, G g p → ¬ F g p) : Kept w w' G := by
  refine ⟨fun g cs e fr hg => ?_, fun g p u hg hc => by rw [h.cell g p (cell_lt hc) (hd g p hg)]; exact hc⟩
  rcases h.obj g _ hg with h1 | ⟨ds, ds', ty, fr', e', h1, h2⟩
  · exact ⟨cs, h1, rfl⟩
  · cases e'
    exact ⟨ds', h1, h2⟩
theorem Chg.of_below {w w' : World} (h : Below w.heap.size w w') (F : Foot) : Chg w w' F := by
  refine ⟨h.os, h.tape, h.output, h.size, fun g o ho => .inl ?_, fun g p hg _ => ?_⟩
  · rw [h.block g (Array.getElem?_eq_some_iff.1 ho).1]; exact ho
  · unfold World.cell?
    simp only
    rw [h.block g hg]
theorem Chg.below {w w' : World} {F : Foot} {B : Nat} (h : Chg w w' F) (hF : ∀ g p, F g p → B ≤ g) (hB : B ≤ w.heap.size) : Below B w w' := by
  refine ⟨h.os, h.tape, h.output, h.size, fun k hk => ?_⟩
  have hkl : k < w.heap.size := by omega
  have ho : w.heap[k]? = some w.heap[k] := Array.getElem?_eq_getElem hkl
  rcases h.obj k _ ho with h1 | ⟨cs, cs', ty, fr, e, h1, h2⟩
  · rw [h1, ho]
  · rw [e] at ho
    rw [h1, ho]
    have : cs' = cs := by
      apply Array.ext_getElem?
      intro p
      have := h.cell k p hkl (fun e => by have := hF k p e; omega)
      rw [cell_at h1, cell_at ho] at this
      simpa using this
    rw [this]
theorem Chg.alloc (w : World) (o : Obj) (F : Foot) : Chg w (w.alloc o) F := Chg.of_below (w := w) (w' := w.alloc o) ⟨rfl, rfl, rfl, by simp, fun k hk => heap_alloc_old _ _ _ hk⟩ F
/-- A store. -/
theorem Chg.setRow {w : World} {g : Nat} {cs cs' : Array Value} {ty : TypeId} {fr : Nat × Nat} (hg : w.heap[g]? = some (Obj.cells cs ty fr)) (hs : cs'.size = cs.size) {F : Foot} (hF : ∀ p, ¬ F g p → cs'[p]? = cs[p]?) : Chg w (w.setRow g cs') F := by
  refine ⟨rfl, rfl, rfl, by simp, fun k o ho => ?_, fun k p hk hn => ?_⟩
  · by_cases e : k = g
    · subst e
      rw [hg] at ho
      cases ho
      exact .inr ⟨cs, cs', ty, fr, rfl, setRow_heap _ _ _ _ _ _ hg, hs⟩
    · exact .inl (by rw [setRow_other _ _ _ _ e]; exact ho)
  · by_cases e : k = g
    · subst e
      rw [cell_at (setRow_heap _ _ _ cs' _ _ hg), cell_at hg]
      simpa using hF p hn
    · unfold World.cell?
      simp only
      rw [setRow_other _ _ _ _ e]

/-- .. of which blocks at and above B may have been frozen as well. -/
structure ChgB (B : Nat) (w w' : World) (F : Foot) : Prop where
  os : w'.os = w.os
  tape : w'.tape = w.tape
  output : w'.output = w.output
  size : w.heap.size ≤ w'.heap.size
  obj : ∀ (g : Nat) (o : Obj), g < B → w.heap[g]? = some o → w'.heap[g]? = some o ∨ ∃ (cs cs' : Array Value) (ty : TypeId) (fr : Nat × Nat), o = Obj.cells cs ty fr ∧ w'.heap[g]? = some (Obj.cells cs' ty fr) ∧ cs'.size = cs.size
  cell : ∀ g p, g < w.heap.size → ¬ F g p → w'.cell? (at_ g p) = w.cell? (at_ g p)
theorem Chg.B {w w' : World} {F : Foot} (h : Chg w w' F) (B : Nat) : ChgB B w w' F := ⟨h.os, h.tape, h.output, h.size, fun g o _ => h.obj g o, h.cell⟩
theorem ChgB.refl (B : Nat) (w : World) (F : Foot) : ChgB B w w F := (Chg.refl w F).B B
theorem ChgB.mono {B : Nat} {w w' : World} {F G : Foot} (h : ChgB B w w' F) (hs : ∀ g p, F g p → G g p) : ChgB B w w' G := ⟨h.os, h.tape, h.output, h.size, h.obj, fun g p hg hn => h.cell g p hg fun e => hn (hs g p e)⟩
theorem ChgB.trans {B : Nat} {a b c : World} {F : Foot} (h : ChgB B a b F) (k : ChgB B b c F) : ChgB B a c F := by
  refine ⟨k.os.trans h.os, k.tape.trans h.tape, k.output.trans h.output, Nat.le_trans h.size k.size, fun g o hg ho => ?_, fun g p hg hn => (k.cell g p (Nat.lt_of_lt_of_le hg h.size) hn).trans (h.cell g p hg hn)⟩
  rcases h.obj g o hg ho with h1 | ⟨cs, cs', ty, fr, rfl, h1, h2⟩
  · exact k.obj g o hg h1
  · rcases k.obj g _ hg h1 with k1 | ⟨ds, ds', ty', fr', e, k1, k2⟩
    · exact .inr ⟨cs, cs', ty, fr, rfl, k1, h2⟩
    · cases e
      exact .inr ⟨cs, ds', ty, fr, rfl, k1, k2.trans h2⟩
theorem ChgB.below {w w' : World} {F : Foot} {B : Nat} (h : ChgB B w w' F) (hF : ∀ g p, F g p → B ≤ g) (hB : B ≤ w.heap.size) : Below B w w' := by
  refine ⟨h.os, h.tape, h.output, h.size, fun k hk => ?_⟩
  have hkl : k < w.heap.size := by omega
  have ho : w.heap[k]? = some w.heap[k] := Array.getElem?_eq_getElem hkl
  rcases h.obj k _ hk ho with h1 | ⟨cs, cs', ty, fr, e, h1, h2⟩
  · rw [h1, ho]
  · rw [e] at ho
    rw [h1, ho]
    have : cs' = cs := by
      apply Array.ext_getElem?
      intro p
      have := h.cell k p hkl (fun e => by have := hF k p e; omega)
      rw [cell_at h1, cell_at ho] at this
      simpa using this
    rw [this]

structure Frm (C C' : Cx) : Prop where
  X : C'.X = C.X
  chg : ChgB C.B C.w C'.w (fun g p => C.Own g p)
  S : ∀ g p, C'.S g p → C.S g p ∨ C.Own g p

theorem Frm.refl (C : Cx) : Frm C C := ⟨rfl, .refl _ _ _, fun _ _ h => .inl h⟩
theorem Frm.trans {A B C : Cx} (h : Frm A B) (hle : A.le B) (k : Frm B C) : Frm A C := by
  have ho : ∀ g p, B.Own g p → A.Own g p := fun g p h => by unfold Cx.Own at *; rw [hle.B, hle.X] at h; exact h
  refine ⟨k.X.trans h.X, h.chg.trans (hle.B ▸ k.chg.mono ho), fun g p hs => ?_⟩
  rcases k.S g p hs with h1 | h1
  · exact h.S g p h1
  · exact .inr (ho g p h1)

section
variable {C : Cx}

theorem live_lt {b : Nat} (h : live C b) : b < C.H.length := by
  obtain ⟨x, hx, _⟩ := h
  exact (List.getElem?_eq_some_iff.1 hx).1
theorem live_of {b : Nat} {x : Blk} (h : C.H[b]? = some x) (hd : x ≠ .dead) : live C b := ⟨x, h, hd⟩
theorem live_arr {b : Nat} {t : Ty} {l : List t.den} {m : Md} {v : Nat} {h : Option (Nat × Nat)} (hb : C.H[b]? = some (.arr t l m v h)) : live C b := ⟨_, hb, by simp⟩

theorem Els.keep {C' : Cx} (h : C.le C') {b : Nat} (hfp : ∀ g p, C.fp b g p → C'.fp b g p) (hk : Kept C.w C'.w (C.fp b)) {t : Ty} {l : List t.den} {m : Md} {g off cap : Nat} (hroom : ∀ p, off ≤ p → p < off + cap * t.width → C.fp b g p) (hle : l.length ≤ cap) (he : Els C b t l m g off cap) : Els C' b t l m g off cap := by
  have hat : ∀ i x us, l[i]? = some x → us.length = t.width → AtW C.w g (off + i * t.width) us → AtW C'.w g (off + i * t.width) us := by
    intro i x us hx hl hu j u hj
    have hi := (List.getElem?_eq_some_iff.1 hx).1
    have hjl := (List.getElem?_eq_some_iff.1 hj).1
    obtain ⟨q1, q2⟩ := room_cell (off := off) hi hle (by omega : j < t.width)
    exact hk.cell _ _ _ (hroom _ q1 q2) (hu j u hj)
  cases m with
  | un =>
    obtain ⟨G, h1, h2⟩ := he
    refine ⟨G, ⟨fun i g' p hg => hfp _ _ (h1.sub i g' p hg), h1.out, h1.inj⟩, fun i x hx => ?_⟩
    obtain ⟨us, h3, h4⟩ := h2 i x hx
    exact ⟨us, hat i x us hx h4.length h3, RdU.keep _ _ _ _ _ (hk.sub (h1.sub i)) (fun _ _ h => h) h4⟩
  | fr =>
    intro i x hx
    obtain ⟨us, h3, h4⟩ := he i x hx
    exact ⟨us, hat i x us hx h4.length h3, Rd.mono (h.Sf _) (h.cell _) _ _ _ h4⟩
  | sh =>
    intro i x hx
    obtain ⟨us, h3, h4⟩ := he i x hx
    exact ⟨us, hat i x us hx h4.length h3, Rd.mono (h.Sf _) (h.cell _) _ _ _ h4⟩

theorem RdH.length {w : World} : ∀ {t : Ty} {x : t.den} {vs : List Value} {F : Foot} {o : Nat}, RdH w t x vs F o → vs.length = t.width := by
  intro t
  induction t with
  | sl t ih => intro x vs F o h; obtain ⟨_, v, rfl, _⟩ := h; rfl
  | pair a b iha ihb =>
    intro x vs F o h
    obtain ⟨Fa, Fb, _, _, _, h⟩ := h
    have hb := b.width_pos
    rcases h with ⟨_, h1, h2⟩ | ⟨_, h1, h2⟩
    · have h1 := iha h1
      have h2 := h2.length
      simp only [Ty.width, List.length_take, List.length_drop] at *
      omega
    · have h1 := h1.length
      have h2 := ihb h2
      simp only [Ty.width, List.length_take, List.length_drop] at *
      omega
  | _ => intro x vs F o h; exact h.elim
theorem RdH.keep {w w' : World} : ∀ (t : Ty) (x : t.den) (vs : List Value) (F F' : Foot) (o : Nat), Kept w w' F → (∀ g p, F g p → F' g p) → RdH w t x vs F o → RdH w' t x vs F' o := by
  intro t
  induction t with
  | sl t ih => intro x vs F F' o _ _ h; exact h
  | pair a b iha ihb =>
    intro x vs F F' o hk hF h
    obtain ⟨Fa, Fb, k1, k2, k3, h⟩ := h
    refine ⟨Fa, Fb, fun g p h => hF g p (k1 g p h), fun g p h => hF g p (k2 g p h), k3, ?_⟩
    rcases h with ⟨h0, h1, h2⟩ | ⟨h0, h1, h2⟩
    · exact .inl ⟨h0, iha _ _ _ _ _ (hk.sub k1) (fun _ _ h => h) h1, RdU.keep _ _ _ _ _ (hk.sub k2) (fun _ _ h => h) h2⟩
    · exact .inr ⟨h0, RdU.keep _ _ _ _ _ (hk.sub k1) (fun _ _ h => h) h1, ihb _ _ _ _ _ (hk.sub k2) (fun _ _ h => h) h2⟩
  | _ => intro x vs F F' o _ _ h; exact h.elim

theorem BlkR.keep {C' : Cx} (h : C.le C') {b : Nat} (hb : b < C.H.length) (hvn : C'.vn b = C.vn b) (hfp : ∀ g p, C.fp b g p → C'.fp b g p) (hk : Kept C.w C'.w (C.fp b)) {x : Blk} (hx : BlkR C b x) : BlkR C' b x := by
  obtain ⟨e1, e2⟩ := h.blk b hb
  cases x with
  | dead => trivial
  | cells ty l =>
    obtain ⟨h1, g, off, cs, ty', h2, h3, h4, h5⟩ := hx
    obtain ⟨cs', h6, h7⟩ := hk.obj g cs _ _ h3
    refine ⟨e1.trans h1, g, off, cs', ty', e2.trans h2, h6, by omega, fun j c hc => ?_⟩
    rcases h5 j c hc with h8 | ⟨h8, u, h9, h10⟩
    · exact .inl h8
    · exact .inr ⟨hfp _ _ h8, u, hk.cell _ _ _ h8 h9, h10.mono h⟩
  | arr t l m v hh =>
    obtain ⟨h0, h1, h2, h3⟩ := hx
    refine ⟨h0, e1.trans h1, fun e => hvn.trans (h2 e), ?_⟩
    cases hh with
    | none =>
      show RowR C' b t l m
      have h3 : RowR C b t l m := h3
      unfold RowR at *
      rw [e2]
      rcases h3 with h3 | ⟨g, off, cap, h3, h4⟩
      · exact .inl h3
      · exact .inr ⟨g, off, cap, h3.keep hk hfp, h4.keep h hfp hk h3.foot h3.len⟩
    | some q =>
      obtain ⟨q0, g, off, cap, G, q1, q2, q3⟩ := h3
      refine ⟨q0, g, off, cap, G, by rw [e2]; exact q1.keep hk hfp, ⟨fun i g' p hg => hfp _ _ (q2.sub i g' p hg), q2.out, q2.inj⟩, fun j x hx => ?_⟩
      obtain ⟨us, r1, r2, r3⟩ := q3 j x hx
      have hul : us.length = t.width := by
        by_cases e : j = q.1
        · exact (r3 e).length
        · exact RdU.length _ _ _ _ (r2 e)
      refine ⟨us, fun i u hi => hk.cell _ _ _ ?_ (r1 i u hi), fun e => RdU.keep _ _ _ _ _ (hk.sub (q2.sub j)) (fun _ _ h => h) (r2 e), fun e => RdH.keep _ _ _ _ _ _ (hk.sub (q2.sub j)) (fun _ _ h => h) (r3 e)⟩
      have hj := (List.getElem?_eq_some_iff.1 hx).1
      have hil := (List.getElem?_eq_some_iff.1 hi).1
      obtain ⟨z1, z2⟩ := room_cell (off := off) hj q1.len (by omega : i < t.width)
      exact q1.foot _ z1 z2
  | bld t u s =>
    obtain ⟨h1, g, p, v, h2, h3, h4, h5, h6, h7⟩ := hx
    have two : ∀ (cs' : Array Value), cs'.size = 2 → C'.w.heap[g]? = some (Obj.cells cs' t (0, 0)) → cs' = #[p, v] := by
      intro cs' hs hc
      apply Array.ext_getElem?
      intro q
      rcases Nat.lt_or_ge q 2 with hq | hq
      · have k1 : C.w.cell? (at_ g q) = (#[p, v] : Array Value)[q]? := by rw [cell_at h4]; simp
        have k2 : C'.w.cell? (at_ g q) = cs'[q]? := by rw [cell_at hc]; simp
        have hsome : ∃ x, (#[p, v] : Array Value)[q]? = some x := ⟨_, Array.getElem?_eq_getElem (by simpa using hq)⟩
        obtain ⟨x, hx⟩ := hsome
        rw [← k2, hk.cell g q x (h6 q) (k1.trans hx), hx]
      · rw [Array.getElem?_eq_none (by omega), Array.getElem?_eq_none (by simpa using hq)]
    obtain ⟨cs', a1, a2⟩ := hk.obj g _ _ _ h4
    have a3 := two cs' (by simpa using a2) a1
    subst a3
    refine ⟨e1.trans h1, g, p, v, by rw [h.B]; exact h2, e2.trans h3, a1, h5, fun q => hfp _ _ (h6 q), ?_⟩
    rcases h7 with h7 | ⟨g2, cap, cur, b1, b2, b3, b4, b5, b6, b7, b8, b9⟩
    · exact .inl h7
    · obtain ⟨cur', c1, c2⟩ := hk.obj g2 _ _ _ b4
      refine .inr ⟨g2, cap, cur', b1, by rw [h.B]; exact b2, b3, c1, b5, b6, c2.trans b7, fun i hi => ?_, fun q => hfp _ _ (b9 q)⟩
      have k1 : C.w.cell? (at_ g2 i) = some (.int .u8 ((s.data.toList[i]'hi).toNat : Int)) := by rw [cell_at b4]; simpa using b8 i hi
      have k2 := hk.cell g2 i _ (b9 i) k1
      rw [cell_at c1] at k2
      simpa using k2
  | mix t l n =>
    obtain ⟨h1, h3⟩ := hx
    refine ⟨e1.trans h1, ?_⟩
    rcases h3 with h3 | ⟨g, off, cap, G, q1, q2, q3⟩
    · exact .inl (by rw [e2]; exact h3)
    · refine .inr ⟨g, off, cap, G, by rw [e2]; exact q1.keep hk hfp, ⟨fun i g' p hg => hfp _ _ (q2.sub i g' p hg), q2.out, q2.inj⟩, fun j x hx => ?_⟩
      obtain ⟨us, r1, r2, r3⟩ := q3 j x hx
      have hul : us.length = t.width := by
        rcases Nat.lt_or_ge j n with e | e
        · exact RdU.length _ _ _ _ (r2 e)
        · exact Rd.length _ _ _ (r3 e)
      refine ⟨us, fun i u hi => hk.cell _ _ _ ?_ (r1 i u hi), fun e => RdU.keep _ _ _ _ _ (hk.sub (q2.sub j)) (fun _ _ h => h) (r2 e), fun e => Rd.mono (h.Sf _) (h.cell _) _ _ _ (r3 e)⟩
      have hj := (List.getElem?_eq_some_iff.1 hx).1
      have hil := (List.getElem?_eq_some_iff.1 hi).1
      obtain ⟨z1, z2⟩ := room_cell (off := off) hj q1.len (by omega : i < t.width)
      exact q1.foot _ z1 z2

/-- Where the slices of a row's elements stand is the row's own. -/
theorem HeapR.head (hH : HeapR C) {b v : Nat} (hv : C.vn b = some v) {t : Ty} {g off n cap i o : Nat} (h1 : C.sh b = some t) (h2 : C.ρ b = .slice (some (at_ g off)) n cap) (h3 : i < n) (h4 : slAt t o = true) : live C b ∧ C.fp b g (off + i * t.width + o) := by
  obtain ⟨t', l, h, hb⟩ := hH.vl b v hv
  obtain ⟨_, hsh, _⟩ := hH.blk b _ hb
  rw [h1] at hsh
  cases hsh
  refine ⟨live_arr hb, ?_⟩
  rcases row_nil hH hb with ⟨_, A, hA⟩ | ⟨g', off', cap', hr⟩
  · rw [h2] at hA; cases hA; omega
  · have hval := hr.val
    rw [h2] at hval
    obtain ⟨⟨rfl, rfl⟩, rfl, rfl⟩ : (g = g' ∧ off = off') ∧ n = l.length ∧ cap = cap' := by simpa using hval
    obtain ⟨q1, q2⟩ := room_cell (off := off) h3 hr.len (slAt_lt _ _ h4)
    exact hr.foot _ q1 q2
theorem HeapR.vnone (hH : HeapR C) {b : Nat} (h : ¬ live C b) : C.vn b = none := by
  cases hv : C.vn b with
  | none => rfl
  | some v => obtain ⟨t, l, q, hb⟩ := hH.vl b v hv; exact absurd (live_arr hb) h

theorem GlobAt.lt {w : World} {q : Nat × (List Value → Prop)} (h : GlobAt w q) : q.1 < w.heap.size := by
  obtain ⟨_, _, _, _, h⟩ := h
  exact (Array.getElem?_eq_some_iff.1 h).1
theorem GlobAt.keep {w w' : World} {F : Foot} {q : Nat × (List Value → Prop)} (h : GlobAt w q) (hc : Chg w w' F) (hF : ∀ p, ¬ F q.1 p) : GlobAt w' q := by
  obtain ⟨l, ty, fr, hl, h⟩ := h
  have hlt : q.1 < w.heap.size := (Array.getElem?_eq_some_iff.1 h).1
  rcases hc.obj q.1 _ h with h1 | ⟨cs, cs', ty', fr', h1, h2, h3⟩
  · exact ⟨l, ty, fr, hl, h1⟩
  · obtain ⟨rfl, rfl, rfl⟩ : l.toArray = cs ∧ ty = ty' ∧ fr = fr' := by simpa using h1
    refine ⟨l, ty, fr, hl, ?_⟩
    rw [h2]
    have e : cs' = l.toArray := by
      apply Array.ext_getElem?
      intro p
      have k := hc.cell q.1 p hlt (hF p)
      unfold World.cell? at k
      simp only [at_, h, h2] at k
      simpa using k
    rw [e]
/-- The step from one state of memory to the next: blocks of K stay as they are. -/
theorem HeapR.next (hH : HeapR C) {C' : Cx} {F : Foot} (K : Nat → Prop) (hB : C'.B = C.B) (hX : C'.X = C.X) (hchg : Chg C.w C'.w F)
    (hF : ∀ g p, F g p → ∃ b, live C b ∧ ¬ K b ∧ C.fp b g p)
    (hS : ∀ g p, C.S g p → C'.S g p) (hS' : ∀ g p, C'.S g p → C.S g p ∨ (∃ b, live C b ∧ ¬ K b ∧ C.fp b g p) ∨ C.w.heap.size ≤ g) (hst : ∀ g p, C'.S g p → g < C'.w.heap.size)
    (hlen : C.H.length ≤ C'.H.length) (hblk : ∀ b, b < C.H.length → C'.sh b = C.sh b ∧ C'.ρ b = C.ρ b)
    (hvn : ∀ b, b < C.H.length → ¬ K b → C'.vn b = none ∨ ∃ v v', C.vn b = some v ∧ C'.vn b = some v' ∧ v ≤ v' ∧ (v = v' → ∀ t g off n cap i o u, C.sh b = some t → C.ρ b = .slice (some (at_ g off)) n cap → i < n → slAt t o = true → C.w.cell? (at_ g (off + i * t.width + o)) = some u → C'.w.cell? (at_ g (off + i * t.width + o)) = some u))
    (hvl : ∀ b v, ¬ K b → C'.vn b = some v → ∃ t l h, C'.H[b]? = some (.arr t l .un v h))
    (hK : ∀ b, K b → live C b ∧ C'.H[b]? = C.H[b]? ∧ C'.vn b = C.vn b ∧ ∀ g p, C'.fp b g p ↔ C.fp b g p)
    (hnew : C.le C' → ∀ b x, C'.H[b]? = some x → x ≠ .dead → ¬ K b → BlkR C' b x)
    (hown : ∀ b g p, live C' b → ¬ K b → C'.fp b g p → ¬ C'.S g p ∧ g < C'.w.heap.size ∧ ((∃ b0, live C b0 ∧ ¬ K b0 ∧ C.fp b0 g p) ∨ C.w.heap.size ≤ g))
    (hinj : ∀ b b' g p, live C' b → live C' b' → ¬ K b → ¬ K b' → C'.fp b g p → C'.fp b' g p → b = b') : C.le C' ∧ HeapR C' ∧ Frm C C' := by
  have hOwn : ∀ g p, C'.Own g p ↔ C.Own g p := fun g p => by unfold Cx.Own; rw [hB, hX]
  have hKd : ∀ b, K b → ∀ g p, C.fp b g p → ¬ F g p ∧ ¬ C'.S g p := by
    intro b hb g p hf
    obtain ⟨h1, _⟩ := hK b hb
    refine ⟨fun hF' => ?_, fun hs => ?_⟩
    · obtain ⟨b', k1, k2, k3⟩ := hF g p hF'
      exact k2 (hH.inj b b' g p h1 k1 hf k3 ▸ hb)
    · rcases hS' g p hs with k | ⟨b', k1, k2, k3⟩ | k
      · exact (hH.own b g p h1 hf).1 k
      · exact k2 (hH.inj b b' g p h1 k1 hf k3 ▸ hb)
      · have := (hH.own b g p h1 hf).2.2; omega
  have hle : C.le C' := by
    refine ⟨hB, hX, hS, fun g p u hs hc => ?_, hlen, hblk, fun b hb => ?_⟩
    · rw [hchg.cell g p (cell_lt hc) fun hf => ?_]
      · exact hc
      · obtain ⟨b, h1, _, h2⟩ := hF g p hf
        exact (hH.own b g p h1 h2).1 hs
    · by_cases hk : K b
      · obtain ⟨h1, h2, h3, h4⟩ := hK b hk
        cases hv : C.vn b with
        | none => exact .inl (h3.trans hv)
        | some v =>
          refine .inr ⟨v, v, rfl, h3.trans hv, Nat.le_refl _, fun _ t g off n cap i o u q1 q2 q3 q4 q5 => ?_⟩
          obtain ⟨_, hf⟩ := hH.head hv q1 q2 q3 q4
          rw [hchg.cell g _ (cell_lt q5) (hKd b hk _ _ hf).1]
          exact q5
      · exact hvn b hb hk
  refine ⟨hle, ⟨by rw [hB]; exact Nat.le_trans hH.base hchg.size, hst, fun b x hx => ?_, fun b g p hl hf => ?_, fun b b' g p hl hl' hf hf' => ?_, fun b v hv => ?_, fun q hq => ?_⟩, ⟨hX, (hchg.mono fun g p hf => ?_).B _, fun g p hs => ?_⟩⟩
  · by_cases hd : x = .dead
    · subst hd; trivial
    by_cases hk : K b
    · obtain ⟨h1, h2, h3, h4⟩ := hK b hk
      rw [h2] at hx
      exact (hH.blk b x hx).keep hle (live_lt h1) h3 (fun g p h => (h4 g p).2 h) (hchg.kept fun g p h => (hKd b hk g p h).1)
    · exact hnew hle b x hx hd hk
  · by_cases hk : K b
    · obtain ⟨h1, h2, h3, h4⟩ := hK b hk
      rw [h4] at hf
      obtain ⟨k1, k2, k3⟩ := hH.own b g p h1 hf
      exact ⟨(hKd b hk g p hf).2, (hOwn g p).2 k2, Nat.lt_of_lt_of_le k3 hchg.size⟩
    · obtain ⟨h1, h2, h3⟩ := hown b g p hl hk hf
      refine ⟨h1, (hOwn g p).2 ?_, h2⟩
      rcases h3 with ⟨b0, k1, _, k2⟩ | h3
      · exact (hH.own b0 g p k1 k2).2.1
      · exact .inl (Nat.le_trans hH.base h3)
  · by_cases hk : K b <;> by_cases hk' : K b'
    · obtain ⟨h1, _, _, h4⟩ := hK b hk
      obtain ⟨h1', _, _, h4'⟩ := hK b' hk'
      exact hH.inj b b' g p h1 h1' ((h4 g p).1 hf) ((h4' g p).1 hf')
    · obtain ⟨h1, _, _, h4⟩ := hK b hk
      have hf0 := (h4 g p).1 hf
      rcases (hown b' g p hl' hk' hf').2.2 with ⟨b0, k1, k2, k3⟩ | h3
      · exact absurd (hH.inj b b0 g p h1 k1 hf0 k3 ▸ hk) k2
      · have := (hH.own b g p h1 hf0).2.2; omega
    · obtain ⟨h1, _, _, h4⟩ := hK b' hk'
      have hf0 := (h4 g p).1 hf'
      rcases (hown b g p hl hk hf).2.2 with ⟨b0, k1, k2, k3⟩ | h3
      · exact absurd (hH.inj b' b0 g p h1 k1 hf0 k3 ▸ hk') k2
      · have := (hH.own b' g p h1 hf0).2.2; omega
    · exact hinj b b' g p hl hl' hk hk' hf hf'
  · by_cases hk : K b
    · obtain ⟨h1, h2, h3, h4⟩ := hK b hk
      obtain ⟨t, l, q, hb⟩ := hH.vl b v (h3 ▸ hv)
      exact ⟨t, l, q, h2.trans hb⟩
    · exact hvl b v hk hv
  · obtain ⟨k1, k2⟩ := hH.gl q hq
    refine ⟨k1.keep hchg fun p hf => ?_, fun p h => k2 p ((hOwn q.1 p).1 h)⟩
    obtain ⟨b, h1, _, h2⟩ := hF q.1 p hf
    exact k2 p (hH.own b q.1 p h1 h2).2.1
  · obtain ⟨b, h1, _, h2⟩ := hF g p hf
    exact (hH.own b g p h1 h2).2.1
  · rcases hS' g p hs with k | ⟨b, k1, _, k2⟩ | k
    · exact .inl k
    · exact .inr (hH.own b g p k1 k2).2.1
    · exact .inr (.inl (Nat.le_trans hH.base k))

/-- One block (q) new or changed, those of D gone. -/
theorem HeapR.step (hH : HeapR C) {C' : Cx} {F : Foot} (q : Nat) (D : Nat → Prop) (hB : C'.B = C.B) (hX : C'.X = C.X) (hchg : Chg C.w C'.w F)
    (hF : ∀ g p, F g p → ∃ b, (D b ∨ b = q) ∧ live C b ∧ C.fp b g p)
    (hS : ∀ g p, C.S g p → C'.S g p) (hS' : ∀ g p, C'.S g p → C.S g p ∨ (∃ b, (D b ∨ b = q) ∧ live C b ∧ C.fp b g p) ∨ C.w.heap.size ≤ g) (hst : ∀ g p, C'.S g p → g < C'.w.heap.size)
    (hlen : C.H.length ≤ C'.H.length) (hblk : ∀ b, b < C.H.length → C'.sh b = C.sh b ∧ C'.ρ b = C.ρ b)
    (hvd : ∀ b, b ≠ q → ¬ live C' b → C'.vn b = none)
    (hvq : q < C.H.length → C'.vn q = none ∨ ∃ v v', C.vn q = some v ∧ C'.vn q = some v' ∧ v ≤ v' ∧ (v = v' → ∀ t g off n cap i o u, C.sh q = some t → C.ρ q = .slice (some (at_ g off)) n cap → i < n → slAt t o = true → C.w.cell? (at_ g (off + i * t.width + o)) = some u → C'.w.cell? (at_ g (off + i * t.width + o)) = some u))
    (hvl : ∀ v, C'.vn q = some v → ∃ t l h, C'.H[q]? = some (.arr t l .un v h))
    (hH' : ∀ i x, C'.H[i]? = some x → x ≠ .dead → i = q ∨ (C.H[i]? = some x ∧ ¬ D i ∧ i ≠ q ∧ C'.vn i = C.vn i ∧ ∀ g p, C'.fp i g p ↔ C.fp i g p))
    (hq : ∀ g p, live C' q → C'.fp q g p → ¬ C'.S g p ∧ g < C'.w.heap.size ∧ ((∃ b, (D b ∨ b = q) ∧ live C b ∧ C.fp b g p) ∨ C.w.heap.size ≤ g))
    (hnew : C.le C' → ∀ x, C'.H[q]? = some x → x ≠ .dead → BlkR C' q x) : C.le C' ∧ HeapR C' ∧ Frm C C' := by
  have hKn : ∀ b, (D b ∨ b = q) → ¬ (live C' b ∧ b ≠ q) := by
    rintro b (h | h) ⟨⟨x, h1, h2⟩, h3⟩
    · rcases hH' b x h1 h2 with h4 | ⟨_, h4, _⟩
      · exact h3 h4
      · exact h4 h
    · exact h3 h
  refine hH.next (F := F) (fun b => live C' b ∧ b ≠ q) hB hX hchg (fun g p hf => ?_) hS (fun g p hs => ?_) hst hlen hblk (fun b hb hk => ?_) (fun b v hk hv => ?_) (fun b hb => ?_) (fun hle b x hx hd hk => ?_) (fun b g p hl hk hf => ?_) (fun b b' g p hl hl' hk hk' _ _ => ?_)
  · obtain ⟨b, h1, h2, h3⟩ := hF g p hf
    exact ⟨b, h2, hKn b h1, h3⟩
  · rcases hS' g p hs with h | ⟨b, h1, h2, h3⟩ | h
    · exact .inl h
    · exact .inr (.inl ⟨b, h2, hKn b h1, h3⟩)
    · exact .inr (.inr h)
  · by_cases e : b = q
    · subst e; exact hvq hb
    · exact .inl (hvd b e fun hl => hk ⟨hl, e⟩)
  · by_cases e : b = q
    · subst e; exact hvl v hv
    · rw [hvd b e fun hl => hk ⟨hl, e⟩] at hv; cases hv
  · obtain ⟨⟨x, h1, h2⟩, h3⟩ := hb
    rcases hH' b x h1 h2 with h4 | ⟨h4, h5, h6, h7, h8⟩
    · exact absurd h4 h3
    · exact ⟨⟨x, h4, h2⟩, h1.trans h4.symm, h7, h8⟩
  · by_cases e : b = q
    · subst e
      exact hnew hle x hx hd
    · exact absurd ⟨⟨x, hx, hd⟩, e⟩ hk
  · by_cases e : b = q
    · subst e
      obtain ⟨h1, h2, h3⟩ := hq g p hl hf
      refine ⟨h1, h2, ?_⟩
      rcases h3 with ⟨b0, k1, k2, k3⟩ | h3
      · exact .inl ⟨b0, k2, hKn b0 k1, k3⟩
      · exact .inr h3
    · exact absurd ⟨hl, e⟩ hk
  · have e : b = q := Classical.byContradiction fun e => hk ⟨hl, e⟩
    have e' : b' = q := Classical.byContradiction fun e => hk' ⟨hl', e⟩
    rw [e, e']

/-- A new block (at the end), those of D gone. -/
theorem HeapR.grow (hH : HeapR C) {F : Foot} (D : Nat → Prop) {w' : World} {S' : Foot} {H1 : List Blk} {blk : Blk} {v' : Value} {Fn : Foot} {tn : Option Ty} {vnew : Option Nat} {vn' : Nat → Option Nat} (hchg : Chg C.w w' F)
    (hF : ∀ g p, F g p → ∃ b, D b ∧ live C b ∧ C.fp b g p)
    (hS : ∀ g p, C.S g p → S' g p) (hS' : ∀ g p, S' g p → C.S g p ∨ (∃ b, D b ∧ live C b ∧ C.fp b g p) ∨ C.w.heap.size ≤ g) (hst : ∀ g p, S' g p → g < w'.heap.size)
    (hlen : H1.length = C.H.length) (hH1 : ∀ i x, H1[i]? = some x → x ≠ .dead → C.H[i]? = some x ∧ ¬ D i ∧ vn' i = C.vn i) (hvd : ∀ b, (∀ x, H1[b]? = some x → x = .dead) → vn' b = none)
    (hvn : ∀ v, vnew = some v → ∃ t l h, blk = .arr t l .un v h)
    (hFn : ∀ g p, Fn g p → ¬ S' g p ∧ g < w'.heap.size ∧ ((∃ b, D b ∧ live C b ∧ C.fp b g p) ∨ C.w.heap.size ≤ g))
    {C' : Cx} (hC' : C' = { C with w := w', S := S', H := H1 ++ [blk], ρ := fun b => if b = C.H.length then v' else C.ρ b, fp := fun b => if b = C.H.length then Fn else C.fp b, sh := fun b => if b = C.H.length then tn else C.sh b, vn := fun b => if b = C.H.length then vnew else vn' b })
    (hblk : C.le C' → BlkR C' C.H.length blk) : C.le C' ∧ HeapR C' ∧ Frm C C' := by
  have hold : ∀ i, i < C.H.length → C'.H[i]? = H1[i]? := by
    subst hC'
    intro i h
    exact List.getElem?_append_left (by omega)
  have hnewb : C'.H[C.H.length]? = some blk := by
    subst hC'
    simp only
    rw [List.getElem?_append_right (by omega)]
    simp [hlen]
  have hbig : ∀ i, C.H.length < i → C'.H[i]? = none := by
    subst hC'
    intro i h
    exact List.getElem?_eq_none (by simp [hlen]; omega)
  refine hH.step (F := F) C.H.length D (by subst hC'; rfl) (by subst hC'; rfl) (by subst hC'; exact hchg) (fun g p hf => ?_) (by subst hC'; exact hS) (by
    subst hC'
    intro g p hs
    rcases hS' g p hs with h | ⟨b, h1, h2, h3⟩ | h
    · exact .inl h
    · exact .inr (.inl ⟨b, .inl h1, h2, h3⟩)
    · exact .inr (.inr h)) (by subst hC'; exact hst) (by subst hC'; simp [hlen]) (by subst hC'; intro b hb; simp [Nat.ne_of_lt hb]) (fun b hb hn => ?_) (fun h => absurd h (Nat.lt_irrefl _)) (fun v hv => ?_) (fun i x hx hd => ?_) (by
    subst hC'
    intro g p _ hf
    simp only [if_true] at hf
    obtain ⟨h1, h2, h3⟩ := hFn g p hf
    refine ⟨h1, h2, ?_⟩
    rcases h3 with ⟨b, k1, k2, k3⟩ | h3
    · exact .inl ⟨b, .inl k1, k2, k3⟩
    · exact .inr h3) (fun hle x hx hd => ?_)
  · obtain ⟨b, h1, h2, h3⟩ := hF g p hf
    exact ⟨b, .inl h1, h2, h3⟩
  · have : C'.vn b = vn' b := by subst hC'; simp [hb]
    rw [this]
    refine hvd b fun x hx => Classical.byContradiction fun hd => hn ⟨x, ?_, hd⟩
    rw [hold b (by have := (List.getElem?_eq_some_iff.1 hx).1; omega)]
    exact hx
  · have : C'.vn C.H.length = vnew := by subst hC'; simp
    rw [this] at hv
    obtain ⟨t, l, h, e⟩ := hvn v hv
    exact ⟨t, l, h, by rw [hnewb, e]⟩
  · rcases Nat.lt_trichotomy i C.H.length with h | h | h
    · rw [hold i h] at hx
      obtain ⟨h1, h2, h3⟩ := hH1 i x hx hd
      refine .inr ⟨h1, h2, by omega, ?_, ?_⟩
      · subst hC'; simp only [Nat.ne_of_lt h, if_false]; exact h3
      · subst hC'; simp [Nat.ne_of_lt h]
    · exact .inl h
    · rw [hbig i h] at hx; cases hx
  · rw [hnewb] at hx
    cases hx
    exact hblk hle

/-- Nothing gone. -/
theorem HeapR.grow0 (hH : HeapR C) {w' : World} {blk : Blk} {v' : Value} {Fn : Foot} {tn : Option Ty} {vnew : Option Nat} (hbel : Below C.w.heap.size C.w w')
    (hvn : ∀ v, vnew = some v → ∃ t l h, blk = .arr t l .un v h)
    (hFn : ∀ g p, Fn g p → C.w.heap.size ≤ g ∧ g < w'.heap.size)
    {C' : Cx} (hC' : C' = { C with w := w', H := C.H ++ [blk], ρ := fun b => if b = C.H.length then v' else C.ρ b, fp := fun b => if b = C.H.length then Fn else C.fp b, sh := fun b => if b = C.H.length then tn else C.sh b, vn := fun b => if b = C.H.length then vnew else C.vn b })
    (hblk : C.le C' → BlkR C' C.H.length blk) : C.le C' ∧ HeapR C' ∧ Frm C C' :=
  hH.grow (F := fun _ _ => False) (fun _ => False) (.of_below hbel _) (fun _ _ h => h.elim) (fun _ _ h => h) (fun _ _ h => .inl h) (fun g p h => Nat.lt_of_lt_of_le (hH.st g p h) hbel.size) rfl (fun i x hx _ => ⟨hx, fun h => h, rfl⟩)
    (fun b hb => hH.vnone fun ⟨x, hx, hd⟩ => hd (hb x hx)) hvn
    (fun g p h => ⟨fun hs => by have := hH.st g p hs; have := (hFn g p h).1; omega, (hFn g p h).2, .inr (hFn g p h).1⟩) hC' hblk

theorem HeapR.newCells (hH : HeapR C) {ty : Nat} {l : List Cell} {cs : Array Value} (hl : LR C l cs.toList) {C' : Cx}
    (hC' : C' = { C with w := C.w.alloc (.cells cs ty), H := C.H ++ [.cells ty l], ρ := fun b => if b = C.H.length then .pointer (some (at_ C.w.heap.size 0)) else C.ρ b, fp := fun b => if b = C.H.length then (fun g _ => g = C.w.heap.size) else C.fp b, sh := fun b => if b = C.H.length then none else C.sh b, vn := fun b => if b = C.H.length then none else C.vn b }) :
    C.le C' ∧ HeapR C' ∧ Frm C C' ∧ AVR C' (.c (.ptr C.H.length 0)) (.pointer (some (at_ C.w.heap.size 0))) := by
  have hsz := hl.length
  have hnew := heap_alloc_new C.w (.cells cs ty)
  have h := hH.grow0 (w' := C.w.alloc (.cells cs ty)) ⟨rfl, rfl, rfl, by simp, fun k hk => heap_alloc_old _ _ _ hk⟩ (fun v h => by cases h) (fun g p h => ⟨by omega, by rw [h]; simp⟩) hC' (fun hle => by
    refine ⟨by subst hC'; simp, C.w.heap.size, 0, cs, ty, by subst hC'; simp, by subst hC'; exact hnew, by simp at hsz; omega, fun j c hc => .inr ⟨by subst hC'; simp, ?_⟩⟩
    obtain ⟨u, h1, h2⟩ := (hl.mono hle).get hc
    refine ⟨u, ?_, h2⟩
    subst hC'
    rw [cell_at hnew]
    simpa using h1)
  refine ⟨h.1, h.2.1, h.2.2, rfl, by subst hC'; simp, C.w.heap.size, 0, by subst hC'; simp, by simp⟩

/-- A new strings.Builder. -/
theorem HeapR.newBld (hH : HeapR C) (t u : Nat) {C' : Cx}
    (hC' : C' = { C with w := C.w.alloc (.cells #[.pointer none, .slice none 0 0] t), H := C.H ++ [.bld t u ByteArray.empty], ρ := fun b => if b = C.H.length then .pointer (some (at_ C.w.heap.size 0)) else C.ρ b, fp := fun b => if b = C.H.length then (fun g _ => g = C.w.heap.size) else C.fp b, sh := fun b => if b = C.H.length then none else C.sh b, vn := fun b => if b = C.H.length then none else C.vn b }) :
    C.le C' ∧ HeapR C' ∧ Frm C C' ∧ AVR C' (.c (.ptr C.H.length 0)) (.pointer (some (at_ C.w.heap.size 0))) := by
  have hnew := heap_alloc_new C.w (.cells #[.pointer none, .slice none 0 0] t)
  have h := hH.grow0 (w' := C.w.alloc (.cells #[.pointer none, .slice none 0 0] t)) ⟨rfl, rfl, rfl, by simp, fun k hk => heap_alloc_old _ _ _ hk⟩ (fun v h => by cases h) (fun g p h => ⟨by omega, by rw [h]; simp⟩) hC' (fun hle => by
    refine ⟨by subst hC'; simp, C.w.heap.size, _, _, by subst hC'; exact hH.base, by subst hC'; simp, by subst hC'; exact hnew, .inl rfl, fun q => by subst hC'; simp, .inl ⟨rfl, rfl⟩⟩)
  refine ⟨h.1, h.2.1, h.2.2, rfl, by subst hC'; simp, C.w.heap.size, 0, by subst hC'; simp, by simp⟩

/-- A row that nobody will write any more. -/
theorem HeapR.freeze (hH : HeapR C) {b : Nat} {t : Ty} {l : List t.den} {m : Md} {ver : Nat} (hb : C.H[b]? = some (.arr t l m ver none)) {C' : Cx}
    (hC' : C' = { C with S := fun g p => C.S g p ∨ C.fp b g p, H := C.H.set b .dead, vn := fun i => if i = b then none else C.vn i }) : C.le C' ∧ HeapR C' ∧ Frm C C' ∧ CellR C' (.sl (!m.isSh) t l) (C.ρ b) := by
  have hlive := live_arr hb
  have hlt := live_lt hlive
  have h := hH.step (C' := C') (F := fun _ _ => False) C.H.length (fun i => i = b) (by subst hC'; rfl) (by subst hC'; rfl) (by subst hC'; exact .refl _ _) (fun _ _ h => h.elim) (by subst hC'; exact fun _ _ h => .inl h) (by
      subst hC'
      rintro g p (h | h)
      · exact .inl h
      · exact .inr (.inl ⟨b, .inl rfl, hlive, h⟩)) (by
      subst hC'
      rintro g p (h | h)
      · exact hH.st g p h
      · exact (hH.own b g p hlive h).2.2) (by subst hC'; simp) (by subst hC'; intro i hi; exact ⟨rfl, rfl⟩) (by
      subst hC'
      intro i _ hn
      by_cases e : i = b
      · simp [e]
      · simp only [e, if_false]
        refine hH.vnone fun ⟨x, hx, hd⟩ => hn ⟨x, ?_, hd⟩
        simp only [List.getElem?_set_ne (fun e' : b = i => e e'.symm)]
        exact hx) (fun h => absurd h (Nat.lt_irrefl _)) (by
      subst hC'
      intro v hv
      have e : C.H.length ≠ b := by omega
      simp only [e, if_false] at hv
      obtain ⟨_, _, _, hbad⟩ := hH.vl _ v hv
      simp at hbad) (by
      subst hC'
      intro i x hx hd
      refine .inr ?_
      by_cases e : b = i
      · subst e
        rw [List.getElem?_set_self hlt] at hx
        cases hx
        exact absurd rfl hd
      · simp only [List.getElem?_set_ne e] at hx
        exact ⟨hx, fun e' => e e'.symm, by have := (List.getElem?_eq_some_iff.1 hx).1; omega, by simp only; rw [if_neg fun e' : i = b => e e'.symm], fun _ _ => Iff.rfl⟩) (by
      subst hC'
      rintro g p ⟨x, hx, _⟩ _
      simp at hx) (by
      subst hC'
      intro _ x hx _
      simp at hx)
  refine ⟨h.1, h.2.1, h.2.2, ?_⟩
  have hr := own_rd hH hb (S := C'.Sf (!m.isSh)) (fun g p hf => ⟨by subst hC'; exact .inr hf, fun _ => by subst hC'; exact (hH.own b g p hlive hf).2.1⟩) (fun g p hs => ⟨by subst hC'; exact .inl hs.1, fun e => by subst hC'; exact hs.2 e⟩)
  have hw : C'.w = C.w := by subst hC'; rfl
  show Rd C'.w (C'.Sf (!m.isSh)) (.sl t) l [C.ρ b]
  rw [hw]
  exact hr

/-- A row whose memory goes over to another. -/
theorem HeapR.kill (hH : HeapR C) {b : Nat} (hlive : live C b) {C' : Cx} (hC' : C' = { C with H := C.H.set b .dead, vn := fun i => if i = b then none else C.vn i }) : C.le C' ∧ HeapR C' ∧ Frm C C' ∧ ∀ i, live C' i → i ≠ b ∧ live C i := by
  have hlt := live_lt hlive
  have hx' : ∀ i x, C'.H[i]? = some x → x ≠ .dead → C.H[i]? = some x ∧ i ≠ b := by
    subst hC'
    intro i x hx hd
    by_cases e : b = i
    · subst e
      rw [List.getElem?_set_self hlt] at hx
      cases hx
      exact absurd rfl hd
    · simp only [List.getElem?_set_ne e] at hx
      exact ⟨hx, fun e' => e e'.symm⟩
  have h := hH.step (C' := C') (F := fun _ _ => False) C.H.length (fun i => i = b) (by subst hC'; rfl) (by subst hC'; rfl) (by subst hC'; exact .refl _ _) (fun _ _ h => h.elim) (by subst hC'; exact fun _ _ h => h) (by
      subst hC'
      exact fun g p h => .inl h) (by
      subst hC'
      exact hH.st) (by subst hC'; simp) (by subst hC'; intro i hi; exact ⟨rfl, rfl⟩) (by
      subst hC'
      intro i _ hn
      by_cases e : i = b
      · simp [e]
      · simp only [e, if_false]
        refine hH.vnone fun ⟨x, hx, hd⟩ => hn ⟨x, ?_, hd⟩
        simp only [List.getElem?_set_ne (fun e' : b = i => e e'.symm)]
        exact hx) (fun h => absurd h (Nat.lt_irrefl _)) (by
      subst hC'
      intro v hv
      have e : C.H.length ≠ b := by omega
      simp only [e, if_false] at hv
      obtain ⟨_, _, _, hbad⟩ := hH.vl _ v hv
      simp at hbad) (by
      intro i x hx hd
      obtain ⟨h1, h2⟩ := hx' i x hx hd
      refine .inr ⟨h1, h2, by have := (List.getElem?_eq_some_iff.1 h1).1; omega, by subst hC'; simp [h2], by subst hC'; exact fun _ _ => Iff.rfl⟩) (by
      subst hC'
      rintro g p ⟨x, hx, _⟩ _
      simp at hx) (by
      subst hC'
      intro _ x hx _
      simp at hx)
  exact ⟨h.1, h.2.1, h.2.2, fun i ⟨x, hx, hd⟩ => ⟨(hx' i x hx hd).2, x, (hx' i x hx hd).1, hd⟩⟩

theorem frz_r : ∀ {l : List Cell} {vs : List Value} {C : Cx}, HeapR C → LR C l vs → ∃ C', C'.H = (frz C.H l).2 ∧ C.le C' ∧ HeapR C' ∧ Frm C C' ∧ C'.w = C.w ∧ LR C' (frz C.H l).1 vs ∧ ∀ b x, C'.H[b]? = some x → x ≠ .dead → C.H[b]? = some x ∧ C'.vn b = C.vn b ∧ C'.fp b = C.fp b
  | [], [], C, hH, _ => ⟨C, rfl, .refl C, hH, .refl C, rfl, trivial, fun b x h _ => ⟨h, rfl, rfl⟩⟩
  | c :: l, v :: vs, C, hH, hl => by
    have plain : ∀ c', CellR C c' v → ∃ C', C'.H = (frz C.H l).2 ∧ C.le C' ∧ HeapR C' ∧ Frm C C' ∧ C'.w = C.w ∧ LR C' (c' :: (frz C.H l).1) (v :: vs) ∧ ∀ b x, C'.H[b]? = some x → x ≠ .dead → C.H[b]? = some x ∧ C'.vn b = C.vn b ∧ C'.fp b = C.fp b := by
      intro c' hc
      obtain ⟨C', h1, h2, h3, h4, h5, h6, h7⟩ := frz_r hH hl.2
      exact ⟨C', h1, h2, h3, h4, h5, ⟨hc.mono h2, h6⟩, h7⟩
    cases c with
    | own b =>
      simp only [frz]
      split
      · rename_i t l' m ver hb
        obtain ⟨k1, k2, k3, k4⟩ := hH.freeze hb rfl
        obtain ⟨C', h1, h2, h3, h4, h5, h6, h7⟩ := frz_r k2 (hl.2.mono k1)
        refine ⟨C', h1, k1.trans h2, h3, k3.trans k1 h4, h5, ⟨?_, h6⟩, fun i x hx hd => ?_⟩
        · rw [hl.1.2.2]
          exact k4.mono h2
        · obtain ⟨q1, q2, q3⟩ := h7 i x hx hd
          simp only at q1 q2 q3
          by_cases e : b = i
          · subst e
            rw [List.getElem?_set_self (List.getElem?_eq_some_iff.1 hb).1] at q1
            cases q1
            exact absurd rfl hd
          · rw [List.getElem?_set_ne e] at q1
            refine ⟨q1, ?_, q3⟩
            rw [q2, if_neg fun e' : i = b => e e'.symm]
      · exact plain .undef trivial
    | _ => simp only [frz]; exact plain _ hl.1
  | [], _ :: _, _, _, h => h.elim
  | _ :: _, [], _, _, h => h.elim
end

/-! ### Cells that hold what they lead to alone -/

section
variable {w : World}
theorem CU.keep {w' : World} {c : Cell} {v : Value} {F F' : Foot} (hk : Kept w w' F) (hF : ∀ g p, F g p → F' g p) (h : CU w c v F) : CU w' c v F' := by
  cases c <;> first | exact h | exact RdU.keep _ _ _ _ _ hk hF h
theorem LU.keep {w' : World} : ∀ {l : List Cell} {vs : List Value} {F F' : Foot}, Kept w w' F → (∀ g p, F g p → F' g p) → LU w l vs F → LU w' l vs F'
  | [], [], _, _, _, _, _ => trivial
  | _ :: _, _ :: _, F, F', hk, hF, h => by
    obtain ⟨Fa, Fb, h1, h2, h3, h4, h5⟩ := h
    exact ⟨Fa, Fb, fun g p h => hF g p (h1 g p h), fun g p h => hF g p (h2 g p h), h3, h4.keep (hk.sub h1) (fun _ _ h => h), LU.keep (hk.sub h2) (fun _ _ h => h) h5⟩
  | [], _ :: _, _, _, _, _, h => h.elim
  | _ :: _, [], _, _, _, _, h => h.elim
theorem LU.sub {l : List Cell} {vs : List Value} {F F' : Foot} (h : LU w l vs F) (hF : ∀ g p, F g p → F' g p) : LU w l vs F' := LU.keep (.refl w F) hF h
theorem LU.length : ∀ {l : List Cell} {vs : List Value} {F : Foot}, LU w l vs F → vs.length = l.length
  | [], [], _, _ => rfl
  | _ :: _, _ :: _, _, h => by obtain ⟨_, _, _, _, _, _, h5⟩ := h; simp [LU.length h5]
  | [], _ :: _, _, h => h.elim
  | _ :: _, [], _, h => h.elim
theorem LU.append : ∀ {l : List Cell} {vs : List Value} {l' : List Cell} {vs' : List Value} {Fa Fb F : Foot}, LU w l vs Fa → LU w l' vs' Fb → (∀ g p, Fa g p → F g p) → (∀ g p, Fb g p → F g p) → (∀ g p, Fa g p → Fb g p → False) → LU w (l ++ l') (vs ++ vs') F
  | [], [], _, _, Fa, Fb, F, _, h, _, hb, _ => h.sub hb
  | c :: l, v :: vs, _, _, Fa, Fb, F, h, h', ha, hb, hd => by
    obtain ⟨F1, F2, h1, h2, h3, h4, h5⟩ := h
    refine ⟨F1, fun g p => F2 g p ∨ Fb g p, fun g p h => ha g p (h1 g p h), fun g p h => h.elim (fun h => ha g p (h2 g p h)) (hb g p), fun g p q q' => q'.elim (h3 g p q) (hd g p (h1 g p q)), h4, LU.append h5 h' (fun g p h => .inl h) (fun g p h => .inr h) fun g p q => hd g p (h2 g p q)⟩
  | [], _ :: _, _, _, _, _, _, h, _, _, _, _ => h.elim
  | _ :: _, [], _, _, _, _, _, h, _, _, _, _ => h.elim
theorem LU.split : ∀ {l : List Cell} {vs : List Value} {F : Foot} (n : Nat), LU w l vs F → ∃ Fa Fb : Foot, (∀ g p, Fa g p → F g p) ∧ (∀ g p, Fb g p → F g p) ∧ (∀ g p, Fa g p → Fb g p → False) ∧ LU w (l.take n) (vs.take n) Fa ∧ LU w (l.drop n) (vs.drop n) Fb
  | l, vs, F, 0, h => ⟨fun _ _ => False, F, fun _ _ h => h.elim, fun _ _ h => h, fun _ _ h => h.elim, by simp [LU], by simpa using h⟩
  | [], [], F, n + 1, _ => ⟨fun _ _ => False, F, fun _ _ h => h.elim, fun _ _ h => h, fun _ _ h => h.elim, trivial, trivial⟩
  | c :: l, v :: vs, F, n + 1, h => by
    obtain ⟨F1, F2, h1, h2, h3, h4, h5⟩ := h
    obtain ⟨Fa, Fb, k1, k2, k3, k4, k5⟩ := LU.split n h5
    refine ⟨fun g p => F1 g p ∨ Fa g p, Fb, fun g p h => h.elim (h1 g p) (fun h => h2 g p (k1 g p h)), fun g p h => h2 g p (k2 g p h), fun g p q q' => q.elim (fun q => h3 g p q (k2 g p q')) (fun q => k3 g p q q'), ?_, by simpa using k5⟩
    rw [List.take_succ_cons, List.take_succ_cons]
    exact ⟨F1, Fa, fun g p h => .inl h, fun g p h => .inr h, fun g p q q' => h3 g p q (k1 g p q'), h4, k4⟩
  | [], _ :: _, _, _ + 1, h => h.elim
  | _ :: _, [], _, _ + 1, h => h.elim
theorem encU : ∀ (t : Ty) (x : t.den) (vs : List Value) (F : Foot), RdU w t x vs F → LU w (enc true t x) vs F := by
  intro t
  have z : ∀ F : Foot, ∃ Fa Fb : Foot, (∀ g p, Fa g p → F g p) ∧ (∀ g p, Fb g p → F g p) ∧ (∀ g p, Fa g p → Fb g p → False) := fun F => ⟨F, fun _ _ => False, fun _ _ h => h, fun _ _ h => h.elim, fun _ _ _ h => h⟩
  induction t with
  | int k => intro x vs F h; obtain rfl : vs = _ := h; exact ⟨F, fun _ _ => False, fun _ _ h => h, fun _ _ h => h.elim, fun _ _ _ h => h, rfl, trivial⟩
  | bool => intro x vs F h; obtain rfl : vs = _ := h; exact ⟨F, fun _ _ => False, fun _ _ h => h, fun _ _ h => h.elim, fun _ _ _ h => h, rfl, trivial⟩
  | str => intro x vs F h; obtain rfl : vs = _ := h; exact ⟨F, fun _ _ => False, fun _ _ h => h, fun _ _ h => h.elim, fun _ _ _ h => h, rfl, trivial⟩
  | sl t ih =>
    intro x vs F h
    have h' := h
    obtain ⟨v, rfl, _⟩ := h
    exact ⟨F, fun _ _ => False, fun _ _ h => h, fun _ _ h => h.elim, fun _ _ _ h => h, h', trivial⟩
  | pair a b iha ihb =>
    intro x vs F h
    obtain ⟨Fa, Fb, h1, h2, h3, h4, h5⟩ := h
    rw [← List.take_append_drop a.width vs]
    exact (iha _ _ _ h4).append (ihb _ _ _ h5) h1 h2 h3
theorem decU : ∀ (t : Ty) (cs : List Cell) (x : t.den) (vs : List Value) (F : Foot), LU w cs vs F → dec t cs = some x → RdU w t x vs F := by
  intro t
  have one : ∀ {c : Cell} {vs : List Value} {F : Foot}, LU w [c] vs F → ∃ v Fa, vs = [v] ∧ (∀ g p, Fa g p → F g p) ∧ CU w c v Fa := by
    intro c vs F h
    match vs, h with
    | [v], h => obtain ⟨Fa, Fb, h1, _, _, h4, _⟩ := h; exact ⟨v, Fa, rfl, h1, h4⟩
    | v :: _ :: _, h => obtain ⟨_, _, _, _, _, _, h5⟩ := h; exact h5.elim
  induction t with
  | int k =>
    intro cs x vs F hl h
    simp only [dec] at h
    split at h
    case h_2 => cases h
    rename_i k' n
    split at h
    case isFalse => cases h
    rename_i e
    cases h
    subst e
    obtain ⟨v, Fa, rfl, _, hc⟩ := one hl
    have hc : v = _ := hc
    subst hc
    rfl
  | bool =>
    intro cs x vs F hl h
    simp only [dec] at h
    split at h
    case h_2 => cases h
    rename_i c
    obtain ⟨v, Fa, rfl, _, hc⟩ := one hl
    cases c <;> simp only [Cell.toB, Option.some.injEq] at h <;> first | (cases h; done) | (subst h; obtain rfl : v = _ := hc; rfl)
  | str =>
    intro cs x vs F hl h
    simp only [dec] at h
    split at h
    case h_2 => cases h
    rename_i s
    cases h
    obtain ⟨v, Fa, rfl, _, hc⟩ := one hl
    have hc : v = _ := hc
    subst hc
    rfl
  | sl t ih =>
    intro cs x vs F hl h
    simp only [dec] at h
    split at h
    · rename_i fl t' l
      split at h
      case isFalse => cases h
      rename_i e
      cases h
      subst e
      obtain ⟨v, Fa, rfl, hF, hc⟩ := one hl
      exact RdU.sub (t := .sl t') hc hF
    · cases h
      obtain ⟨v, Fa, rfl, hF, hc⟩ := one hl
      exact ⟨v, rfl, .inl ⟨rfl, none, hc⟩⟩
    · cases h
  | pair a b iha ihb =>
    intro cs x vs F hl h
    simp only [dec] at h
    split at h
    · cases h
    rename_i xa ha
    split at h
    · cases h
    rename_i xb hb
    cases h
    obtain ⟨Fa, Fb, h1, h2, h3, h4, h5⟩ := hl.split a.width
    exact ⟨Fa, Fb, h1, h2, h3, iha _ _ _ _ h4 ha, ihb _ _ _ _ h5 hb⟩
end

theorem scalC_U {C : Cx} {w : World} {c : Cell} {v : Value} (hs : scalC c = true) (h : CellR C c v) (F : Foot) : CU w c v F := by
  cases c <;> first | (cases hs; done) | exact h

theorem andB {a b : Bool} (h : cond a b false = true) : a = true ∧ b = true := by cases a <;> simp_all

/-- Own rows go over into data that hold them. -/
theorem mov_r (x : Nat) : ∀ {l : List Cell} {vs : List Value} {C : Cx}, HeapR C → LR C l vs → movL C.H x l = true → ∃ C' F, C'.H = (frz C.H l).2 ∧ C.le C' ∧ HeapR C' ∧ Frm C C' ∧ C'.w = C.w ∧ C'.S = C.S ∧ LU C.w (frz C.H l).1 vs F ∧ (∀ g p, F g p → ¬ C.S g p ∧ C.Own g p ∧ g < C.w.heap.size) ∧
    (∀ b g p, live C' b → F g p → C'.fp b g p → False) ∧ (∀ g p, F g p → ∃ b, live C b ∧ ¬ live C' b ∧ b ≠ x ∧ C.fp b g p) ∧ (∀ b y, C'.H[b]? = some y → y ≠ .dead → C.H[b]? = some y ∧ C'.vn b = C.vn b ∧ C'.fp b = C.fp b) ∧ C'.H[x]? = C.H[x]? ∧ C'.sh = C.sh ∧ C'.ρ = C.ρ ∧ C'.fp = C.fp ∧ (∀ b, C'.vn b = C.vn b ∨ (C'.vn b = none ∧ live C b ∧ ¬ live C' b))
  | [], [], C, hH, _, _ => ⟨C, fun _ _ => False, rfl, .refl C, hH, .refl C, rfl, rfl, trivial, fun _ _ h => h.elim, fun _ _ _ _ h => h.elim, fun _ _ h => h.elim, fun b y h _ => ⟨h, rfl, rfl⟩, rfl, rfl, rfl, rfl, fun _ => .inl rfl⟩
  | c :: l, v :: vs, C, hH, hl, hm => by
    have plain : ∀ {c' : Cell}, CU C.w c' v (fun _ _ => False) → movL C.H x l = true → ∃ C' F, C'.H = (frz C.H l).2 ∧ C.le C' ∧ HeapR C' ∧ Frm C C' ∧ C'.w = C.w ∧ C'.S = C.S ∧ LU C.w (c' :: (frz C.H l).1) (v :: vs) F ∧ (∀ g p, F g p → ¬ C.S g p ∧ C.Own g p ∧ g < C.w.heap.size) ∧
        (∀ b g p, live C' b → F g p → C'.fp b g p → False) ∧ (∀ g p, F g p → ∃ b, live C b ∧ ¬ live C' b ∧ b ≠ x ∧ C.fp b g p) ∧ (∀ b y, C'.H[b]? = some y → y ≠ .dead → C.H[b]? = some y ∧ C'.vn b = C.vn b ∧ C'.fp b = C.fp b) ∧ C'.H[x]? = C.H[x]? ∧ C'.sh = C.sh ∧ C'.ρ = C.ρ ∧ C'.fp = C.fp ∧ (∀ b, C'.vn b = C.vn b ∨ (C'.vn b = none ∧ live C b ∧ ¬ live C' b)) := by
      intro c' hc hm
      obtain ⟨C', F, h1, h2, h3, h4, h5, h6, h7, h8, h9⟩ := mov_r x hH hl.2 hm
      exact ⟨C', F, h1, h2, h3, h4, h5, h6, ⟨fun _ _ => False, F, fun _ _ h => h.elim, fun _ _ h => h, fun _ _ h => h.elim, hc, h7⟩, h8, h9⟩
    have hs : ∀ {c : Cell}, movC C.H x c = true → (∀ b, c ≠ .own b) → c ≠ .nil → scalC c = true := by
      intro c h1 h2 h3
      cases c <;> first | exact h1 | (exact absurd rfl (h2 _)) | (exact absurd rfl h3)
    cases c with
    | own b =>
      simp only [movL] at hm
      cases hq : movC C.H x (.own b)
      · rw [hq] at hm; cases hm
      rw [hq] at hm
      simp only [cond_true] at hm
      simp only [movC] at hq
      cases hbx : Nat.beq b x
      case true => rw [hbx] at hq; cases hq
      rw [hbx] at hq
      simp only [cond_false] at hq
      have hne : b ≠ x := fun e => by rw [e, Nat.beq_refl] at hbx; cases hbx
      simp only [frz]
      split at hq
      case h_2 => cases hq
      rename_i t l' m ver hb
      have hm' : m = .un := by cases m <;> first | rfl | cases hq
      subst hm'
      have hlive := live_arr hb
      obtain ⟨k1, k2, k3, k4⟩ := hH.kill hlive rfl
      obtain ⟨C', F, h1, h2, h3, h4, h5, h6, h7, h8, h9, h10, h11, h12, h13, h14, h15, h16⟩ := mov_r x k2 (hl.2.mono k1) hm
      obtain ⟨_, hsh, hvn, hrow⟩ := hH.blk b _ hb
      have hU : RdU C.w (.sl t) l' [C.ρ b] (C.fp b) := ⟨_, rfl, by
        rcases hrow with h | ⟨g, off, cap, hr, G, hn, hx⟩
        · exact .inl h
        · exact .inr ⟨g, off, cap, G, hr, hn, hx⟩⟩
      have hdead : ∀ i, live C' i → i ≠ b := by
        rintro i ⟨y, hy, hd⟩ e
        subst e
        obtain ⟨q, _⟩ := h11 i y hy hd
        simp only at q
        rw [List.getElem?_set_self (live_lt hlive)] at q
        cases q
        exact hd rfl
      refine ⟨C', fun g p => C.fp b g p ∨ F g p, h1, k1.trans h2, h3, k3.trans k1 h4, h5, h6, ?_, fun g p hf => ?_, fun i g p hi hf hfp => ?_, fun g p hf => ?_, fun i y hy hd => ?_, ?_, h13, h14, h15, fun i => ?_⟩
      · refine ⟨C.fp b, F, fun _ _ h => .inl h, fun _ _ h => .inr h, fun g p q q' => ?_, ?_, h7⟩
        · obtain ⟨b', q1, _, _, q2⟩ := h10 g p q'
          obtain ⟨q3, q4⟩ := k4 b' q1
          exact q3 (hH.inj b' b g p q4 hlive q2 q)
        · rw [hl.1.2.2]; exact hU
      · rcases hf with hf | hf
        · exact hH.own b g p hlive hf
        · exact h8 g p hf
      · rcases hf with hf | hf
        · have hi0 : live C i := by
            obtain ⟨y, hy, hd⟩ := hi
            obtain ⟨q, _⟩ := h11 i y hy hd
            simp only at q
            rw [List.getElem?_set_ne (fun e => hdead i ⟨y, hy, hd⟩ e.symm)] at q
            exact ⟨y, q, hd⟩
          rw [h15] at hfp
          exact hdead i hi (hH.inj i b g p hi0 hlive hfp hf)
        · exact h9 i g p hi hf hfp
      · rcases hf with hf | hf
        · exact ⟨b, hlive, fun h => hdead b h rfl, hne, hf⟩
        · obtain ⟨b', q1, q2, q3, q4⟩ := h10 g p hf
          exact ⟨b', (k4 b' q1).2, q2, q3, q4⟩
      · obtain ⟨q1, q2, q3⟩ := h11 i y hy hd
        have hib := hdead i ⟨y, hy, hd⟩
        simp only at q1 q2 q3
        rw [List.getElem?_set_ne (fun e => hib e.symm)] at q1
        rw [if_neg hib] at q2
        exact ⟨q1, q2, q3⟩
      · rw [h12]
        show (C.H.set b Blk.dead)[x]? = _
        rw [List.getElem?_set_ne hne]
      · rcases h16 i with h | ⟨h, q1, q2⟩
        · by_cases e : i = b
          · subst e
            exact .inr ⟨by rw [h]; exact if_pos rfl, hlive, fun h => hdead i h rfl⟩
          · exact .inl (by rw [h]; exact if_neg e)
        · exact .inr ⟨h, (k4 i q1).2, q2⟩
    | nil =>
      simp only [movL, movC, cond_true] at hm
      simp only [frz]
      exact plain hl.1 hm
    | _ =>
      simp only [movL] at hm
      obtain ⟨q1, q2⟩ := andB hm
      simp only [frz]
      exact plain (scalC_U (hs q1 (by intro b e; cases e) (by intro e; cases e)) hl.1 _) q2
  | [], _ :: _, _, _, h, _ => h.elim
  | _ :: _, [], _, _, h, _ => h.elim
end Go.Proofs.YtcjfheidmlcbfaaGreatDoor.V
