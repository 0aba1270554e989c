/- Operations that make or write memory are sound. -/
import Derived.Test.YtgagpmiooeoodaaGreatA4
set_option linter.unusedVariables false
set_option linter.unusedSimpArgs false
set_option linter.unusedSectionVars false
namespace Go.Proofs.YtgagpmiooeoodaaGreat.A
open Go.RowKit

theorem fresh_iff : ∀ l : List Cell, fresh l = true ↔ ∀ c ∈ l, freshC c = true
  | [] => by simp [fresh]
  | c :: l => by
    simp only [fresh, List.mem_cons, forall_eq_or_imp]
    cases freshC c <;> simp [fresh_iff l]

section
variable {P : Program} {R : Type} {C : Cx} {r : R}

theorem dec_r {f : Bool} : ∀ (t : Ty) (cs : List Cell) (x : t.den) (vs : List Value), LR C cs vs → dec t cs = some x → (f = true → fresh cs = true) → Rd C.w (C.Sf f) t x vs := by
  intro t
  induction t with
  | int k =>
    intro cs x vs hl h hf
    simp only [dec] at h
    split at h
    case h_2 => cases h
    rename_i k' n
    split at h
    case isFalse => cases h
    rename_i e
    cases h
    subst e
    match vs, hl with
    | [v], hl => obtain ⟨rfl, _⟩ := hl; rfl
    | v :: _ :: _, hl => exact hl.2.elim
  | bool =>
    intro cs x vs hl h hf
    simp only [dec] at h
    split at h
    case h_2 => cases h
    rename_i c
    match vs, hl with
    | [v], hl =>
      have hc := hl.1
      cases c <;> simp only [Cell.toB, Option.some.injEq] at h <;> first | (cases h; done) | (subst h; obtain rfl : v = _ := hc; rfl)
    | v :: _ :: _, hl => exact hl.2.elim
  | str =>
    intro cs x vs hl h hf
    simp only [dec] at h
    split at h
    case h_2 => cases h
    rename_i s
    cases h
    match vs, hl with
    | [v], hl => obtain ⟨rfl, _⟩ := hl; rfl
    | v :: _ :: _, hl => exact hl.2.elim
  | sl t ih =>
    intro cs x vs hl h hf
    simp only [dec] at h
    split at h
    · rename_i fl t' l
      split at h
      case isFalse => cases h
      rename_i e
      cases h
      subst e
      match vs, hl with
      | [v], hl =>
        refine Rd.mono (fun b hb => ⟨hb.1, fun e => hb.2 ?_⟩) (fun _ _ => rfl) (.sl t') l [v] hl.1
        have := (fresh_iff _).1 (hf e) _ (List.mem_singleton.2 rfl)
        simpa [freshC] using this
      | v :: _ :: _, hl => exact hl.2.elim
    · cases h
      match vs, hl with
      | [v], hl => obtain ⟨rfl, _⟩ := hl; exact ⟨none, 0, rfl, Nat.le_refl _, fun h => absurd rfl h⟩
      | v :: _ :: _, hl => exact hl.2.elim
    · cases h
  | pair a b iha ihb =>
    intro cs x vs hl h hf
    simp only [dec] at h
    split at h
    · cases h
    rename_i xa ha
    split at h
    · cases h
    rename_i xb hb
    cases h
    exact ⟨iha _ _ _ (hl.take _) ha fun e => (fresh_iff _).2 fun c hc => (fresh_iff _).1 (hf e) c (List.mem_of_mem_take hc),
      ihb _ _ _ (hl.drop _) hb fun e => (fresh_iff _).2 fun c hc => (fresh_iff _).1 (hf e) c (List.mem_of_mem_drop hc)⟩

theorem enc_fresh : ∀ (t : Ty) (x : t.den), fresh (enc true t x) = true := by
  intro t
  induction t with
  | pair a b iha ihb =>
    intro x
    rw [fresh_iff]
    intro c hc
    rcases List.mem_append.1 hc with h | h
    · exact (fresh_iff _).1 (iha _) c h
    · exact (fresh_iff _).1 (ihb _) c h
  | _ => intro x; rfl

theorem laid_get (cur us : List Value) (p m : Nat) (h : p + us.length ≤ cur.length) : (cur.take p ++ us ++ cur.drop (p + us.length))[m]? = if p ≤ m ∧ m < p + us.length then us[m - p]? else cur[m]? := by
  rw [List.append_assoc, List.getElem?_append, List.getElem?_append, List.length_take, List.getElem?_take, List.getElem?_drop]
  rw [Nat.min_eq_left (by omega)]
  by_cases h1 : m < p
  · rw [if_pos h1, if_pos h1, if_neg (by omega)]
  · rw [if_neg h1]
    by_cases h2 : m - p < us.length
    · rw [if_pos h2, if_pos (by omega)]
    · rw [if_neg h2, if_neg (by omega)]
      congr 1
      omega

theorem win_at (cur us : List Value) (w L i o : Nat) (hi : i < L) (ho : o + us.length ≤ w) (hL : L * w ≤ cur.length) :
    (((cur.take (i * w + o) ++ us ++ cur.drop (i * w + o + us.length)).take (L * w)).drop (i * w)).take w =
      ((((cur.take (L * w)).drop (i * w)).take w).take o ++ us ++ (((cur.take (L * w)).drop (i * w)).take w).drop (o + us.length)) := by
  have h1 : (i + 1) * w ≤ L * w := Nat.mul_le_mul_right _ hi
  rw [Nat.add_mul, Nat.one_mul] at h1
  apply List.ext_getElem?
  intro m
  rw [laid_get _ _ _ _ (by simp only [List.length_take, List.length_drop]; omega), List.getElem?_take, List.getElem?_drop, List.getElem?_take, laid_get _ _ _ _ (by omega), List.getElem?_take, List.getElem?_drop, List.getElem?_take]
  (repeat' split) <;> first | rfl | (exfalso; omega) | (congr 1; omega)

theorem win_off (cur us : List Value) (w L i j o : Nat) (hi : i < L) (hj : j < L) (hne : i ≠ j) (ho : o + us.length ≤ w) (hL : L * w ≤ cur.length) :
    (((cur.take (i * w + o) ++ us ++ cur.drop (i * w + o + us.length)).take (L * w)).drop (j * w)).take w = ((cur.take (L * w)).drop (j * w)).take w := by
  have h1 : (i + 1) * w ≤ L * w := Nat.mul_le_mul_right _ hi
  have h2 : (j + 1) * w ≤ L * w := Nat.mul_le_mul_right _ hj
  rw [Nat.add_mul, Nat.one_mul] at h1 h2
  have h3 : i * w + w ≤ j * w ∨ j * w + w ≤ i * w := by
    rcases Nat.lt_or_gt_of_ne hne with h | h
    · left; have : (i + 1) * w ≤ j * w := Nat.mul_le_mul_right _ h; rwa [Nat.add_mul, Nat.one_mul] at this
    · right; have : (j + 1) * w ≤ i * w := Nat.mul_le_mul_right _ h; rwa [Nat.add_mul, Nat.one_mul] at this
  apply List.ext_getElem?
  intro m
  rw [List.getElem?_take, List.getElem?_drop, List.getElem?_take, laid_get _ _ _ _ (by omega), List.getElem?_take, List.getElem?_drop, List.getElem?_take]
  (repeat' split) <;> first | rfl | (exfalso; omega) | (congr 1; omega)

/-- What an operation comes to: whatever is shown of the state behind it. -/
def GoodO (P : Program) (C : Cx) (r : R) (k : AV → List Blk → Option R) (a : Act) (o : Oper) : Prop :=
  ∀ (next : Act → World → Prop) (Q : Exit → Act → World → Prop), (∀ v av C', k av C'.H = some r → C.le C' → HeapR C' → Frm C C' → AVR C' av v → next (a.put o.dst v) C'.w) → o.wp P a C.w next Q

theorem GoodO.val {k : AV → List Blk → Option R} {a : Act} {o : Oper} {C' : Cx} {v : Value} {av : AV} (hk : k av C'.H = some r) (h1 : C.le C') (h2 : HeapR C') (h3 : Frm C C') (h4 : AVR C' av v)
    (hr : (execOp a.eval o).run P C.w = .ok (.value v) C'.w) : GoodO P C r k a o := by
  intro next Q h
  unfold Oper.wp
  rw [hr]
  exact h v av C' hk h1 h2 h3 h4
theorem GoodO.skip {k : AV → List Blk → Option R} {a : Act} {o : Oper} {C' : Cx} (hk : k (.c .un) C'.H = some r) (h1 : C.le C') (h2 : HeapR C') (h3 : Frm C C')
    (hr : (execOp a.eval o).run P C.w = .ok .skip C'.w) : GoodO P C r k a o := by
  intro next Q h
  unfold Oper.wp
  rw [hr]
  exact h undef _ C' hk h1 h2 h3 rfl
theorem GoodO.pure_ {k : AV → List Blk → Option R} {a : Act} {o : Oper} (hH : HeapR C) (h : GoodN P C r (fun v => k v C.H) (execOp a.eval o)) : GoodO P C r k a o := by
  obtain ⟨v, av, h1, h2, h3⟩ := h
  exact .val (C' := C) h1 (.refl C) hH (.refl C) h2 (h3 C.w fun _ _ => rfl)

section
variable {T : Nat → Option TI} (hT : TOK P T) {s : St} {nt : Nat} {a : Act} (hH : HeapR C) (hh : C.H = s.heap) (ht : TR C nt s.tmps a)
include hT hH hh

theorem alloc_r {k : AV → List Blk → Option R} {dst : Option Tmp} {type : TypeId} {pos : String} {after : Array Edge} {guard : Option (Nat × Bool)} {t : Nat} {ti : TI} (hti : T t = some ti)
    (h : k (.c (.ptr s.heap.length 0)) (s.heap ++ [.cells t ti.zero]) = some r) : GoodO P C r k a ⟨dst, .alloc t, type, pos, after, guard⟩ := by
  obtain ⟨⟨i, z, hi, hs, hby, hz, hzs, hzr⟩, _⟩ := hT t ti hti
  obtain ⟨h1, h2, h3, h4⟩ := hH.newCells (ty := t) (hzr C) rfl
  refine .val (C' := _) ?_ h1 h2 h3 h4 ?_
  · simpa [hh] using h
  · simp [execOp, Instr.alloc, zeroValue, typeInfo, hi, hz, newVar, newRow]

include ht
theorem box_r {k : AV → List Blk → Option R} {dst : Option Tmp} {type : TypeId} {pos : String} {after : Array Edge} {guard : Option (Nat × Bool)} {t : Nat} {x : Operand} {ti : TI} (hti : T t = some ti)
    (hk : known (s.ev x).cells = true) (h : k (.c (.ptr s.heap.length 0)) (s.heap ++ [.cells t (s.ev x).cells]) = some r) : GoodO P C r k a ⟨dst, .box t x, type, pos, after, guard⟩ := by
  obtain ⟨h1, h2, h3, h4⟩ := hH.newCells (ty := t) ((ev_r ht x).cells hk) rfl
  refine .val (C' := _) ?_ h1 h2 h3 h4 ?_
  · simpa [hh] using h
  · simp [execOp, Instr.box, newVar, newRow]

theorem store_r {k : AV → List Blk → Option R} {dst : Option Tmp} {type : TypeId} {pos : String} {after : Array Edge} {guard : Option (Nat × Bool)} {t : Nat} {p x : Operand}
    (h : storeK T s t (s.ev p) (s.ev x) k = some r) : GoodO P C r k a ⟨dst, .store t p x, type, pos, after, guard⟩ := by
  unfold storeK at h
  split at h
  · cases h
  rename_i ti hti
  obtain ⟨⟨i, z, hi, hs, _⟩, _⟩ := hT t ti hti
  obtain ⟨hsz, h⟩ := beq_cond h
  obtain ⟨hkn, h⟩ := bool_cond h
  have hx := (ev_r ht x).cells hkn
  have hone := hx.one hkn
  have hxl : (a.eval x).cells.toList.length = ti.size := by rw [hx.length, hsz]
  have run : ∀ (g o : Nat) (ty : TypeId) (cur : Array Value), C.w.heap[g]? = some (.cells cur ty (0, 0)) → a.eval p = .pointer (some ⟨g, o, none⟩) → o + ti.size ≤ cur.size →
      (execOp a.eval ⟨dst, .store t p x, type, pos, after, guard⟩).run P C.w = .ok .skip (C.w.setRow g (cur.toList.take o ++ (a.eval x).cells.toList ++ cur.toList.drop (o + (a.eval x).cells.toList.length)).toArray) := by
    intro g o ty cur hg hp hle
    have hst := run_storeCells_at P g o ty (a.eval x).cells.toList 0 cur C.w hg (by simpa [hxl] using hle) hone
    simp only [Nat.add_zero] at hst
    have hne : ¬ (a.eval x).cells.size ≠ ti.size := by simpa using hxl
    simp [execOp, hp, Instr.storeAt, Instr.sureAddr, storeVar, sizeOf, typeInfo, hi, hs, hne, hst]
  split at h
  · rename_i b o hp
    split at h
    case h_2 => cases h
    rename_i ty l hb
    obtain ⟨hle, h⟩ := ble_cond h
    rw [← hh] at hb h
    have hpv := ev_r ht p
    rw [hp] at hpv
    obtain ⟨_, hbl, hps⟩ := hpv
    obtain ⟨g', hr, hv⟩ := hps (by simp [shp, hb])
    obtain ⟨g, cs, hρ, hg, hl⟩ := hH.blk b _ hb
    rw [hρ] at hr
    obtain rfl : g = g' := by simpa using hr
    have hcl := hl.length
    have hup := hH.update (blk' := .cells ty (splice l o (s.ev x).cells)) (cs := (cs.toList.take o ++ (a.eval x).cells.toList ++ cs.toList.drop (o + (a.eval x).cells.toList.length)).toArray) hb (by simp) (by unfold shp; rw [List.getElem?_set_self hbl, hb]) (g := g) (by simp [hρ, ownB]) rfl (fun hle' => ?_)
    · refine .skip (C' := _) h hup.1 hup.2.1 hup.2.2 (run g o ty cs hg hv (by simp at hcl; omega))
    · refine ⟨g, _, hρ, setRow_heap _ _ _ _ _ _ hg, ?_⟩
      have := (hl.splice (o := o) hx).mono hle'
      simpa using this
  · rename_i b i' o hp
    split at h
    rename_i cs1 H1 hfrz
    obtain ⟨C1, k1, k2, k3, k4, k5, k6, k7⟩ := frz_r hH hx
    rw [hh, hfrz] at k1 k7
    simp only at k1 k7
    split at h
    case h_2 => cases h
    rename_i y ety l f hb
    obtain ⟨hle, h⟩ := ble_cond h
    split at h
    case h_2 => cases h
    rename_i xn hdec
    rw [← k1] at hb h
    have hpv := (ev_r ht p).mono k2
    rw [hp] at hpv
    obtain ⟨_, hbl, hps⟩ := hpv
    obtain ⟨hlt, g, len, cap, hr, hv⟩ := hps y l.length (by simp [shp, hb])
    obtain ⟨xs, hown, hfr, hrd⟩ := k3.blk b _ hb
    have hown' := hown
    rw [hr] at hown
    rcases hown.parts.2 with ⟨hn, _⟩ | ⟨g', cap', cur, he, hg, hnc, hcm, hcs, htk⟩
    · omega
    obtain ⟨rfl, rfl, rfl⟩ : g = g' ∧ len = l.length ∧ cap = cap' := by simpa using he
    have hcap : cap ≠ 0 := by omega
    have hget : l[i']? = some (l.getD i' y.zero) := by rw [List.getD_eq_getElem?_getD, List.getElem?_eq_getElem hlt]; rfl
    have hwin := hrd i' _ hget
    have hin : (i' + 1) * y.width ≤ l.length * y.width := Nat.mul_le_mul_right _ hlt
    have hin2 : l.length * y.width ≤ cap * y.width := Nat.mul_le_mul_right _ hnc
    rw [Nat.add_mul, Nat.one_mul] at hin
    have hxs : xs.length = l.length * y.width := hown.parts.1
    have hk7 := k7.length
    let us := (a.eval x).cells.toList
    have hus : us.length = ti.size := hxl
    have hnew := dec_r (f := f && fresh cs1) y _ xn _ ((enc_r (f := f) y _ _ hwin).splice (o := o) k7) hdec (fun e => by
      rw [Bool.and_eq_true] at e
      obtain ⟨rfl, e2⟩ := e
      rw [fresh_iff]
      intro c hc
      unfold splice at hc
      rcases List.mem_append.1 hc with h | h
      · rcases List.mem_append.1 h with h | h
        · exact (fresh_iff _).1 (enc_fresh _ _) c (List.mem_of_mem_take h)
        · exact (fresh_iff _).1 e2 c h
      · exact (fresh_iff _).1 (enc_fresh _ _) c (List.mem_of_mem_drop h))
    have hcur : (cur.toList.take (i' * y.width + o) ++ us ++ cur.toList.drop (i' * y.width + o + us.length)).length = cur.size := by
      simp only [List.length_append, List.length_take, List.length_drop, Array.length_toList]
      omega
    have hup := k3.update (blk' := .arr y ety (l.set i' xn) (f && fresh cs1)) (cs := (cur.toList.take (i' * y.width + o) ++ us ++ cur.toList.drop (i' * y.width + o + us.length)).toArray) hb (by simp) (by unfold shp; rw [List.getElem?_set_self hbl, hb]; simp) (g := g) (by simp [hr, ownB, hcap]) rfl (fun hle' => ?_)
    · refine .skip (C' := _) h (k2.trans hup.1) hup.2.1 (k4.trans k2 hup.2.2) ?_
      rw [← k5] at run ⊢
      exact run g (i' * y.width + o) ety cur hg hv (by omega)
    · -- the row behind the store
      let nx := cur.toList.take (i' * y.width + o) ++ us ++ cur.toList.drop (i' * y.width + o + us.length)
      have hnx : nx.length = cap * y.width := by rw [← hcs]; exact hcur
      refine ⟨nx.take (l.length * y.width), ?_, ?_, ?_⟩
      · refine .inl ⟨by simp only [List.length_take, List.length_set]; omega, .inr ⟨g, cap, nx.toArray, by simpa using hr, Nat.zero_le _, setRow_heap _ _ _ _ _ _ hg, by simpa using hnc, hcm, by simp only [List.size_toArray]; rw [hcur]; exact hcs, by simp⟩⟩
      · intro e g2 hg2
        rw [Bool.and_eq_true] at e
        exact hfr e.1 g2 hg2
      · intro j u hu
        by_cases e : i' = j
        · subst e
          rw [List.getElem?_set_self hlt] at hu
          cases hu
          refine Rd.mono (hle'.Sf _) (fun b hb => hle'.heap b hb.1) _ _ _ ?_
          have ee := win_at cur.toList us y.width l.length i' o hlt (by omega) (by simp; omega)
          rw [htk] at ee
          rw [ee]
          exact hnew
        · rw [List.getElem?_set_ne e] at hu
          have h0 := hrd j u hu
          have hjl := (List.getElem?_eq_some_iff.1 hu).1
          refine Rd.mono (S := C1.Sf f) (fun b hb => ⟨hle'.S b hb.1, fun e2 => by rw [hle'.B]; rw [Bool.and_eq_true] at e2; exact hb.2 e2.1⟩) (fun b hb => hle'.heap b hb.1) _ _ _ ?_
          have ee := win_off cur.toList us y.width l.length i' j o hlt hjl e (by omega) (by simp; omega)
          rw [htk] at ee
          rw [ee]
          exact h0
  · cases h
end

theorem zero_r {te : TI} {e : Nat} (hok : TIok P e te) {y : Ty} (hw : te.size = y.width) {z : y.den} (hz : dec y te.zero = some z) {i : TypeInfo} {zv : Value} (hi : P.info? e = some i) (hzv : i.zero = some zv) (w : World) (S : Nat → Prop) :
    Rd w S y z zv.cells.toList := by
  obtain ⟨⟨i', zv', hi', hs, hby, hz', hzs, hzr⟩, _⟩ := hok
  rw [hi] at hi'
  cases hi'
  rw [hzv] at hz'
  cases hz'
  exact Rd.mono (S' := S) (fun b hb => hb.1) (fun _ _ => rfl) _ _ _ (dec_r (C := ⟨0, fun _ => False, w, S, [], fun _ => undef⟩) (f := false) y _ z _ (hzr _) hz (fun h => by cases h))

theorem flat_get (zs : List Value) (w : Nat) (hw : zs.length = w) (hp : 0 < w) : ∀ (n m : Nat), ((List.replicate n zs).flatten)[m]? = if m < n * w then zs[m % w]? else none
  | 0, m => by simp
  | n + 1, m => by
    rw [List.replicate_succ, List.flatten_cons, List.getElem?_append, flat_get zs w hw hp n, hw, Nat.add_mul, Nat.one_mul]
    by_cases h : m < w
    · rw [if_pos h, if_pos (by omega), Nat.mod_eq_of_lt h]
    · rw [if_neg h]
      by_cases h2 : m - w < n * w
      · rw [if_pos h2, if_pos (by omega), Nat.mod_eq_sub_mod (by omega : m ≥ w)]
      · rw [if_neg h2, if_neg (by omega)]

theorem made_flat (z : Array Value) (w n : Nat) (hw : z.size = w) (hp : 0 < w) : (madeCells z (n * w)).toList = (List.replicate n z.toList).flatten := by
  apply List.ext_getElem?
  intro m
  rw [flat_get _ w (by simpa using hw) hp]
  by_cases h : m < n * w
  · have hm : m % w < z.size := by rw [hw]; exact Nat.mod_lt _ hp
    rw [if_pos h]
    simp [madeCells, h, hw, hm]
    rw [getElem!_pos z (m % w) hm, Array.getElem?_eq_getElem hm]
  · rw [if_neg h]
    simp [madeCells, h]

theorem made_win (zs : List Value) (w n i : Nat) (hw : zs.length = w) (hp : 0 < w) (hi : i < n) : (((List.replicate n zs).flatten).drop (i * w)).take w = zs := by
  have h1 : (i + 1) * w ≤ n * w := Nat.mul_le_mul_right _ hi
  rw [Nat.add_mul, Nat.one_mul] at h1
  apply List.ext_getElem?
  intro m
  rw [List.getElem?_take, List.getElem?_drop, flat_get _ w hw hp]
  by_cases h : m < w
  · rw [if_pos h, if_pos (by omega), show (i * w + m) % w = m by rw [Nat.mul_comm, Nat.mul_add_mod]; exact Nat.mod_eq_of_lt h]
  · rw [if_neg h, List.getElem?_eq_none (by omega)]

section
variable {T : Nat → Option TI} (hT : TOK P T) {s : St} {nt : Nat} {a : Act} (hH : HeapR C) (hh : C.H = s.heap) (ht : TR C nt s.tmps a)
include hT hH hh ht

theorem make_r {k : AV → List Blk → Option R} {dst : Option Tmp} {type : TypeId} {pos : String} {after : Array Edge} {guard : Option (Nat × Bool)} {t : Nat} {x y : Operand}
    (h : makeK T s t (s.ev x) (s.ev y) k = some r) : GoodO P C r k a ⟨dst, .makeSlice t x y, type, pos, after, guard⟩ := by
  unfold makeK at h
  split at h
  · cases h
  rename_i ti hti
  obtain ⟨_, d, hu, _, hd⟩ := hT t ti hti
  split at h
  case h_2 => cases h
  rename_i e hk
  rw [hk] at hd
  obtain rfl : d = .slice e := hd
  split at h
  · cases h
  rename_i te hte
  have hok := hT e te hte
  obtain ⟨⟨i, zv, hi, hs, hby, hz, hzs, hzr⟩, _⟩ := id hok
  split at h
  case h_2 => cases h
  rename_i yt kn n kc c hyt hn hc
  obtain ⟨hw, h⟩ := beq_cond h
  split at h
  · cases h
  rename_i z hdz
  split at h
  case isFalse => cases h
  rename_i h0
  split at h
  case isFalse => cases h
  rename_i h1
  split at h
  case isFalse => cases h
  rename_i h2
  have en := ev_r ht x
  have ec := ev_r ht y
  rw [hn] at en
  rw [hc] at ec
  obtain en : a.eval x = .int kn n := en
  obtain ec : a.eval y = .int kc c := ec
  have hbytes : c.toNat * te.bytes ≤ 281474976710656 := Nat.le_trans (Nat.mul_le_mul_right _ h2) (Nat.div_mul_le_self _ _)
  have hc0 : 0 ≤ c := by omega
  have hpos := yt.width_pos
  have hby1 : (i.bytes : Int) * c ≤ 281474976710656 := by
    rw [hby]
    have h3 : ((c.toNat * te.bytes : Nat) : Int) ≤ 281474976710656 := by omega
    rw [Int.natCast_mul, Int.toNat_of_nonneg hc0, Int.mul_comm] at h3
    exact h3
  have h63 : c ≤ 9223372036854775807 := by
    have h3 : c.toNat ≤ 281474976710656 := Nat.le_trans h2 (Nat.div_le_self _ _)
    omega
  have hrun := run_make (P := P) C.w t e i zv hu hi hz kn kc n c h0 h1 hby1 h63
  have hzr' := zero_r hok hw hdz hi hz C.w (C.Sf true)
  have hcur : (madeCells zv.cells (c.toNat * i.size)).toList = (List.replicate c.toNat zv.cells.toList).flatten := by
    rw [hs]
    exact made_flat _ _ _ hzs (by omega)
  have hzl : zv.cells.toList.length = yt.width := by rw [← hw]; simpa using hzs
  obtain ⟨k1, k2, k3⟩ := hH.grow (w' := C.w.alloc (.cells (madeCells zv.cells (c.toNat * i.size)) e)) (H1 := C.H) (blk := .arr yt e (List.replicate n.toNat z) true) (v' := .slice (some ⟨C.w.heap.size, 0, none⟩) n.toNat c.toNat) none rfl (fun i x hx => .inr hx) rfl rfl rfl (by simp) (fun k hk _ => heap_alloc_old _ _ _ hk) (by simp)
    (fun g hg => by
      simp only [ownB] at hg
      split at hg
      · cases hg
      · cases hg; exact .inr (Nat.le_refl _)) rfl
    (fun hle => by
      refine ⟨(madeCells zv.cells (c.toNat * i.size)).toList.take (n.toNat * yt.width), .inl ⟨?_, .inr ⟨C.w.heap.size, c.toNat, _, by simp, Nat.zero_le _, heap_alloc_new _ _, by rw [List.length_replicate]; omega, by unfold maxLen; omega, ?_, by rw [List.length_replicate]⟩⟩, ?_, ?_⟩
      · have : n.toNat * yt.width ≤ c.toNat * yt.width := Nat.mul_le_mul_right _ (by omega)
        simp only [List.length_take, Array.length_toList, size_madeCells, List.length_replicate]
        rw [hs, hw]
        omega
      · rw [size_madeCells, hs, hw]
      · intro _ g hg
        have hg : ownB (if C.H.length = C.H.length then .slice (some ⟨C.w.heap.size, 0, none⟩) n.toNat c.toNat else C.ρ C.H.length) = some g := hg
        rw [if_pos rfl] at hg
        simp only [ownB] at hg
        split at hg
        · cases hg
        · cases hg; exact hH.base
      · intro j u hu
        rw [List.getElem?_replicate] at hu
        split at hu
        case isFalse => cases hu
        rename_i hj
        cases hu
        have e1 : (((madeCells zv.cells (c.toNat * i.size)).toList.take (n.toNat * yt.width)).drop (j * yt.width)).take yt.width = zv.cells.toList := by
          have hjw : (j + 1) * yt.width ≤ n.toNat * yt.width := Nat.mul_le_mul_right _ hj
          rw [Nat.add_mul, Nat.one_mul] at hjw
          rw [List.drop_take, List.take_take, Nat.min_eq_left (by omega), hcur]
          exact made_win _ _ _ _ hzl hpos (by omega)
        rw [e1]
        exact Rd.mono (hle.Sf true) (fun b hb => hle.heap b hb.1) _ _ _ hzr')
  refine .val (C' := _) (v := .slice (some ⟨C.w.heap.size, 0, none⟩) n.toNat c.toNat) ?_ k1 k2 k3 (av := .c (.own C.H.length)) ?_ ?_
  · simpa [hh] using h
  · exact ⟨rfl, by simp, fun t n hs => by simp⟩
  · simp [execOp, en, ec, hrun]
end

theorem buildSlice_go {C : Cx} {s : St} {nt : Nat} {a : Act} (ht : TR C nt s.tmps a) {sz : Nat} {k : List Cell → Option R} :
    ∀ (parts : List (Nat × Operand)) (acc : List Cell) (cs : Array Value), LR C acc cs.toList → buildSliceK.go s sz parts acc k = some r →
      ∃ (out : Array Value) (l : List Cell), Instr.fill (fun i => some (i * sz, sz)) cs (parts.map fun (i, x) => (i, a.eval x)) = some out ∧ LR C l out.toList ∧ k l = some r
  | [], acc, cs, hl, h => ⟨cs, acc, rfl, hl, h⟩
  | (f, x) :: rest, acc, cs, hl, h => by
    simp only [buildSliceK.go] at h
    obtain ⟨hsz, h⟩ := beq_cond h
    obtain ⟨hkn, h⟩ := bool_cond h
    obtain ⟨hle, h⟩ := ble_cond h
    have hx := (ev_r ht x).cells hkn
    have hxl := hx.length
    rw [hsz] at hxl
    have hcl := hl.length
    have hfc := fill_cells cs (f * sz) (a.eval x).cells.toList 0 cs (by simp at hxl hcl ⊢; omega)
    simp only [Nat.add_zero] at hfc
    obtain ⟨out, l, h1, h2, h3⟩ := buildSlice_go ht rest (splice acc (f * sz) (s.ev x).cells) ((a.eval x).cells.zipIdx.foldl (fun cs (c, j) => cs.setIfInBounds (f * sz + j) c) cs) (by
      have e : ((a.eval x).cells.zipIdx.foldl (fun cs (c, j) => cs.setIfInBounds (f * sz + j) c) cs).toList = ((a.eval x).cells.toList.zipIdx.foldl (fun cs (c, j) => cs.setIfInBounds (f * sz + j) c) cs).toList := by
        rw [← Array.foldl_toList]; simp
      rw [e, hfc]
      exact hl.splice hx) h
    refine ⟨out, l, ?_, h2, h3⟩
    simp only [List.map_cons, Instr.fill]
    have c1 : (a.eval x).cells.size = sz := by simpa using hxl
    have c2 : ¬ (f * sz + sz > cs.size) := by simp at hcl; omega
    rw [if_neg (by simp [c1]; omega)]
    exact h1

theorem decRows_r {f : Bool} {y : Ty} : ∀ (n : Nat) (cs : List Cell) (l : List y.den) (vs : List Value), LR C cs vs → decRows y n cs = some l → (f = true → fresh cs = true) →
    l.length = n ∧ ∀ i x, l[i]? = some x → Rd C.w (C.Sf f) y x ((vs.drop (i * y.width)).take y.width)
  | 0, cs, l, vs, hl, h, hf => by cases h; exact ⟨rfl, fun i x hx => by simp at hx⟩
  | n + 1, cs, l, vs, hl, h, hf => by
    simp only [decRows] at h
    split at h
    · cases h
    rename_i x hx
    split at h
    · cases h
    rename_i l' hl'
    cases h
    have h1 := dec_r (f := f) y _ x _ (hl.take y.width) hx fun e => (fresh_iff _).2 fun c hc => (fresh_iff _).1 (hf e) c (List.mem_of_mem_take hc)
    obtain ⟨h2, h3⟩ := decRows_r n _ l' _ (hl.drop y.width) hl' fun e => (fresh_iff _).2 fun c hc => (fresh_iff _).1 (hf e) c (List.mem_of_mem_drop hc)
    refine ⟨by simp [h2], fun i u hu => ?_⟩
    cases i with
    | zero => simp at hu; subst hu; simpa using h1
    | succ i =>
      have := h3 i u (by simpa using hu)
      rw [List.drop_drop] at this
      rw [Nat.add_mul, Nat.one_mul, Nat.add_comm]
      exact this

theorem LR.flat {C : Cx} {l : List Cell} {vs : List Value} (h : LR C l vs) : ∀ n, LR C (List.replicate n l).flatten (List.replicate n vs).flatten
  | 0 => trivial
  | n + 1 => by
    simp only [List.replicate_succ, List.flatten_cons]
    exact h.append (LR.flat h n)

/-- A new row of the call's own, all of whose cells are known. -/
theorem HeapR.newRow (hH : HeapR C) {y : Ty} {e n : Nat} {l : List y.den} {f : Bool} {cs : Array Value} (hl : l.length = n) (hcs : cs.size = n * y.width) (hn : n ≤ maxLen)
    (hrd : ∀ i x, l[i]? = some x → Rd C.w (C.Sf f) y x ((cs.toList.drop (i * y.width)).take y.width)) {C' : Cx}
    (hC' : C' = { C with w := C.w.alloc (.cells cs e), H := C.H ++ [.arr y e l f], ρ := fun b => if b = C.H.length then .slice (some ⟨C.w.heap.size, 0, none⟩) n n else C.ρ b }) :
    C.le C' ∧ HeapR C' ∧ Frm C C' ∧ AVR C' (.c (.own C.H.length)) (.slice (some ⟨C.w.heap.size, 0, none⟩) n n) := by
  subst hC'
  obtain ⟨k1, k2, k3⟩ := hH.grow (w' := C.w.alloc (.cells cs e)) (H1 := C.H) (blk := .arr y e l f) (v' := .slice (some ⟨C.w.heap.size, 0, none⟩) n n) none rfl (fun i x hx => .inr hx) rfl rfl rfl (by simp) (fun k hk _ => heap_alloc_old _ _ _ hk) (by simp)
    (fun g hg => by
      simp only [ownB] at hg
      split at hg
      · cases hg
      · cases hg; exact .inr (Nat.le_refl _)) rfl
    (fun hle => by
      refine ⟨cs.toList, .inl ⟨by simp [hcs, hl], .inr ⟨C.w.heap.size, n, cs, by simp [hl], Nat.zero_le _, heap_alloc_new _ _, by omega, hn, hcs, ?_⟩⟩, ?_, ?_⟩
      · rw [hl]; exact List.take_of_length_le (by simp [hcs])
      · intro _ g hg
        have hg : ownB (if C.H.length = C.H.length then .slice (some ⟨C.w.heap.size, 0, none⟩) n n else C.ρ C.H.length) = some g := hg
        rw [if_pos rfl] at hg
        simp only [ownB] at hg
        split at hg
        · cases hg
        · cases hg; exact hH.base
      · intro j u hu
        exact Rd.mono (hle.Sf f) (fun b hb => hle.heap b hb.1) _ _ _ (hrd j u hu))
  exact ⟨k1, k2, k3, rfl, by simp, fun t n hs => by simp⟩

section
variable {T : Nat → Option TI} (hT : TOK P T) {s : St} {nt : Nat} {a : Act} (hH : HeapR C) (hh : C.H = s.heap) (ht : TR C nt s.tmps a)
include hT hH hh ht

theorem buildSlice_r {k : AV → List Blk → Option R} {dst : Option Tmp} {type : TypeId} {pos : String} {after : Array Edge} {guard : Option (Nat × Bool)} {t n : Nat} {parts : Array (Nat × Operand)}
    (h : buildSliceK T s t n parts.toList k = some r) : GoodO P C r k a ⟨dst, .buildSlice t n parts, type, pos, after, guard⟩ := by
  unfold buildSliceK at h
  split at h
  · cases h
  rename_i ti hti
  obtain ⟨_, d, hu, _, hd⟩ := hT t ti hti
  split at h
  case h_2 => cases h
  rename_i e hk
  rw [hk] at hd
  obtain rfl : d = .slice e := hd
  split at h
  · cases h
  rename_i te hte
  have hok := hT e te hte
  obtain ⟨⟨i, zv, hi, hs, hby, hz, hzs, hzr⟩, _⟩ := id hok
  split at h
  case h_2 => cases h
  rename_i y hyt
  obtain ⟨hw, h⟩ := beq_cond h
  obtain ⟨hle, h⟩ := ble_cond h
  have hpos := y.width_pos
  have hmf := made_flat zv.cells te.size n hzs (by omega)
  obtain ⟨out, l0, h1, h2, h3⟩ := buildSlice_go ht parts.toList _ (madeCells zv.cells (n * te.size)) (by rw [hmf]; exact (hzr C).flat n) h
  have hos : out.size = n * y.width := by
    have fs : ∀ (ps : List (Nat × Value)) (cs out : Array Value), Instr.fill (fun i => some (i * te.size, te.size)) cs ps = some out → out.size = cs.size := by
      intro ps
      induction ps with
      | nil => intro cs out h; cases h; rfl
      | cons p ps ih =>
        intro cs out h
        obtain ⟨j, v⟩ := p
        simp only [Instr.fill] at h
        split at h
        · cases h
        · rw [ih _ _ h]
          have : ∀ (us : Array (Value × Nat)) (cs : Array Value), (us.foldl (fun cs (c, q) => cs.setIfInBounds (j * te.size + q) c) cs).size = cs.size := by
            intro us cs
            rw [← Array.foldl_toList]
            generalize us.toList = us'
            induction us' generalizing cs with
            | nil => rfl
            | cons u us' ih => rw [List.foldl_cons, ih]; simp
          exact this _ _
    rw [fs _ _ _ h1, size_madeCells, hw]
  obtain ⟨C1, k1, k2, k3, k4, k5, k6, k7⟩ := frz_r hH h2
  rw [hh] at k1 k7
  simp only at h3
  split at h3
  case h_2 => cases h3
  rename_i l hl
  have hdr := decRows_r (f := fresh (frz s.heap l0).1) n _ l _ k7 hl id
  obtain ⟨m1, m2, m3, m4⟩ := k3.newRow (e := e) (f := fresh (frz s.heap l0).1) (cs := out) hdr.1 (by simpa using hos) (by
    have : n ≤ n * te.size := Nat.le_mul_of_pos_right _ (by omega)
    unfold maxLen; omega) hdr.2 rfl
  refine .val (C' := _) ?_ (k2.trans m1) m2 (k4.trans k2 m3) m4 ?_
  · simpa [k1] using h3
  · have h16 : ¬ (16777216 < n * te.size) := by omega
    rw [k5]
    by_cases h0 : n * te.size = 0
    · have hm0 : madeCells zv.cells (n * te.size) = #[] := by rw [h0]; simp [madeCells]
      rw [hm0] at h1
      simp [execOp, Instr.buildSlice, run_underlying hu, sizeOf, typeInfo, hi, hs, h16, h0, newRow]
      have h1' : Instr.fill (fun i => some (i * te.size, te.size)) (Array.map (fun _ => (default : Value)) (Array.range 0)) (List.map (fun x => (x.fst, a.eval x.snd)) parts.toList) = some out := by
        have hz0 : Array.map (fun _ => (default : Value)) (Array.range 0) = #[] := by apply Array.ext'; simp
        rw [hz0]
        exact h1
      rw [h1']
      simp
    · simp [execOp, Instr.buildSlice, run_underlying hu, sizeOf, typeInfo, zeroValue, hi, hz, hs, h16, h0, newRow]
      have h1' : Instr.fill (fun i => some (i * te.size, te.size)) (Array.map (fun x => zv.cells[x % zv.cells.size]!) (Array.range (n * te.size))) (List.map (fun x => (x.fst, a.eval x.snd)) parts.toList) = some out := h1
      rw [h1']
      simp
end
end
end Go.Proofs.YtgagpmiooeoodaaGreat.A
