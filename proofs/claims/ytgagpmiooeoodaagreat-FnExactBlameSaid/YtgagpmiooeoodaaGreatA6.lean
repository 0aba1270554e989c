/- append and calls are sound. -/
import Derived.Test.YtgagpmiooeoodaaGreatA5
set_option linter.unusedVariables false
set_option linter.unusedSimpArgs false
set_option linter.unusedSectionVars false
namespace Go.Proofs.YtgagpmiooeoodaaGreat.A
open Go.RowKit

section
variable {P : Program} {R : Type} {C : Cx} {r : R}

theorem append_run {w : World} {t tx ty e : TypeId} {i : TypeInfo} {z : Value} (ht : P.underlying t = some (.slice e)) (hi : P.info? e = some i) (hz : i.zero = some z) (hzs : z.cells.size = i.size)
    {v : Value} {n : Nat} {xs : List Value} (hown : OwnR w e i.size v n xs) {x : Value} {m : Nat} {news : List Value} (hs : Src P i.size tx x m news w) (h63 : n + m ≤ maxLen) (hb : (n + m) * i.bytes ≤ 140737488355328) :
    ∃ v' w', (Builtin.append_ #[t, tx] ty #[v, x]).run P w = .ok v' w' ∧ OwnR w' e i.size v' (n + m) (xs ++ news) ∧ w'.os = w.os ∧ w'.tape = w.tape ∧ w'.output = w.output ∧ w.heap.size ≤ w'.heap.size ∧
      (∀ k, k < w.heap.size → some k ≠ ownB v → w'.heap[k]? = w.heap[k]?) ∧ (∀ g, ownB v' = some g → ownB v = some g ∨ w.heap.size ≤ g) ∧ v'.oneCell' = true := by
  have hnl := hs.newsLen
  by_cases hm : m = 0
  · subst hm
    obtain rfl : news = [] := List.eq_nil_of_length_eq_zero (by simpa using hnl)
    have key : ∀ base cap, v = .slice base n cap → n ≤ cap → (Builtin.append_ #[t, tx] ty #[v, x]).run P w = .ok v w := by
      intro base cap hv hle
      rw [hv]
      exact run_append_nothing (P := P) w t tx ty e i ht hi base n cap hle x hs
    rcases hown.parts.2 with ⟨rfl, rfl, A, hv⟩ | ⟨g, cap, cur, hv, hg, hnc, hcm, hcs, htk⟩
    · exact ⟨v, w, key A 0 hv (Nat.le_refl _), by simpa using hown, rfl, rfl, rfl, Nat.le_refl _, fun _ _ _ => rfl, fun g hg => .inl hg, by rw [hv]; rfl⟩
    · exact ⟨v, w, key _ cap hv hnc, by simpa using hown, rfl, rfl, rfl, Nat.le_refl _, fun _ _ _ => rfl, fun g hg => .inl hg, by rw [hv]; rfl⟩
  have grown : ∀ (base : Option Addr) (cap : Nat), v = .slice base n cap → cap < n + m → (Builtin.firstCells i.size n (.slice base n cap)).run P w.drew = .ok xs.toArray w.drew →
      ∃ v' w', (Builtin.append_ #[t, tx] ty #[v, x]).run P w = .ok v' w' ∧ OwnR w' e i.size v' (n + m) (xs ++ news) ∧ w'.os = w.os ∧ w'.tape = w.tape ∧ w'.output = w.output ∧ w.heap.size ≤ w'.heap.size ∧
      (∀ k, k < w.heap.size → some k ≠ ownB v → w'.heap[k]? = w.heap[k]?) ∧ (∀ g, ownB v' = some g → ownB v = some g ∨ w.heap.size ≤ g) ∧ v'.oneCell' = true := by
    intro base cap hv hlt hold
    have hr := run_append_grow_src (P := P) w t tx ty e i z ht hi hz base n cap xs hold x m news hs hlt (by unfold maxLen at h63; omega) (growslice_fits hlt hb)
    rw [← hv] at hr
    have hge := grownCap_ge w (n + m) cap e
    have hlen : (xs ++ news).length = (n + m) * i.size := by rw [List.length_append, hown.parts.1, hnl, Nat.add_mul]
    refine ⟨_, _, hr, .inl ⟨hlen, .inr ⟨w.heap.size, _, _, rfl, Nat.zero_le _, heap_alloc_new w.drew _, hge, grownCap_le_maxLen w _ _ e h63, ?_, ?_⟩⟩, rfl, rfl, rfl, by simp, fun k hk _ => heap_alloc_old w.drew _ k hk, ?_, rfl⟩
    · rw [Array.size_append, size_zeroCells, hzs, List.size_toArray, hlen, ← Nat.add_mul]
      congr 1
      omega
    · rw [Array.toList_append, ← hlen]
      exact List.take_left
    · intro g hg
      simp only [ownB] at hg
      split at hg
      · cases hg
      · cases hg; exact .inr (Nat.le_refl _)
  rcases hown.parts.2 with ⟨hn, hx, A, hv⟩ | ⟨g, cap, cur, hv, hg, hnc, hcm, hcs, htk⟩
  · refine grown A 0 (by rw [hv, hn]) (by omega) ?_
    rw [hn, hx]
    cases A with
    | none => exact run_firstCells_none w.drew _ _ _ _
    | some a => exact run_firstCells_some w.drew _ 0 a 0 0 [] (by simp) (by simp)
  · by_cases hroom : n + m ≤ cap
    · have hfit : n * i.size + news.length ≤ cur.size := by rw [hnl, hcs, ← Nat.add_mul]; exact Nat.mul_le_mul_right _ hroom
      have hst := run_storeCells_at P g (n * i.size) e news 0 cur w hg (by simpa using hfit) hs.one
      simp only [Nat.add_zero] at hst
      have hcap : cap ≠ 0 := by omega
      have hr : (Builtin.append_ #[t, tx] ty #[v, x]).run P w = .ok (.slice (some ⟨g, 0, none⟩) (n + m) cap) (w.setRow g (cur.toList.take (n * i.size) ++ news ++ cur.toList.drop (n * i.size + news.length)).toArray) := by
        rw [hv]
        rcases hs.kind with ⟨e', hk⟩ | hk <;> simp [Builtin.append_, run_underlying ht, run_underlying hk, sizeOf, typeInfo, hi, hs.len, hroom, hs.cells, Addr.add_lit, hst]
      have hlen : (xs ++ news).length = (n + m) * i.size := by rw [List.length_append, hown.parts.1, hnl, Nat.add_mul]
      refine ⟨_, _, hr, .inl ⟨hlen, .inr ⟨g, cap, _, rfl, Nat.zero_le _, setRow_heap w g cur _ e _ hg, hroom, hcm, ?_, ?_⟩⟩, rfl, rfl, rfl, by simp, fun k _ hk => setRow_other w g k _ (fun e => hk (by simp [hv, ownB, hcap, e])), ?_, rfl⟩
      · simp only [List.size_toArray, List.length_append, List.length_take, List.length_drop, Array.length_toList]
        omega
      · rw [htk, ← hlen]
        exact List.take_left
      · intro g' hg'
        simp only [ownB, hcap, if_false] at hg'
        left
        simp [hv, ownB, hcap, hg']
    · refine grown _ cap hv (by omega) (run_firstCells_some w.drew _ n _ n cap xs hown.parts.1 fun j u hu => ?_)
      rw [addr_add]
      have hg' : w.drew.heap[g]? = some (.cells cur e (0, 0)) := hg
      rw [cell_at hg', Nat.zero_add]
      rw [← htk, List.getElem?_take] at hu
      split at hu
      · exact hu
      · cases hu

theorem win_length {w : World} {S : Nat → Prop} {t : Ty} {l : List t.den} {cs : List Value} {off : Nat} (hne : l ≠ []) (h : ∀ i x, l[i]? = some x → Rd w S t x ((cs.drop (off + i * t.width)).take t.width)) : off + l.length * t.width ≤ cs.length := by
  have hp : 0 < l.length := List.length_pos_iff.2 hne
  have hx := h (l.length - 1) _ (List.getElem?_eq_getElem (by omega))
  have := hx.length
  rw [List.length_take, List.length_drop] at this
  have e : l.length * t.width = (l.length - 1) * t.width + t.width := by
    rw [← Nat.succ_mul]; congr 1; omega
  have := t.width_pos
  omega

theorem win_one {w : World} {S : Nat → Prop} {t : Ty} {l : List t.den} {news : List Value} (hl : news.length = l.length * t.width) (h : ∀ i x, l[i]? = some x → Rd w S t x ((news.drop (i * t.width)).take t.width)) : ∀ u ∈ news, u.oneCell' = true := by
  intro u hu
  obtain ⟨j, hj⟩ := List.getElem?_of_mem hu
  have hjl := (List.getElem?_eq_some_iff.1 hj).1
  have hp := t.width_pos
  have hi : j / t.width < l.length := (Nat.div_lt_iff_lt_mul hp).2 (by omega)
  refine (h (j / t.width) _ (List.getElem?_eq_getElem hi)).one _ _ _ u (List.mem_of_getElem? (i := j % t.width) ?_)
  rw [List.getElem?_take, if_pos (Nat.mod_lt _ hp), List.getElem?_drop, Nat.mul_comm, Nat.div_add_mod]
  exact hj

theorem Rd.orFlat {f : Bool} {t : Ty} {x : t.den} {vs : List Value} (h : Rd C.w (C.Sf f) t x vs) : Rd C.w (C.Sf (f || t.flat)) t x vs := by
  cases hf : t.flat
  · simpa using h
  · exact Rd.flat t x vs hf h

theorem rowsOf_r {s : St} (hH : HeapR C) (hh : C.H = s.heap) {y : Ty} {p : AV} {v : Value} (hp : AVR C p v) {f : Bool} {l : List y.den} (h : rowsOf s y p = some (f, l)) {tx e' : TypeId} (hk : P.underlying tx = some (.slice e')) :
    ∃ news, Src P y.width tx v l.length news C.w ∧ ∀ i x, l[i]? = some x → Rd C.w (C.Sf f) y x ((news.drop (i * y.width)).take y.width) := by
  unfold rowsOf at h
  split at h
  · cases h
    obtain rfl : v = .slice none 0 0 := hp
    exact ⟨[], Src.ofNil _ hk 0, fun i x hx => by simp at hx⟩
  · cases h
    obtain ⟨A, rfl⟩ := (hp : CellR C .emp v)
    cases A with
    | none => exact ⟨[], Src.ofNil _ hk 0, fun i x hx => by simp at hx⟩
    | some a => exact ⟨[], Src.ofSlice _ hk a 0 0 [] (by simp) (by simp) (by simp), fun i x hx => by simp at hx⟩
  · rename_i f' y' l'
    split at h
    case isFalse => cases h
    rename_i e
    cases h
    subst e
    change ∃ news, Src P y'.width tx v l'.length news C.w ∧ ∀ i x, l'[i]? = some x → _
    obtain ⟨A, cap, hv, hlc, hne⟩ := (hp : Rd C.w (C.Sf f') (.sl y') l' [v])
    obtain rfl : v = _ := by simpa using hv
    by_cases hn : l' = []
    · subst hn
      cases A with
      | none => exact ⟨[], Src.ofNil _ hk cap, fun i x hx => by simp at hx⟩
      | some a => exact ⟨[], Src.ofSlice _ hk a 0 cap [] (by simp) (by simp) (by simp), fun i x hx => by simp at hx⟩
    · obtain ⟨g, off, cs, ty, fr, rfl, hS, hg, hall⟩ := hne hn
      have hwl := win_length hn hall
      have hwin : ∀ i x, l'[i]? = some x → Rd C.w (C.Sf f') y' x ((((cs.toList.drop off).take (l'.length * y'.width)).drop (i * y'.width)).take y'.width) := by
        intro i x hx
        have h1 := hall i x hx
        have hi := (List.getElem?_eq_some_iff.1 hx).1
        have h2 : (i + 1) * y'.width ≤ l'.length * y'.width := Nat.mul_le_mul_right _ hi
        rw [Nat.add_mul, Nat.one_mul] at h2
        rw [List.drop_take, List.take_take, List.drop_drop, Nat.min_eq_left (by omega)]
        exact h1
      have hnl : ((cs.toList.drop off).take (l'.length * y'.width)).length = l'.length * y'.width := by rw [List.length_take, List.length_drop]; omega
      refine ⟨(cs.toList.drop off).take (l'.length * y'.width), Src.ofSlice _ hk ⟨g, off, none⟩ _ cap _ hnl (fun j u hu => ?_) (win_one hnl hwin), fun i x hx => (hwin i x hx).orFlat⟩
      rw [addr_add, cell_at hg]
      rw [List.getElem?_take] at hu
      split at hu
      · rw [List.getElem?_drop] at hu; exact hu
      · cases hu
  · rename_i b
    split at h
    case h_2 => cases h
    rename_i y' ety l' f' hb
    split at h
    case isFalse => cases h
    rename_i e
    cases h
    subst e
    change ∃ news, Src P y'.width tx v l'.length news C.w ∧ ∀ i x, l'[i]? = some x → _
    rw [← hh] at hb
    obtain ⟨_, _, hs⟩ := (hp : CellR C (.own b) v)
    have hv := hs y' l'.length (by simp [shp, hb])
    obtain ⟨xs, hown, _, hrd⟩ := hH.blk b _ hb
    rw [← hv] at hown
    refine ⟨xs, ?_, fun i x hx => (hrd i x hx).orFlat⟩
    rcases hown.parts.2 with ⟨hn, rfl, A, rfl⟩ | ⟨g, cap, cur, rfl, hg, hnc, _, _, htk⟩
    · rw [hn]
      cases A with
      | none => exact Src.ofNil _ hk 0
      | some a => exact Src.ofSlice _ hk a 0 0 [] (by simp) (by simp) (by simp)
    · refine Src.ofSlice _ hk ⟨g, 0, none⟩ _ cap xs hown.parts.1 (fun j u hu => ?_) (win_one hown.parts.1 hrd)
      rw [addr_add, cell_at hg, Nat.zero_add]
      rw [← htk, List.getElem?_take] at hu
      split at hu
      · exact hu
      · cases hu
  · cases h

theorem win_append {w : World} {S : Nat → Prop} {t : Ty} {l l2 : List t.den} {xs news : List Value} (hx : xs.length = l.length * t.width) (h1 : ∀ i x, l[i]? = some x → Rd w S t x ((xs.drop (i * t.width)).take t.width))
    (h2 : ∀ i x, l2[i]? = some x → Rd w S t x ((news.drop (i * t.width)).take t.width)) : ∀ i x, (l ++ l2)[i]? = some x → Rd w S t x (((xs ++ news).drop (i * t.width)).take t.width) := by
  intro i x hi
  rw [List.getElem?_append] at hi
  split at hi
  · rename_i hlt
    have h3 : (i + 1) * t.width ≤ l.length * t.width := Nat.mul_le_mul_right _ hlt
    rw [Nat.add_mul, Nat.one_mul] at h3
    rw [List.drop_append_of_le_length (by omega), List.take_append_of_le_length (by rw [List.length_drop]; omega)]
    exact h1 i x hi
  · rename_i hge
    have h3 : l.length * t.width ≤ i * t.width := Nat.mul_le_mul_right _ (by omega)
    rw [List.drop_append, List.drop_eq_nil_of_le (by omega), List.nil_append, hx, ← Nat.sub_mul]
    exact h2 _ x hi

section
variable {T : Nat → Option TI} (hT : TOK P T) {s : St} {nt : Nat} {a : Act} (hH : HeapR C) (hh : C.H = s.heap) (ht : TR C nt s.tmps a)
include hT hH hh ht

theorem append_r {k : AV → List Blk → Option R} {dst : Option Tmp} {type : TypeId} {pos : String} {after : Array Edge} {guard : Option (Nat × Bool)} {t t2 : Nat} {d x : Operand}
    (h : appendK T s t t2 (s.ev d) (s.ev x) k = some r) : GoodO P C r k a ⟨dst, .call ⟨.builtin .append, #[d, x], #[t, t2]⟩, type, pos, after, guard⟩ := by
  unfold appendK at h
  split at h
  case h_2 => cases h
  rename_i ti ti2 hti hti2
  obtain ⟨_, d1, hu, _, hd⟩ := hT t ti hti
  obtain ⟨_, d2, hu2, _, hd2⟩ := hT t2 ti2 hti2
  split at h
  case h_2 => cases h
  rename_i e e2 hk hk2
  rw [hk] at hd
  rw [hk2] at hd2
  obtain rfl : d1 = .slice e := hd
  obtain rfl : d2 = .slice e2 := hd2
  split at h
  · cases h
  rename_i te hte
  have hok := hT e te hte
  obtain ⟨⟨i, zv, hi, hs, hby, hz, hzs, hzr⟩, _⟩ := id hok
  split at h
  · cases h
  rename_i y hyt
  obtain ⟨hw, h⟩ := beq_cond h
  split at h
  · cases h
  rename_i f l hrows
  obtain ⟨news, hsrc, hrd⟩ := rowsOf_r hH hh (ev_r ht x) hrows hu2
  have hbnd : ∀ n, n < 140737488355328 / te.bytes → n ≤ maxLen ∧ n * i.bytes ≤ 140737488355328 := by
    intro n hn
    have h1 := Nat.div_le_self 140737488355328 te.bytes
    refine ⟨by unfold maxLen; omega, ?_⟩
    rw [hby]
    exact Nat.le_trans (Nat.mul_le_mul_right _ (Nat.le_of_lt hn)) (Nat.div_mul_le_self _ _)
  rw [← hs] at hw
  have hsrc' : Src P i.size t2 (a.eval x) l.length news C.w := by rw [hw]; exact hsrc
  have hrun : ∀ v' w', (Builtin.append_ #[t, t2] type #[a.eval d, a.eval x]).run P C.w = .ok v' w' → (execOp a.eval ⟨dst, .call ⟨.builtin .append, #[d, x], #[t, t2]⟩, type, pos, after, guard⟩).run P C.w = .ok (.value v') w' := by
    intro v' w' h
    simp [execOp, resolve, invoke, builtin, h]
  -- onto nothing
  have onto : (∃ A, a.eval d = .slice A 0 0) → l.length < 140737488355328 / te.bytes → k (.c (.own s.heap.length)) (s.heap ++ [.arr y e l f]) = some r →
      GoodO P C r k a ⟨dst, .call ⟨.builtin .append, #[d, x], #[t, t2]⟩, type, pos, after, guard⟩ := by
    rintro ⟨A, hA⟩ hlt hkk
    obtain ⟨hb1, hb2⟩ := hbnd _ hlt
    obtain ⟨v', w', h1, h2, h3, h4, h5, h6, h7, h8, h9⟩ := append_run (P := P) (ty := type) (v := .slice A 0 0) (n := 0) (xs := []) hu hi hz (hzs.trans hs.symm) (.inr ⟨rfl, rfl, A, rfl⟩) hsrc' (by simpa using hb1) (by simpa using hb2)
    rw [← hA] at h1
    simp only [Nat.zero_add, List.nil_append] at h2
    have hno : ownB (.slice A 0 0) = none := by cases A <;> rfl
    obtain ⟨k1, k2, k3⟩ := hH.grow (w' := w') (H1 := C.H) (blk := .arr y e l f) (v' := v') none rfl (fun i x hx => .inr hx) h3 h4 h5 h6 (fun k hk _ => h7 k hk (by rw [hno]; simp)) (by simp)
      (fun g hg => .inr ((h8 g hg).resolve_left (by rw [hno]; simp))) rfl (fun hle => ⟨news, by show OwnR w' e y.width (if C.H.length = C.H.length then v' else C.ρ C.H.length) l.length news; rw [if_pos rfl, ← hw]; exact h2, fun _ g hg => by
        have hg : ownB (if C.H.length = C.H.length then v' else C.ρ C.H.length) = some g := hg
        rw [if_pos rfl] at hg
        exact Nat.le_trans hH.base ((h8 g hg).resolve_left (by rw [hno]; simp)), fun j u hu => Rd.mono (hle.Sf f) (fun b hb => hle.heap b hb.1) _ _ _ (hrd j u hu)⟩)
    refine .val (C' := _) (v := v') ?_ k1 k2 k3 (av := .c (.own C.H.length)) ?_ (hrun _ _ h1)
    · simpa [hh] using hkk
    · exact ⟨h9, by simp, fun t n hs => by simp⟩
  have hdv := ev_r ht d
  split at h
  · rename_i hd'
    rw [hd'] at hdv
    split at h
    case isFalse => cases h
    exact onto ⟨none, hdv⟩ ‹_› h
  · rename_i hd'
    rw [hd'] at hdv
    split at h
    case isFalse => cases h
    exact onto hdv ‹_› h
  · rename_i b hd'
    rw [hd'] at hdv
    split at h
    case h_2 => cases h
    rename_i y' e' l' f' hb
    obtain ⟨he, h⟩ := beq_cond h
    subst he
    split at h
    case isFalse => cases h
    rename_i ey
    subst ey
    split at h
    case isFalse => cases h
    rename_i hlt
    change l'.length + l.length < _ at hlt
    change k _ (s.heap.set b .dead ++ [.arr y' e' (l' ++ l) (f' && f)]) = some r at h
    rw [← hh] at hb h
    obtain ⟨_, hbl, hps⟩ := hdv
    have hsh : shp C.H b = some (.arr y' l'.length) := by simp [shp, hb]
    have hv := hps _ _ hsh
    obtain ⟨xs, hown, hfr, hrd'⟩ := hH.blk b _ hb
    rw [← hv, ← hw] at hown
    obtain ⟨hb1, hb2⟩ := hbnd _ hlt
    obtain ⟨v', w', h1, h2, h3, h4, h5, h6, h7, h8, h9⟩ := append_run (P := P) (ty := type) hu hi hz (hzs.trans hs.symm) hown hsrc' hb1 hb2
    have hlive : shp C.H b ≠ none := by rw [hsh]; simp
    rw [hv] at h7 h8
    have hxl := hown.parts.1
    rw [hw] at hxl
    obtain ⟨k1, k2, k3⟩ := hH.grow (w' := w') (H1 := C.H.set b .dead) (blk := .arr y' e' (l' ++ l) (f' && f)) (v' := v') (ownB (C.ρ b)) (by simp) (fun i x hx => by
        by_cases e : b = i
        · subst e
          rw [List.getElem?_set_self hbl] at hx
          cases hx
          exact .inl rfl
        · rw [List.getElem?_set_ne e] at hx
          exact .inr hx) h3 h4 h5 h6 h7 (fun g hg => ⟨(hH.own b g hlive hg).1, (hH.own b g hlive hg).2, fun j hj hgj => by
            have hne : b ≠ j := by
              intro e
              subst e
              exact hj (by simp [shp, hbl])
            have hj' : shp C.H j ≠ none := by
              unfold shp at hj ⊢
              rw [List.getElem?_set_ne hne] at hj
              exact hj
            exact hne (hH.inj b j g hlive hj' hg hgj)⟩)
      h8 rfl (fun hle => by
        refine ⟨xs ++ news, by show OwnR w' e' y'.width (if C.H.length = C.H.length then v' else C.ρ C.H.length) (l' ++ l).length (xs ++ news); rw [if_pos rfl, ← hw, List.length_append]; exact h2, fun e g hg => ?_, win_append hxl (fun j u hu => ?_) (fun j u hu => ?_)⟩
        · have hg : ownB (if C.H.length = C.H.length then v' else C.ρ C.H.length) = some g := hg
          rw [if_pos rfl] at hg
          rw [Bool.and_eq_true] at e
          rcases h8 g hg with h | h
          · exact hfr e.1 g h
          · exact Nat.le_trans hH.base h
        · exact Rd.mono (S := C.Sf f') (fun b hb => ⟨hle.S b hb.1, fun e => by rw [Bool.and_eq_true] at e; exact hb.2 e.1⟩) (fun b hb => hle.heap b hb.1) _ _ _ (hrd' j u hu)
        · exact Rd.mono (S := C.Sf f) (fun b hb => ⟨hle.S b hb.1, fun e => by rw [Bool.and_eq_true] at e; exact hb.2 e.2⟩) (fun b hb => hle.heap b hb.1) _ _ _ (hrd j u hu))
    refine .val (C' := _) (v := v') ?_ k1 k2 k3 (av := .c (.own C.H.length)) ?_ (hrun _ _ h1)
    · simpa [hh] using h
    · exact ⟨h9, by simp, fun t n hs => by simp⟩
  · cases h
end
end
end Go.Proofs.YtgagpmiooeoodaaGreat.A
