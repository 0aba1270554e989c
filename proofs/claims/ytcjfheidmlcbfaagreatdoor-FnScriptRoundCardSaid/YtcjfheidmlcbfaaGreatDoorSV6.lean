/- append, and bytes out of a string, are sound. -/
import Derived.Test.YtcjfheidmlcbfaaGreatDoorSV5
import Derived.Lib.ConvBytes
set_option linter.unusedVariables false
set_option linter.unusedSimpArgs false
set_option linter.unusedSectionVars false
namespace Go.Proofs.YtcjfheidmlcbfaaGreatDoor.V
open Go.RowKit

/-- The room of a slice. -/
def rmOf (v : Value) (wd : Nat) : Foot :=
  match v with
  | .slice (some a) _ cap => roomF a.block a.off (cap * wd)
  | _ => fun _ _ => False

/-- A row of the call's own: what cells its elements are. -/
def OwnV (w : World) (F : Foot) (v : Value) (n wd : Nat) (xs : List Value) : Prop :=
  (n = 0 ∧ xs = [] ∧ ∃ A, v = .slice A 0 0) ∨ ∃ g off cap, Room w F wd v n g off cap ∧ AtW w g off xs ∧ xs.length = n * wd

theorem OwnV.length {w : World} {F : Foot} {v : Value} {n wd : Nat} {xs : List Value} (h : OwnV w F v n wd xs) : xs.length = n * wd := by
  rcases h with ⟨rfl, rfl, _⟩ | ⟨_, _, _, _, _, h⟩
  · simp
  · exact h

section
variable {P : Program} {R : Type} {C : Cx} {r : R}

theorem append_run {w : World} {t tx ty e : TypeId} {i : TypeInfo} {z : Value} (ht : P.underlying t = some (.slice e)) (hi : P.info? e = some i) (hz : i.zero = some z) (hzs : z.cells.size = i.size)
    {v : Value} {n : Nat} {xs : List Value} {F : Foot} (hown : OwnV w F v n i.size xs) {x : Value} {m : Nat} {news : List Value} (hs : Src P i.size tx x m news w) (h63 : n + m ≤ maxLen) (hb : (n + m) * i.bytes ≤ 140737488355328) :
    ∃ v' w', (Builtin.append_ #[t, tx] ty #[v, x]).run P w = .ok v' w' ∧ Chg w w' (rmOf v i.size) ∧ OwnV w' (fun g p => rmOf v i.size g p ∨ (w.heap.size ≤ g ∧ g < w'.heap.size)) v' (n + m) i.size (xs ++ news) ∧ v'.oneCell' = true := by
  have hnl := hs.newsLen
  have hxl := hown.length
  by_cases hm : m = 0
  · subst hm
    obtain rfl : news = [] := List.eq_nil_of_length_eq_zero (by simpa using hnl)
    have key : ∀ base cap, v = .slice base n cap → n ≤ cap → (Builtin.append_ #[t, tx] ty #[v, x]).run P w = .ok v w := by
      intro base cap hv hle
      rw [hv]
      exact run_append_nothing (P := P) w t tx ty e i ht hi base n cap hle x hs
    rcases hown with ⟨rfl, rfl, A, hv⟩ | ⟨g, off, cap, hr, hat, _⟩
    · exact ⟨v, w, key A 0 hv (Nat.le_refl _), .refl _ _, .inl ⟨rfl, rfl, A, hv⟩, by rw [hv]; rfl⟩
    · refine ⟨v, w, key _ cap hr.val hr.len, .refl _ _, .inr ⟨g, off, cap, ⟨hr.val, hr.cur, hr.len, hr.most, fun p q1 q2 => .inl ?_⟩, by simpa using hat, by simpa using hxl⟩, by rw [hr.val]; rfl⟩
      rw [hr.val]
      exact ⟨rfl, q1, q2⟩
  have grown : ∀ (base : Option Addr) (cap : Nat), v = .slice base n cap → cap < n + m → (Builtin.firstCells i.size n (.slice base n cap)).run P w.drew = .ok xs.toArray w.drew →
      ∃ v' w', (Builtin.append_ #[t, tx] ty #[v, x]).run P w = .ok v' w' ∧ Chg w w' (rmOf v i.size) ∧ OwnV w' (fun g p => rmOf v i.size g p ∨ (w.heap.size ≤ g ∧ g < w'.heap.size)) v' (n + m) i.size (xs ++ news) ∧ v'.oneCell' = true := by
    intro base cap hv hlt hold
    have hr := run_append_grow_src (P := P) w t tx ty e i z ht hi hz base n cap xs hold x m news hs hlt (by unfold maxLen at h63; omega) (growslice_fits hlt hb)
    rw [← hv] at hr
    have hge := grownCap_ge w (n + m) cap e
    have hlen : (xs ++ news).length = (n + m) * i.size := by rw [List.length_append, hxl, hnl, Nat.add_mul]
    have hnew := heap_alloc_new w.drew (.cells ((xs ++ news).toArray ++ Builtin.zeroCells z.cells (grownCap w (n + m) cap e - (n + m))) e)
    have hbel : Below w.heap.size w (w.drew.alloc (.cells ((xs ++ news).toArray ++ Builtin.zeroCells z.cells (grownCap w (n + m) cap e - (n + m))) e)) := ⟨rfl, rfl, rfl, by simp, fun k hk => heap_alloc_old w.drew _ k hk⟩
    refine ⟨_, _, hr, .of_below hbel _, .inr ⟨w.heap.size, 0, _, ⟨rfl, ⟨_, e, hnew, ?_⟩, hge, grownCap_le_maxLen w _ _ e h63, fun p _ _ => .inr ⟨Nat.le_refl _, by simp⟩⟩, fun j u hj => ?_, hlen⟩, rfl⟩
    · rw [Array.size_append, size_zeroCells, hzs, List.size_toArray, hlen, ← Nat.add_mul]
      rw [show n + m + (grownCap w (n + m) cap e - (n + m)) = grownCap w (n + m) cap e by omega]
      omega
    · have hnew' : (w.drew.alloc (.cells ((xs ++ news).toArray ++ Builtin.zeroCells z.cells (grownCap w (n + m) cap e - (n + m))) e)).heap[w.heap.size]? = _ := hnew
      rw [cell_at hnew', Array.toList_append, Nat.zero_add, List.getElem?_append_left (by have := (List.getElem?_eq_some_iff.1 hj).1; simpa using this)]
      exact hj
  rcases hown with ⟨hn, hx, A, hv⟩ | ⟨g, off, cap, hroom, hat, _⟩
  · refine grown A 0 (by rw [hv, hn]) (by omega) ?_
    rw [hn, hx]
    cases A with
    | none => exact run_firstCells_none w.drew _ _ _ _
    | some a => exact run_firstCells_some w.drew _ 0 a 0 0 [] (by simp) (by simp)
  · obtain ⟨cur, e', hg, hcs⟩ := hroom.cur
    have hv := hroom.val
    by_cases hr : n + m ≤ cap
    · have hfit : off + n * i.size + news.length ≤ cur.size := by
        have : (n + m) * i.size ≤ cap * i.size := Nat.mul_le_mul_right _ hr
        rw [Nat.add_mul] at this
        omega
      have hst := run_storeCells_at P g (off + n * i.size) e' news 0 cur w hg (by simpa using hfit) hs.one
      simp only [Nat.add_zero] at hst
      have hrun : (Builtin.append_ #[t, tx] ty #[v, x]).run P w = .ok (.slice (some (at_ g off)) (n + m) cap) (w.setRow g (laid cur (off + n * i.size) news)) := by
        rw [hv]
        rcases hs.kind with ⟨e', hk⟩ | hk <;> simp [Builtin.append_, run_underlying ht, run_underlying hk, sizeOf, typeInfo, hi, hs.len, hr, hs.cells, addr_add, hst, laid]
      have hlen : (xs ++ news).length = (n + m) * i.size := by rw [List.length_append, hxl, hnl, Nat.add_mul]
      have hin : ∀ p, off ≤ p → p < off + cap * i.size → rmOf v i.size g p := fun p q1 q2 => by rw [hv]; exact ⟨rfl, q1, q2⟩
      refine ⟨_, _, hrun, (laid_chg hg hfit).mono fun g' p hf => ?_, .inr ⟨g, off, cap, ⟨rfl, ⟨laid cur (off + n * i.size) news, e', laid_heap hg hfit, by rw [laid_size hg hfit]; exact hcs⟩, hr, hroom.most, fun p q1 q2 => .inl (hin p q1 q2)⟩, fun j u hj => ?_, hlen⟩, rfl⟩
      · obtain ⟨rfl, q1, q2⟩ := hf
        refine hin p (by omega) ?_
        have : (n + m) * i.size ≤ cap * i.size := Nat.mul_le_mul_right _ hr
        rw [Nat.add_mul] at this
        omega
      · rw [List.getElem?_append] at hj
        split at hj
        · rw [laid_out hg hfit fun e => by omega]
          exact hat j u hj
        · have hjl := (List.getElem?_eq_some_iff.1 hj).1
          rw [laid_in hg hfit (by omega) (by omega), ← hj]
          congr 1
          omega
    · refine grown _ cap hv (by omega) (run_firstCells_some w.drew _ n _ n cap xs hxl fun j u hu => ?_)
      rw [addr_add]
      exact hat j u hu

/-- Element i's cells among a row's. -/
abbrev win (xs : List Value) (wd i : Nat) : List Value := (xs.drop (i * wd)).take wd

/-- What a row's cells stand for. -/
def RelL (C : Cx) (m : Md) (t : Ty) (l : List t.den) (xs : List Value) (F Rm : Foot) : Prop :=
  match m with
  | .un => ∃ G : Nat → Foot, (∀ i g p, G i g p → F g p ∧ ¬ Rm g p) ∧ (∀ i j g p, G i g p → G j g p → i = j) ∧ ∀ i x, l[i]? = some x → RdU C.w t x (win xs t.width i) (G i)
  | .fr => ∀ i x, l[i]? = some x → Rd C.w (C.Sf true) t x (win xs t.width i)
  | .sh => ∀ i x, l[i]? = some x → Rd C.w (C.Sf false) t x (win xs t.width i)

/-- A row of the call's own by its cells. -/
theorem row_xs (hH : HeapR C) {b : Nat} {t : Ty} {l : List t.den} {m : Md} {ver : Nat} (hb : C.H[b]? = some (.arr t l m ver none)) :
    ∃ xs, OwnV C.w (C.fp b) (C.ρ b) l.length t.width xs ∧ RelL C m t l xs (C.fp b) (rmOf (C.ρ b) t.width) := by
  obtain ⟨_, _, _, hrow⟩ := hH.blk b _ hb
  rcases hrow with ⟨rfl, A, hA⟩ | ⟨g, off, cap, hr, hels⟩
  · refine ⟨[], .inl ⟨rfl, rfl, A, hA⟩, ?_⟩
    cases m with
    | un => exact ⟨fun _ _ _ => False, fun _ _ _ h => h.elim, fun _ _ _ _ h => h.elim, fun i x hx => by simp at hx⟩
    | fr => exact fun i x hx => by simp at hx
    | sh => exact fun i x hx => by simp at hx
  · obtain ⟨cur, e, hg, hcs⟩ := hr.cur
    have hle : l.length * t.width ≤ cap * t.width := Nat.mul_le_mul_right _ hr.len
    have hxl : ((cur.toList.drop off).take (l.length * t.width)).length = l.length * t.width := by rw [List.length_take, List.length_drop]; simp; omega
    have hat : AtW C.w g off ((cur.toList.drop off).take (l.length * t.width)) := fun j u hj => by
      rw [cell_at hg]
      rw [List.getElem?_take] at hj
      split at hj
      · rw [List.getElem?_drop] at hj; exact hj
      · cases hj
    have hwin : ∀ i x us, l[i]? = some x → us.length = t.width → AtW C.w g (off + i * t.width) us → us = win ((cur.toList.drop off).take (l.length * t.width)) t.width i := by
      intro i x us hx hl hu
      have hi := (List.getElem?_eq_some_iff.1 hx).1
      have h2 : (i + 1) * t.width ≤ l.length * t.width := Nat.mul_le_mul_right _ hi
      rw [Nat.add_mul, Nat.one_mul] at h2
      apply List.ext_getElem?
      intro j
      by_cases hj : j < t.width
      · have h3 := hu j _ (List.getElem?_eq_getElem (by omega : j < us.length))
        rw [List.getElem?_eq_getElem (by omega : j < us.length), ← h3, cell_at hg]
        unfold win
        rw [List.getElem?_take_of_lt hj, List.getElem?_drop, List.getElem?_take_of_lt (by omega), List.getElem?_drop]
        congr 1
        omega
      · rw [List.getElem?_eq_none (by omega), List.getElem?_eq_none (by unfold win; simp; omega)]
    have hrm : ∀ p, rmOf (C.ρ b) t.width g p ↔ off ≤ p ∧ p < off + cap * t.width := fun p => by
      rw [hr.val]
      exact ⟨fun h => h.2, fun h => ⟨rfl, h⟩⟩
    have hrm' : ∀ g' p, rmOf (C.ρ b) t.width g' p → g' = g := fun g' p h => by
      rw [hr.val] at h
      exact h.1
    refine ⟨_, .inr ⟨g, off, cap, hr, hat, hxl⟩, ?_⟩
    cases m with
    | un =>
      obtain ⟨G, hn, hx⟩ := hels
      refine ⟨G, fun i g' p hG => ⟨hn.sub i g' p hG, fun h => ?_⟩, hn.inj, fun i x hxi => ?_⟩
      · have := hrm' g' p h
        subst this
        obtain ⟨q1, q2⟩ := (hrm p).1 h
        exact hn.out i p hG q1 q2
      · obtain ⟨us, h1, h2⟩ := hx i x hxi
        rw [← hwin i x us hxi h2.length h1]
        exact h2
    | fr =>
      intro i x hxi
      obtain ⟨us, h1, h2⟩ := hels i x hxi
      rw [← hwin i x us hxi h2.length h1]
      exact h2
    | sh =>
      intro i x hxi
      obtain ⟨us, h1, h2⟩ := hels i x hxi
      rw [← hwin i x us hxi h2.length h1]
      exact h2

theorem win_left {xs news : List Value} {wd n i : Nat} (hx : xs.length = n * wd) (hi : i < n) : win (xs ++ news) wd i = win xs wd i := by
  have h3 : (i + 1) * wd ≤ n * wd := Nat.mul_le_mul_right _ hi
  rw [Nat.add_mul, Nat.one_mul] at h3
  unfold win
  rw [List.drop_append_of_le_length (by omega), List.take_append_of_le_length (by rw [List.length_drop]; omega)]
theorem win_right {xs news : List Value} {wd n i : Nat} (hx : xs.length = n * wd) (hi : n ≤ i) : win (xs ++ news) wd i = win news wd (i - n) := by
  have h3 : n * wd ≤ i * wd := Nat.mul_le_mul_right _ hi
  unfold win
  rw [List.drop_append, List.drop_eq_nil_of_le (by omega), List.nil_append, hx, ← Nat.sub_mul]

theorem win_one {w : World} {S : Foot} {t : Ty} {l : List t.den} {news : List Value} (hl : news.length = l.length * t.width) (h : ∀ i x, l[i]? = some x → Rd w S t x (win news t.width i)) : ∀ u ∈ news, u.oneCell' = true := by
  intro u hu
  obtain ⟨j, hj⟩ := List.getElem?_of_mem hu
  have hjl := (List.getElem?_eq_some_iff.1 hj).1
  have hp := t.width_pos
  have hi : j / t.width < l.length := (Nat.div_lt_iff_lt_mul hp).2 (by omega)
  refine (h (j / t.width) _ (List.getElem?_eq_getElem hi)).one _ _ _ u (List.mem_of_getElem? (i := j % t.width) ?_)
  unfold win
  rw [List.getElem?_take, if_pos (Nat.mod_lt _ hp), List.getElem?_drop, Nat.mul_comm, Nat.div_add_mod]
  exact hj

theorem RelL.rd (hH : HeapR C) {b : Nat} (hl : live C b) {m : Md} {t : Ty} {l : List t.den} {xs : List Value} {Rm : Foot} (h : RelL C m t l xs (C.fp b) Rm) : ∀ i x, l[i]? = some x → Rd C.w (fun _ _ => True) t x (win xs t.width i) := by
  intro i x hx
  cases m with
  | un => obtain ⟨G, h1, h2, h3⟩ := h; exact RdU.rd _ _ _ _ (fun _ _ _ => trivial) (h3 i x hx)
  | fr => exact Rd.mono (fun _ _ _ => trivial) (fun _ _ _ _ h => h) _ _ _ (h i x hx)
  | sh => exact Rd.mono (fun _ _ _ => trivial) (fun _ _ _ _ h => h) _ _ _ (h i x hx)

/-- A row's cells, laid one behind the other. -/
theorem lay_rows {w : World} {S : Foot} {y : Ty} {g : Nat} : ∀ (l : List y.den) (off : Nat), (∀ i x, l[i]? = some x → ∃ us, At w S g (off + i * y.width) us ∧ Rd w S y x us) →
    ∃ news : List Value, news.length = l.length * y.width ∧ AtW w g off news ∧ ∀ i x, l[i]? = some x → Rd w S y x (win news y.width i)
  | [], off, _ => ⟨[], by simp, fun j u hj => by simp at hj, fun i x hx => by simp at hx⟩
  | x :: l, off, hall => by
    obtain ⟨us, h1, h2⟩ := hall 0 x rfl
    obtain ⟨news, h3, h4, h5⟩ := lay_rows l (off + y.width) (fun i z hz => by
      obtain ⟨us', q1, q2⟩ := hall (i + 1) z (by simpa using hz)
      rw [Nat.add_mul, Nat.one_mul] at q1
      exact ⟨us', by rw [show off + y.width + i * y.width = off + (i * y.width + y.width) by omega]; exact q1, q2⟩)
    have hul := h2.length
    refine ⟨us ++ news, by rw [List.length_append, h3, hul, List.length_cons, Nat.add_mul]; omega, fun j u hj => ?_, fun i z hz => ?_⟩
    · rw [List.getElem?_append] at hj
      split at hj
      · have := (h1 j u hj).2
        simpa using this
      · have := h4 _ u hj
        rw [show off + y.width + (j - us.length) = off + j by omega] at this
        exact this
    · cases i with
      | zero =>
        simp at hz
        subst hz
        unfold win
        rw [Nat.zero_mul, List.drop_zero, List.take_append_of_le_length (by omega), List.take_of_length_le (by omega)]
        exact h2
      | succ i =>
        have := h5 i z (by simpa using hz)
        have e := win_right (xs := us) (news := news) (wd := y.width) (n := 1) (i := i + 1) (by omega) (by omega)
        rw [e]
        exact this

/-- The source of an append: its cells, and what they stand for; the row (q) that is used up. -/
theorem rowsOf_r {s : St} (hH : HeapR C) (hh : C.H = s.heap) {y : Ty} {p : AV} {v : Value} (hp : AVR C p v) {m : Md} {q : Option Nat} {l : List y.den} (h : rowsOf s y p = some (m, q, l)) {tx e' : TypeId} (hk : P.underlying tx = some (.slice e')) :
    ∃ news, Src P y.width tx v l.length news C.w ∧ RelL C m y l news (fun g p => ∃ b, q = some b ∧ live C b ∧ C.fp b g p) (fun _ _ => False) ∧ ∀ b, q = some b → m = .un ∧ live C b := by
  have nilR : ∀ m : Md, RelL C m y [] [] (fun g p => ∃ b, q = some b ∧ live C b ∧ C.fp b g p) (fun _ _ => False) := fun m => by
    cases m with
    | un => exact ⟨fun _ _ _ => False, fun _ _ _ h => h.elim, fun _ _ _ _ h => h.elim, fun i x hx => by simp at hx⟩
    | fr => exact fun i x hx => by simp at hx
    | sh => exact fun i x hx => by simp at hx
  unfold rowsOf at h
  split at h
  · cases h
    obtain rfl : v = .slice none 0 0 := hp
    exact ⟨[], Src.ofNil _ hk 0, nilR _, fun b h => by cases h⟩
  · cases h
    obtain ⟨A, rfl⟩ := (hp : CellR C .emp v)
    cases A with
    | none => exact ⟨[], Src.ofNil _ hk 0, nilR _, fun b h => by cases h⟩
    | some a => exact ⟨[], Src.ofSlice _ hk a 0 0 [] (by simp) (by simp) (by simp), nilR _, fun b h => by cases h⟩
  · rename_i f' y' l'
    split at h
    case isFalse => cases h
    rename_i e
    subst e
    have h : some (cond y'.flat Md.un (mdOf f'), (none : Option Nat), l') = some (m, q, l) := h
    cases h
    obtain ⟨A, cap, hv, hlc, hne⟩ := (hp : Rd C.w (C.Sf f') (.sl y') l' [v])
    obtain rfl : v = _ := by simpa using hv
    by_cases hn : l' = []
    · subst hn
      cases A with
      | none => exact ⟨[], Src.ofNil _ hk cap, nilR _, fun b h => by cases h⟩
      | some a => exact ⟨[], Src.ofSlice _ hk a 0 cap [] (by simp) (by simp) (by simp), nilR _, fun b h => by cases h⟩
    · obtain ⟨g, off, rfl, hall⟩ := hne hn
      -- the cells, laid one behind the other
      obtain ⟨news, hnl, hat, hrd⟩ : ∃ news : List Value, news.length = l'.length * y'.width ∧ AtW C.w g off news ∧ ∀ i x, l'[i]? = some x → Rd C.w (C.Sf f') y' x (win news y'.width i) := by
        exact lay_rows l' off hall
      refine ⟨news, Src.ofSlice _ hk (at_ g off) _ cap _ hnl (fun j u hu => by rw [addr_add]; exact hat j u hu) (win_one hnl hrd), ?_, fun b h => by cases h⟩
      cases hfl : y'.flat
      · cases f' <;> exact hrd
      · exact ⟨fun _ _ _ => False, fun _ _ _ h => h.elim, fun _ _ _ _ h => h.elim, fun i x hx => Rd.rdU _ _ _ hfl (hrd i x hx)⟩
  · rename_i b
    split at h
    case h_2 => cases h
    rename_i y' l' m' ver hb
    split at h
    case isFalse => cases h
    rename_i e
    subst e
    have h : some (cond y'.flat (Md.un, (none : Option Nat), l') (m', cond m'.isUn (some b) none, l')) = some (m, q, l) := h
    rw [← hh] at hb
    obtain ⟨_, _, hv⟩ := (hp : CellR C (.own b) v)
    subst hv
    obtain ⟨xs, ho, hrel⟩ := row_xs hH hb
    have hlive := live_arr hb
    have hrd := hrel.rd hH hlive
    have hxl := ho.length
    have hsrc : Src P y'.width tx (C.ρ b) l'.length xs C.w := by
      rcases ho with ⟨hn, rfl, A, hA⟩ | ⟨g, off, cap, hr, hat, _⟩
      · rw [hn, hA]
        cases A with
        | none => exact Src.ofNil _ hk 0
        | some a => exact Src.ofSlice _ hk a 0 0 [] (by simp) (by simp) (by simp)
      · rw [hr.val]
        exact Src.ofSlice _ hk (at_ g off) _ cap xs hxl (fun j u hu => by rw [addr_add]; exact hat j u hu) (win_one hxl hrd)
    cases hfl : y'.flat
    · rw [hfl] at h
      simp only [cond_false, Option.some.injEq, Prod.mk.injEq] at h
      obtain ⟨rfl, rfl, rfl⟩ := h
      refine ⟨xs, hsrc, ?_, fun b' hb' => ?_⟩
      · cases m' with
        | un =>
          obtain ⟨G, h1, h2, h3⟩ := hrel
          exact ⟨G, fun i g p hG => ⟨⟨b, rfl, hlive, (h1 i g p hG).1⟩, fun h => h⟩, h2, h3⟩
        | fr => exact hrel
        | sh => exact hrel
      · cases m' with
        | un => cases hb'; exact ⟨rfl, hlive⟩
        | fr => cases hb'
        | sh => cases hb'
    · rw [hfl] at h
      simp only [cond_true, Option.some.injEq, Prod.mk.injEq] at h
      obtain ⟨rfl, rfl, rfl⟩ := h
      exact ⟨xs, hsrc, ⟨fun _ _ _ => False, fun _ _ _ h => h.elim, fun _ _ _ _ h => h.elim, fun i x hx => Rd.rdU _ _ _ hfl (hrd i x hx)⟩, fun b h => by cases h⟩
  · cases h

theorem OwnV.rm {w : World} {F : Foot} {v : Value} {n wd : Nat} {xs : List Value} (h : OwnV w F v n wd xs) : ∀ g p, rmOf v wd g p → F g p := by
  intro g p hr
  rcases h with ⟨_, _, A, rfl⟩ | ⟨g', off, cap, h1, _, _⟩
  · cases A with
    | none => exact hr.elim
    | some a => obtain ⟨_, q1, q2⟩ := hr; omega
  · rw [h1.val] at hr
    obtain ⟨rfl, q1, q2⟩ := hr
    exact h1.foot p q1 q2

def liveB (H : List Blk) (b : Nat) : Bool := match H[b]? with | some x => x.live | none => false

/-- What an append makes. -/
theorem HeapR.app (hH : HeapR C) {y : Ty} {l' l : List y.den} {m' m : Md} {b0 q : Option Nat} {v0 v' : Value} {xs news : List Value} {F0 : Foot} {w' : World} {H1 : List Blk}
    (hF0 : ∀ g p, F0 g p → ∃ b, b0 = some b ∧ live C b ∧ C.fp b g p) (hx : OwnV C.w F0 v0 l'.length y.width xs) (hr : RelL C m' y l' xs F0 (rmOf v0 y.width)) (hnl : news.length = l.length * y.width)
    (hr2 : RelL C m y l news (fun g p => ∃ b, q = some b ∧ live C b ∧ C.fp b g p) (fun _ _ => False)) (hne : ∀ b, b0 = some b → q ≠ some b)
    (hchg : Chg C.w w' (rmOf v0 y.width)) (ho : OwnV w' (fun g p => rmOf v0 y.width g p ∨ (C.w.heap.size ≤ g ∧ g < w'.heap.size)) v' (l'.length + l.length) y.width (xs ++ news)) (hv1 : v'.oneCell' = true)
    (hlen : H1.length = C.H.length) (hH1 : ∀ i x, H1[i]? = some x → x ≠ .dead → C.H[i]? = some x ∧ b0 ≠ some i ∧ q ≠ some i) :
    ∃ C', C'.H = H1 ++ [.arr y (l' ++ l) (m'.join m) 0 none] ∧ C'.w = w' ∧ C.le C' ∧ HeapR C' ∧ Frm C C' ∧ AVR C' (.c (.own C.H.length)) v' := by
  have hxl := hx.length
  have hrm := hx.rm
  have hFq : ∀ g p, (∃ b, q = some b ∧ live C b ∧ C.fp b g p) → ¬ F0 g p := by
    rintro g p ⟨b, h1, h2, h3⟩ h4
    obtain ⟨b', k1, k2, k3⟩ := hF0 g p h4
    have := hH.inj b b' g p h2 k2 h3 k3
    subst this
    exact hne b k1 h1
  have hown : ∀ g p, (F0 g p ∨ ∃ b, q = some b ∧ live C b ∧ C.fp b g p) → ∃ b, (b0 = some b ∨ q = some b) ∧ live C b ∧ C.fp b g p := by
    rintro g p (h | ⟨b, h1, h2⟩)
    · obtain ⟨b, h1, h2⟩ := hF0 g p h; exact ⟨b, .inl h1, h2⟩
    · exact ⟨b, .inr h1, h2⟩
  have hk0 : ∀ G : Foot, (∀ g p, G g p → ¬ rmOf v0 y.width g p) → Kept C.w w' G := fun G h => hchg.kept h
  have hlt : ∀ g p, (F0 g p ∨ ∃ b, q = some b ∧ live C b ∧ C.fp b g p) → g < C.w.heap.size ∧ ¬ C.S g p ∧ C.Own g p := fun g p h => by
    obtain ⟨b, _, h2, h3⟩ := hown g p h
    obtain ⟨k1, k2, k3⟩ := hH.own b g p h2 h3
    exact ⟨k3, k1, k2⟩
  have hat : ∀ g' off', AtW w' g' off' (xs ++ news) → ∀ i, i < l'.length + l.length → AtW w' g' (off' + i * y.width) (win (xs ++ news) y.width i) := by
    intro g' off' h i hi j u hj
    unfold win at hj
    rw [List.getElem?_take] at hj
    split at hj
    case isFalse => cases hj
    rw [List.getElem?_drop] at hj
    rw [Nat.add_assoc]
    exact h _ u hj
  have vn' : Nat → Option Nat := fun b => if liveB H1 b then C.vn b else none
  have hstep : ∀ (S' Fn : Foot) (vnew : Option Nat) (C' : Cx), (∀ g p, C.S g p → S' g p) → (∀ g p, S' g p → C.S g p ∨ (F0 g p ∨ ∃ b, q = some b ∧ live C b ∧ C.fp b g p)) → (∀ v, vnew = some v → m'.join m = .un ∧ v = 0) →
      (∀ g p, Fn g p → ¬ S' g p ∧ ((F0 g p ∨ ∃ b, q = some b ∧ live C b ∧ C.fp b g p) ∨ (C.w.heap.size ≤ g ∧ g < w'.heap.size))) →
      C' = { C with w := w', S := S', H := H1 ++ [.arr y (l' ++ l) (m'.join m) 0 none], ρ := fun b => if b = C.H.length then v' else C.ρ b, fp := fun b => if b = C.H.length then Fn else C.fp b, sh := fun b => if b = C.H.length then some y else C.sh b, vn := fun b => if b = C.H.length then vnew else if liveB H1 b then C.vn b else none } →
      (C.le C' → BlkR C' C.H.length (.arr y (l' ++ l) (m'.join m) 0 none)) → C.le C' ∧ HeapR C' ∧ Frm C C' := by
    intro S' Fn vnew C' h1 h2 h3 h4 hC' h5
    refine hH.grow (F := rmOf v0 y.width) (fun i => b0 = some i ∨ q = some i) hchg (fun g p h => ?_) h1 (fun g p h => ?_) (fun g p h => ?_) hlen (fun i x hx hd => ?_) (fun b hb => ?_) (fun v hv => ?_) (fun g p h => ?_) hC' h5
    · exact hown g p (.inl (hrm g p h))
    · rcases h2 g p h with h | h
      · exact .inl h
      · exact .inr (.inl (hown g p h))
    · rcases h2 g p h with h | h
      · exact Nat.lt_of_lt_of_le (hH.st g p h) hchg.size
      · exact Nat.lt_of_lt_of_le (hlt g p h).1 hchg.size
    · obtain ⟨k1, k2, k3⟩ := hH1 i x hx hd
      refine ⟨k1, fun h => h.elim k2 k3, ?_⟩
      have : liveB H1 i = true := by unfold liveB; rw [hx]; cases x <;> first | rfl | exact absurd rfl hd
      rw [this]; rfl
    · have : liveB H1 b = false := by
        unfold liveB
        split
        · rename_i x hx; rw [hb x hx]; rfl
        · rfl
      rw [this]; rfl
    · obtain ⟨k1, rfl⟩ := h3 v hv
      exact ⟨y, l' ++ l, none, by rw [k1]⟩
    · obtain ⟨k1, k2⟩ := h4 g p h
      refine ⟨k1, ?_, ?_⟩
      · rcases k2 with k2 | k2
        · exact Nat.lt_of_lt_of_le (hlt g p k2).1 hchg.size
        · exact k2.2
      · rcases k2 with k2 | k2
        · exact .inl (hown g p k2)
        · exact .inr k2.1
  have hwin : ∀ i, i < l'.length → win (xs ++ news) y.width i = win xs y.width i := fun i hi => win_left hxl hi
  have hwin2 : ∀ i, l'.length ≤ i → win (xs ++ news) y.width i = win news y.width (i - l'.length) := fun i hi => win_right hxl hi
  have dem : ∀ f : Bool, m'.join m = mdOf f → (f = true → m'.isSh = false ∧ m.isSh = false) → ∃ C', C'.H = H1 ++ [.arr y (l' ++ l) (m'.join m) 0 none] ∧ C'.w = w' ∧ C.le C' ∧ HeapR C' ∧ Frm C C' ∧ AVR C' (.c (.own C.H.length)) v' := by
    intro f hj hf
    have := hstep (fun g p => C.S g p ∨ (F0 g p ∧ ¬ rmOf v0 y.width g p) ∨ ∃ b, q = some b ∧ live C b ∧ C.fp b g p) (fun g p => rmOf v0 y.width g p ∨ (C.w.heap.size ≤ g ∧ g < w'.heap.size)) none _ (fun _ _ h => .inl h) (fun g p h => by
      rcases h with h | h | h
      · exact .inl h
      · exact .inr (.inl h.1)
      · exact .inr (.inr h)) (fun v hv => by cases hv) (fun g p h => by
      rcases h with h | h
      · refine ⟨fun hs => ?_, .inl (.inl (hrm g p h))⟩
        rcases hs with hs | hs | hs
        · exact (hlt g p (.inl (hrm g p h))).2.1 hs
        · exact hs.2 h
        · exact hFq g p hs (hrm g p h)
      · refine ⟨fun hs => ?_, .inr h⟩
        rcases hs with hs | hs | hs
        · have := hH.st g p hs; omega
        · have := (hlt g p (.inl hs.1)).1; omega
        · have := (hlt g p (.inr hs)).1; omega) rfl (fun hle => by
        refine ⟨rfl, by simp, (fun e => by rw [hj] at e; cases f <;> cases e), ?_⟩
        rcases ho with ⟨hn, _, A, hA⟩ | ⟨g', off', cap', r1, r2, r3⟩
        · refine .inl ⟨List.eq_nil_of_length_eq_zero (by rw [List.length_append]; exact hn), A, by simpa using hA⟩
        · refine .inr ⟨g', off', cap', ⟨by simpa using r1.val, r1.cur, by rw [List.length_append]; exact r1.len, r1.most, fun p q1 q2 => ?_⟩, ?_⟩
          · simp only [if_true]
            exact r1.foot p q1 q2
          · -- an element out of either row
            have elem : ∀ {C' : Cx} (hle : C.le C') (hw : C'.w = w') (hS : ∀ g p, (F0 g p ∧ ¬ rmOf v0 y.width g p) ∨ (∃ b, q = some b ∧ live C b ∧ C.fp b g p) → C'.S g p) (m : Md) (u : y.den) (us : List Value), (f = true → m.isSh = false) →
                (match m with | .un => ∃ G : Foot, (∀ g p, G g p → (F0 g p ∧ ¬ rmOf v0 y.width g p) ∨ ∃ b, q = some b ∧ live C b ∧ C.fp b g p) ∧ RdU C.w y u us G | .fr => Rd C.w (C.Sf true) y u us | .sh => Rd C.w (C.Sf false) y u us) → Rd C'.w (C'.Sf f) y u us := by
              intro C' hle hw hS m u us hm h
              cases m with
              | un =>
                obtain ⟨G, h1, h2⟩ := h
                have hk := hk0 G fun g p hg hr => by
                  rcases h1 g p hg with h | h
                  · exact h.2 hr
                  · exact hFq g p h (hrm g p hr)
                rw [hw]
                refine RdU.rd _ _ _ _ (fun g p hg => ⟨hS g p (h1 g p hg), fun _ => hle.Own g p ?_⟩) (RdU.keep _ _ _ _ _ hk (fun _ _ h => h) h2)
                rcases h1 g p hg with h | h
                · exact (hlt g p (.inl h.1)).2.2
                · exact (hlt g p (.inr h)).2.2
              | fr => exact Rd.mono (fun g p hs => ⟨(hle.Sf _ g p hs).1, fun _ => (hle.Sf _ g p hs).2 rfl⟩) (hle.cell _) _ _ _ h
              | sh =>
                have : f = false := by cases f <;> first | rfl | (have := hm rfl; cases this)
                subst this
                exact Rd.mono (hle.Sf _) (hle.cell _) _ _ _ h
            have key : ∀ {C' : Cx} (hle : C.le C') (hw : C'.w = w') (hS : ∀ g p, (F0 g p ∧ ¬ rmOf v0 y.width g p) ∨ (∃ b, q = some b ∧ live C b ∧ C.fp b g p) → C'.S g p), ∀ i x, (l' ++ l)[i]? = some x → ∃ us, AtW C'.w g' (off' + i * y.width) us ∧ Rd C'.w (C'.Sf f) y x us := by
              intro C' hle hw hS i x hx
              have hi := (List.getElem?_eq_some_iff.1 hx).1
              rw [List.length_append] at hi
              refine ⟨_, by rw [hw]; exact hat g' off' r2 i hi, ?_⟩
              rw [List.getElem?_append] at hx
              split at hx
              · rename_i hi'
                rw [hwin i hi']
                refine elem hle hw hS m' x _ (fun e => (hf e).1) ?_
                cases m' with
                | un => obtain ⟨G, g1, g2, g3⟩ := hr; exact ⟨G i, fun g p h => .inl (g1 i g p h), g3 i x hx⟩
                | fr => exact hr i x hx
                | sh => exact hr i x hx
              · rename_i hi'
                rw [hwin2 i (by omega)]
                refine elem hle hw hS m x _ (fun e => (hf e).2) ?_
                cases m with
                | un => obtain ⟨G, g1, g2, g3⟩ := hr2; exact ⟨G _, fun g p h => .inr (g1 _ g p h).1, g3 _ x hx⟩
                | fr => exact hr2 _ x hx
                | sh => exact hr2 _ x hx
            have hk := key hle rfl (fun g p h => .inr h)
            unfold Els
            split
            · rename_i he; rw [hj] at he; cases f <;> cases he
            · rename_i he
              have : f = true := by rw [hj] at he; cases f <;> first | rfl | cases he
              subst this
              exact hk
            · rename_i he
              have : f = false := by rw [hj] at he; cases f <;> first | rfl | cases he
              subst this
              exact hk)
    exact ⟨_, rfl, rfl, this.1, this.2.1, this.2.2, hv1, by simp [hlen], by simp⟩
  cases hj : m'.join m with
  | un =>
    obtain ⟨rfl, rfl⟩ : m' = .un ∧ m = .un := by cases m' <;> cases m <;> first | exact ⟨rfl, rfl⟩ | cases hj
    obtain ⟨G, g1, g2, g3⟩ := hr
    obtain ⟨G2, e1, e2, e3⟩ := hr2
    have := hstep C.S (fun g p => F0 g p ∨ (∃ b, q = some b ∧ live C b ∧ C.fp b g p) ∨ (C.w.heap.size ≤ g ∧ g < w'.heap.size)) (some 0) _ (fun _ _ h => h) (fun _ _ h => .inl h) (fun v hv => by cases hv; exact ⟨rfl, rfl⟩) (fun g p h => by
      rcases h with h | h | h
      · exact ⟨(hlt g p (.inl h)).2.1, .inl (.inl h)⟩
      · exact ⟨(hlt g p (.inr h)).2.1, .inl (.inr h)⟩
      · exact ⟨fun hs => by have := hH.st g p hs; omega, .inr h⟩) rfl (fun hle => by
        refine ⟨rfl, by simp, fun _ => by simp, ?_⟩
        rcases ho with ⟨hn, _, A, hA⟩ | ⟨g', off', cap', r1, r2, r3⟩
        · refine .inl ⟨List.eq_nil_of_length_eq_zero (by rw [List.length_append]; exact hn), A, by simpa using hA⟩
        · refine .inr ⟨g', off', cap', ⟨by simpa using r1.val, r1.cur, by rw [List.length_append]; exact r1.len, r1.most, fun p q1 q2 => ?_⟩, fun i => if i < l'.length then G i else G2 (i - l'.length), ⟨fun i g p hG => ?_, fun i p hG q1 q2 => ?_, fun i j g p hG hG' => ?_⟩, fun i x hx => ⟨_, hat g' off' r2 i (by have := (List.getElem?_eq_some_iff.1 hx).1; rwa [List.length_append] at this), ?_⟩⟩
          · simp only [if_true]
            rcases r1.foot p q1 q2 with h | h
            · exact .inl (hrm _ _ h)
            · exact .inr (.inr h)
          · simp only [if_true]
            split at hG
            · exact .inl (g1 i g p hG).1
            · exact .inr (.inl (e1 _ g p hG).1)
          · have hf := r1.foot p q1 q2
            split at hG
            · rcases hf with h | h
              · exact (g1 i _ p hG).2 h
              · have := (hlt _ p (.inl (g1 i _ p hG).1)).1; omega
            · rcases hf with h | h
              · exact hFq _ p (e1 _ _ p hG).1 (hrm _ _ h)
              · have := (hlt _ p (.inr (e1 _ _ p hG).1)).1; omega
          · split at hG <;> split at hG'
            · exact g2 i j g p hG hG'
            · exact absurd (g1 i g p hG).1 (hFq g p (e1 _ g p hG').1)
            · exact absurd (g1 j g p hG').1 (hFq g p (e1 _ g p hG).1)
            · have := e2 _ _ g p hG hG'; omega
          · rw [List.getElem?_append] at hx
            split at hx
            · rename_i hi
              rw [hwin i hi]
              simp only [hi, if_true]
              exact RdU.keep _ _ _ _ _ (hk0 _ fun g p h => (g1 i g p h).2) (fun _ _ h => h) (g3 i x hx)
            · rename_i hi
              rw [hwin2 i (by omega)]
              simp only [hi, if_false]
              exact RdU.keep _ _ _ _ _ (hk0 _ fun g p h hr => hFq g p (e1 _ g p h).1 (hrm g p hr)) (fun _ _ h => h) (e3 _ x hx))
    rw [hj] at this
    exact ⟨_, rfl, rfl, this.1, this.2.1, this.2.2, hv1, by simp [hlen], by simp⟩
  | fr =>
    rw [← hj]
    exact dem true (by rw [hj]; rfl) fun _ => by cases m' <;> cases m <;> first | exact ⟨rfl, rfl⟩ | cases hj
  | sh =>
    rw [← hj]
    exact dem false (by rw [hj]; rfl) fun e => by cases e

section
variable {T : Nat → Option TI} (hT : TOK P T) {s : St} {nt : Nat} {a : Act} (hH : HeapR C) (hh : C.H = s.heap) (ht : TR C nt s.tmps a)
include hT hH hh ht

theorem append_r {k : AV → List Blk → Option R} {dst : Option Tmp} {type : TypeId} {pos : String} {after : Array Edge} {guard : Option (Nat × Bool)} {t t2 : Nat} {d x : Operand}
    (h : appendK T s t t2 (s.ev d) (s.ev x) k = some r) : GoodO P C r k a ⟨dst, .call ⟨.builtin .append, #[d, x], #[t, t2]⟩, type, pos, after, guard⟩ := by
  unfold appendK at h
  split at h
  case h_2 => cases h
  rename_i ti ti2 hti hti2
  obtain ⟨_, ⟨d1, hu, _, hd⟩, _⟩ := hT t ti hti
  obtain ⟨_, ⟨d2, hu2, _, hd2⟩, _⟩ := hT t2 ti2 hti2
  split at h
  case h_2 => cases h
  rename_i e e2 hk hk2
  rw [hk] at hd
  rw [hk2] at hd2
  obtain rfl : d1 = .slice e := hd
  obtain rfl : d2 = .slice e2 := hd2
  split at h
  · cases h
  rename_i te hte
  obtain ⟨⟨i, zv, hi, hs, hby, hz, hzs, hzr, hzu⟩, _⟩ := hT e te hte
  split at h
  · cases h
  rename_i y hyt
  obtain ⟨hw, h⟩ := beq_cond h
  split at h
  · cases h
  rename_i m q l hrows
  obtain ⟨news, hsrc, hrel2, hq⟩ := rowsOf_r hH hh (ev_r ht x) hrows hu2
  have hbnd : ∀ n, n < 140737488355328 / te.bytes → n ≤ maxLen ∧ n * i.bytes ≤ 140737488355328 := by
    intro n hn
    have h1 := Nat.div_le_self 140737488355328 te.bytes
    refine ⟨by unfold maxLen; omega, ?_⟩
    rw [hby]
    exact Nat.le_trans (Nat.mul_le_mul_right _ (Nat.le_of_lt hn)) (Nat.div_mul_le_self _ _)
  rw [← hs] at hw
  have hsrc' : Src P i.size t2 (a.eval x) l.length news C.w := by rw [hw]; exact hsrc
  have hrun : ∀ v' w', (Builtin.append_ #[t, t2] type #[a.eval d, a.eval x]).run P C.w = .ok v' w' → (execOp a.eval ⟨dst, .call ⟨.builtin .append, #[d, x], #[t, t2]⟩, type, pos, after, guard⟩).run P C.w = .ok (.value v') w' := by
    intro v' w' h
    simp [execOp, resolve, invoke, builtin, h]
  have hkill : ∀ i x, (killO s.heap q)[i]? = some x → x ≠ .dead → C.H[i]? = some x ∧ q ≠ some i := by
    intro i x hx hd
    cases q with
    | none => exact ⟨by rw [hh]; exact hx, by simp⟩
    | some b =>
      simp only [killO] at hx
      by_cases e : b = i
      · subst e
        rw [List.getElem?_set_self (by have := (List.getElem?_eq_some_iff.1 hx).1; simpa using this)] at hx
        cases hx
        exact absurd rfl hd
      · rw [List.getElem?_set_ne e] at hx
        exact ⟨by rw [hh]; exact hx, by simpa using e⟩
  have hklen : (killO s.heap q).length = C.H.length := by rw [hh]; cases q <;> simp [killO]
  -- onto nothing
  have onto : (∃ A, a.eval d = .slice A 0 0) → l.length < 140737488355328 / te.bytes → k (.c (.own s.heap.length)) (killO s.heap q ++ [.arr y l m 0 none]) = some r →
      GoodO P C r k a ⟨dst, .call ⟨.builtin .append, #[d, x], #[t, t2]⟩, type, pos, after, guard⟩ := by
    rintro ⟨A, hA⟩ hlt hkk
    obtain ⟨hb1, hb2⟩ := hbnd _ hlt
    have hx0 : OwnV C.w (fun _ _ => False) (.slice A 0 0) 0 i.size [] := .inl ⟨rfl, rfl, A, rfl⟩
    obtain ⟨v', w', h1, h2, h3, h4⟩ := append_run (P := P) (ty := type) hu hi hz (hzs.trans hs.symm) hx0 hsrc' (by simpa using hb1) (by simpa using hb2)
    rw [← hA] at h1
    rw [hw] at h2 h3 hx0
    have hrel0 : RelL C .un y [] [] (fun _ _ => False) (rmOf (.slice A 0 0) y.width) := ⟨fun _ _ _ => False, fun _ _ _ h => h.elim, fun _ _ _ _ h => h.elim, fun i x hx => by simp at hx⟩
    obtain ⟨C', q1, q2, q3, q4, q5, q6⟩ := hH.app (b0 := none) (l' := []) (m' := .un) (H1 := killO s.heap q) (fun _ _ h => h.elim) hx0 hrel0 hsrc.newsLen hrel2 (fun b h => by cases h) h2 h3 h4 hklen (fun i x hx hd => ⟨(hkill i x hx hd).1, by simp, (hkill i x hx hd).2⟩)
    rw [hh] at q6
    refine .val (C' := C') (v := v') ?_ q3 q4 q5 q6 (by rw [q2]; exact hrun _ _ h1)
    rw [q1]
    exact hkk
  have hdv := ev_r ht d
  split at h
  · rename_i hd'
    rw [hd'] at hdv
    split at h
    case isFalse => cases h
    exact onto ⟨none, hdv⟩ ‹_› h
  · rename_i hd'
    rw [hd'] at hdv
    split at h
    case isFalse => cases h
    exact onto hdv ‹_› h
  · rename_i b hd'
    rw [hd'] at hdv
    split at h
    case h_2 => cases h
    rename_i y' l' m' ver hb
    split at h
    case isFalse => cases h
    rename_i ey
    subst ey
    split at h
    case isFalse => cases h
    rename_i hlt
    change l'.length + l.length < _ at hlt
    change k _ ((killO s.heap q).set b .dead ++ [.arr y' (l' ++ l) (m'.join m) 0 none]) = some r at h
    obtain ⟨hb0, hqb⟩ := hkill b _ hb (by simp)
    obtain ⟨_, hbl, hv⟩ := hdv
    obtain ⟨xs, ho, hrel⟩ := row_xs hH hb0
    obtain ⟨hb1, hb2⟩ := hbnd _ hlt
    rw [← hw] at ho
    rw [← hv] at ho hrel
    obtain ⟨v', w', h1, h2, h3, h4⟩ := append_run (P := P) (ty := type) hu hi hz (hzs.trans hs.symm) ho hsrc' hb1 hb2
    rw [hw] at h2 h3 ho
    have hlive := live_arr hb0
    obtain ⟨C', q1, q2, q3, q4, q5, q6⟩ := hH.app (b0 := some b) (H1 := (killO s.heap q).set b .dead) (fun g p h => ⟨b, rfl, hlive, h⟩) ho hrel hsrc.newsLen hrel2 (fun b' h => by cases h; exact hqb) h2 h3 h4 (by simpa using hklen) (fun i x hx hd => by
      by_cases e : b = i
      · subst e
        rw [List.getElem?_set_self (by have := (List.getElem?_eq_some_iff.1 hb).1; exact this)] at hx
        cases hx
        exact absurd rfl hd
      · rw [List.getElem?_set_ne e] at hx
        exact ⟨(hkill i x hx hd).1, by simpa using e, (hkill i x hx hd).2⟩)
    rw [hh] at q6
    refine .val (C' := C') (v := v') ?_ q3 q4 q5 q6 (by rw [q2]; exact hrun _ _ h1)
    rw [q1]
    exact h
  · cases h

/-- A string's bytes, laid anew. -/
theorem stob_r {k : AV → List Blk → Option R} {dst : Option Tmp} {type : TypeId} {pos : String} {after : Array Edge} {guard : Option (Nat × Bool)} {t t2 : Nat} {x : Operand}
    (h : stobK T s t t2 (s.ev x) k = some r) : GoodO P C r k a ⟨dst, .convert t t2 x, type, pos, after, guard⟩ := by
  unfold stobK at h
  split at h
  case h_2 => cases h
  rename_i ti td b hti htd hx
  obtain ⟨_, ⟨d1, hu, _, _⟩, _⟩ := hT t ti hti
  obtain ⟨_, ⟨d2, hu2, _, hd2⟩, _⟩ := hT t2 td htd
  split at h
  case h_2 => cases h
  rename_i e hk
  rw [hk] at hd2
  obtain rfl : d2 = .slice e := hd2
  split at h
  case h_2 => cases h
  rename_i te hte
  obtain ⟨_, ⟨d3, hu3, _, hd3⟩, _⟩ := hT e te hte
  split at h
  case h_2 => cases h
  rename_i hk3
  rw [hk3] at hd3
  obtain rfl : d3 = .int .u8 := hd3
  split at h
  case isFalse => cases h
  rename_i hsz
  have hxv := ev_r ht x
  rw [hx] at hxv
  have hxv : a.eval x = .string b := hxv
  have hcr := Lib.run_convert_string_bytes (P := P) C.w t t2 e b hu hu2 hu3
  let C' : Cx := { C with w := Lib.bytesWorld C.w e b, S := fun g p => C.S g p ∨ g = C.w.heap.size }
  have hsize := Lib.bytesWorld_size C.w e b
  have hbel : Below C.w.heap.size C.w (Lib.bytesWorld C.w e b) := ⟨by unfold Lib.bytesWorld World.freeze; split <;> rfl, by unfold Lib.bytesWorld World.freeze; split <;> rfl, by unfold Lib.bytesWorld World.freeze; split <;> rfl, by omega, fun k hk => Lib.bytesWorld_at_old _ _ _ _ hk⟩
  obtain ⟨q1, q2, q3⟩ := hH.next (C' := C') (F := fun _ _ => False) (fun b => live C b) rfl rfl (.of_below hbel _) (fun _ _ h => h.elim) (fun _ _ h => .inl h) (fun g p h => by
    rcases h with h | h
    · exact .inl h
    · exact .inr (.inr (by omega))) (fun g p h => by
    show g < (Lib.bytesWorld C.w e b).heap.size
    rw [hsize]
    rcases h with h | h
    · have := hH.st g p h; omega
    · omega) (Nat.le_refl _) (fun _ _ => ⟨rfl, rfl⟩) (fun b' _ hk' => .inl (hH.vnone hk')) (fun b' v hk' hv => by
    have : C.vn b' = some v := hv
    rw [hH.vnone hk'] at this; cases this) (fun b' hb' => ⟨hb', rfl, rfl, fun _ _ => Iff.rfl⟩) (fun _ b' x hx hd hn => absurd ⟨x, hx, hd⟩ hn) (fun b' g p hl hn => absurd hl hn) (fun b1 b2 g p hl _ hn => absurd hl hn)
  refine .val (C' := C') (v := .slice (some ⟨C.w.heap.size, 0, none⟩) b.size (grownCap C.w b.size 0 e)) (by rw [← hh] at h; exact h) q1 q2 q3 ?_ (by simp [execOp, hxv, hcr]; rfl)
  have hlen : (bytesOf b).length = b.size := by simp [bytesOf]
  refine ⟨some (at_ C.w.heap.size 0), grownCap C.w b.size 0 e, by rw [hlen], by rw [hlen]; exact grownCap_ge _ _ _ _, fun _ => ⟨C.w.heap.size, 0, rfl, fun i n hn => ⟨[.int .u8 n], fun j u hj => ?_, rfl⟩⟩⟩
  cases j with
  | succ j => simp at hj
  | zero =>
    simp at hj
    subst hj
    have hi := (List.getElem?_eq_some_iff.1 hn).1
    refine ⟨⟨.inr rfl, fun _ => .inl hH.base⟩, ?_⟩
    have := Lib.bytesWorld_cell C.w e b i (by omega)
    rw [show (0 : Nat) + i * (Ty.int IntKind.u8).width + 0 = i by simp [Ty.width]]
    refine this.trans ?_
    unfold bytesOf at hn
    rw [List.getElem?_map] at hn
    cases hq : b.data.toList[i]? with
    | none => rw [hq] at hn; cases hn
    | some c =>
      rw [hq] at hn
      simp only [Option.map_some, Option.some.injEq] at hn
      rw [List.getD_eq_getElem?_getD, hq, ← hn]
      rfl
end
end
end Go.Proofs.YtcjfheidmlcbfaaGreatDoor.V
