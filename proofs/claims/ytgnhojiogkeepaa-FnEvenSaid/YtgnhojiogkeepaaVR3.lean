/- slices.Replace at []impl.Slot: its contract over a row of the call's own. -/
import Derived.Test.YtgnhojiogkeepaaVR2
set_option linter.unusedVariables false
set_option linter.unusedSimpArgs false
set_option linter.unusedSectionVars false
namespace Go.Proofs.Ytgnhojiogkeepaa.V
open Go Go.Proofs Go.RowKit Go.Lib Go.Shelf

theorem slotInfo : ∃ i z, Try.prog.info? 86 = some i ∧ i.size = 3 ∧ i.bytes = 24 ∧ i.zero = some z ∧ z.cells = #[.int .i64 0, .int .i64 0, .int .i64 0] := by
  have h : (Try.prog.info? 86).map (fun i => (i.size, i.bytes, i.zero.map (·.cells))) = some (3, 24, some #[.int .i64 0, .int .i64 0, .int .i64 0]) := by kernel_rfl
  cases hi : Try.prog.info? 86 with
  | none => rw [hi] at h; cases h
  | some i =>
    rw [hi] at h
    simp only [Option.map_some, Option.some.injEq, Prod.mk.injEq] at h
    obtain ⟨h1, h2, h3⟩ := h
    cases hz : i.zero with
    | none => rw [hz] at h3; cases h3
    | some z =>
      rw [hz] at h3
      simp only [Option.map_some, Option.some.injEq] at h3
      exact ⟨i, z, rfl, h1, h2, hz, h3⟩
theorem slotUnder : Try.prog.underlying 48 = some (.slice 86) := by kernel_rfl
theorem intUnder : Try.prog.underlying 3 = some (.int .i64) := by kernel_rfl

/-! ### Rows by their cells -/

theorem Has.app {cur : Array Value} {off : Nat} {as1 vs : List Value} (h : Has cur off as1) (hf : off + as1.length + vs.length ≤ cur.size) : Has (laid cur (off + as1.length) vs) off (as1 ++ vs) := by
  intro k u hk
  rw [laid_toList hf]
  rw [List.getElem?_append] at hk
  split at hk
  · rw [if_neg (by omega)]
    exact h k u hk
  · have hlt := (List.getElem?_eq_some_iff.1 hk).1
    rw [if_pos (by omega), show off + k - (off + as1.length) = k - as1.length by omega]
    exact hk
theorem Has.behind {cur : Array Value} {off P : Nat} {ys zs : List Value} (h : Has cur off ys) (hP : off + ys.length ≤ P) (hf : P + zs.length ≤ cur.size) : Has (laid cur P zs) off ys := by
  intro k u hk
  have hlt := (List.getElem?_eq_some_iff.1 hk).1
  rw [laid_toList hf, if_neg (by omega)]
  exact h k u hk
theorem Has.take {cur : Array Value} {off : Nat} {xs : List Value} (h : Has cur off xs) (n : Nat) : Has cur off (xs.take n) := fun k u hk => by
  rw [List.getElem?_take] at hk
  split at hk
  · exact h k u hk
  · cases hk

/-- Written within a row's room alone. -/
structure In (off R : Nat) (cur cur' : Array Value) : Prop where
  size : cur'.size = cur.size
  out : ∀ p, ¬ (off ≤ p ∧ p < off + R) → cur'.toList[p]? = cur.toList[p]?
theorem In.laid {off R : Nat} {cur cur' : Array Value} (h : In off R cur cur') {P : Nat} {us : List Value} (h1 : off ≤ P) (h2 : P + us.length ≤ off + R) (h3 : off + R ≤ cur.size) : In off R cur (laid cur' P us) := by
  have hf : P + us.length ≤ cur'.size := by rw [h.size]; omega
  refine ⟨by rw [laid_len hf, h.size], fun p hp => ?_⟩
  rw [laid_toList hf, if_neg (by omega)]
  exact h.out p hp
theorem In.refl (off R : Nat) (cur : Array Value) : In off R cur cur := ⟨rfl, fun _ _ => rfl⟩

theorem Chg.like {w w1 w' : World} {F : Foot} (h : Chg w w1 F) (hl : Like w' w1) : Chg w w' F := by
  obtain ⟨h1, h2, h3, h4⟩ := hl
  refine ⟨h2.trans h.os, h3.trans h.tape, h4.trans h.output, by rw [h1]; exact h.size, fun g o ho => by rw [h1]; exact h.obj g o ho, fun g p hg hn => ?_⟩
  have : w'.cell? (at_ g p) = w1.cell? (at_ g p) := by unfold World.cell?; rw [h1]
  rw [this]
  exact h.cell g p hg hn

/-- The result in place. -/
theorem rep_place {w w' : World} {g off cap n0 t : Nat} {cur cur' : Array Value} {e : TypeId} {ys : List Value} {Fn : Foot} (hg : w.heap[g]? = some (Obj.cells cur e (0, 0))) (hcap : off + cap * 3 ≤ cur.size) (hi : In off (cap * 3) cur cur')
    (hl : Like w' (w.setRow g cur')) (hx : Has cur' off ys) (hyl : ys.length = t * 3) (ht : t ≤ cap) (hm : cap ≤ maxLen) :
    Chg w w' (rmOf (.slice (some (at_ g off)) n0 cap) 3) ∧ OwnV w' (fun g' p => rmOf (.slice (some (at_ g off)) n0 cap) 3 g' p ∨ Fn g' p) (.slice (some (at_ g off)) t cap) t 3 ys := by
  have hg' : w'.heap[g]? = some (Obj.cells cur' e (0, 0)) := by rw [hl.1]; exact setRow_heap _ _ _ _ _ _ hg
  refine ⟨Chg.like (.setRow hg hi.size fun p hp => ?_) hl, .inr ⟨g, off, cap, ⟨rfl, ⟨cur', e, hg', by rw [hi.size]; exact hcap⟩, ht, hm, fun p q1 q2 => .inl ⟨rfl, q1, q2⟩⟩, hx.at hg', hyl⟩⟩
  have := hi.out p fun hh => hp ⟨rfl, hh⟩
  simpa using this

/-- The result in a new row. -/
theorem rep_new {w w' : World} {t c : Nat} {cur' : Array Value} {e : TypeId} {ys : List Value} {F Fn : Foot} (hb : Below w.heap.size w w') (hg : w'.heap[w.heap.size]? = some (Obj.cells cur' e (0, 0))) (hc : c * 3 ≤ cur'.size) (hx : Has cur' 0 ys) (hyl : ys.length = t * 3) (ht : t ≤ c) (hm : c ≤ maxLen) :
    Chg w w' F ∧ OwnV w' (fun g' p => Fn g' p ∨ (w.heap.size ≤ g' ∧ g' < w'.heap.size)) (.slice (some (at_ w.heap.size 0)) t c) t 3 ys := by
  refine ⟨.of_below hb _, .inr ⟨w.heap.size, 0, c, ⟨rfl, ⟨cur', e, hg, by omega⟩, ht, hm, fun p _ _ => .inr ⟨Nat.le_refl _, (Array.getElem?_eq_some_iff.1 hg).1⟩⟩, hx.at hg, hyl⟩⟩

/-- What is asked of the row, of what is put in, and of the places. -/
structure RepIn (g off n cap i j m g' off' vc : Nat) (cur : Array Value) (et : TypeId) (xs vs : List Value) (w : World) : Prop where
  hg : w.heap[g]? = some (.cells cur et (0, 0))
  hx : Has cur off xs
  hxl : xs.length = n * 3
  hcap : off + cap * 3 ≤ cur.size
  hnc : n ≤ cap
  hmax : cap ≤ maxLen
  hvl : vs.length = m * 3
  hv : ∀ k u, vs[k]? = some u → w.cell? (at_ g' (off' + k)) = some u ∧ ¬ (g' = g ∧ off ≤ off' + k ∧ off' + k < off + cap * 3)
  h1x : ∀ v ∈ xs, v.oneCell' = true
  h1v : ∀ v ∈ vs, v.oneCell' = true
  hij : i < j
  hjn : j ≤ n
  hm : 0 < m
  hvc : m ≤ vc
  hne : i + m ≠ j
  htot : (i + (m + (n - j))) * 24 ≤ 140737488355328

/-- What the call leaves. -/
def RepOut (g off n cap i j m : Nat) (xs vs : List Value) (w w' : World) (e : Ending) : Prop :=
  ∃ v', e = .returned v' ∧ v'.oneCell' = true ∧ Chg w w' (rmOf (.slice (some (at_ g off)) i cap) 3) ∧
    OwnV w' (fun g' p => rmOf (.slice (some (at_ g off)) i cap) 3 g' p ∨ (w.heap.size ≤ g' ∧ g' < w'.heap.size)) v' (i + (m + (n - j))) 3 (xs.take (i * 3) ++ (vs ++ xs.drop (j * 3)))

section
variable {g off n cap i j m g' off' vc : Nat} {cur : Array Value} {et : TypeId} {xs vs : List Value} {w : World}

theorem RepIn.nums (h : RepIn g off n cap i j m g' off' vc cur et xs vs w) : cap ≤ 9223372036854775807 ∧ i + (m + (n - j)) ≤ maxLen ∧ (xs.take (i * 3)).length = i * 3 ∧ (xs.drop (j * 3)).length = (n - j) * 3 := by
  have h1 := h.hmax
  have h2 := h.htot
  have h3 := h.hxl
  have h4 := h.hij
  have h5 := h.hjn
  refine ⟨h1, ?_, ?_, ?_⟩
  · unfold maxLen; omega
  · rw [List.length_take]; omega
  · rw [List.length_drop]; omega

theorem RepIn.src (h : RepIn g off n cap i j m g' off' vc cur et xs vs w) : Src Try.prog 3 48 (.slice (some (at_ g' off')) m vc) m vs w :=
  Src.ofSlice _ slotUnder (at_ g' off') _ _ _ h.hvl (fun k u hk => by rw [addr_add]; exact (h.hv k u hk).1) h.h1v

/-- Nothing stands behind, more is put in than goes. -/
theorem rep_end (h : RepIn g off n cap i j m g' off' vc cur et xs vs w) (hj : j = n) (hgt : n < i + m) :
    Calls Try.prog 64 #[.slice (some (at_ g off)) n cap, .int .i64 i, .int .i64 j, .slice (some (at_ g' off')) m vc] w fun e w' => RepOut g off n cap i j m xs vs w w' e := by
  obtain ⟨q1, q2, q3, q4⟩ := h.nums
  obtain ⟨inf, z, hi, hs, hby, hz, hzc⟩ := slotInfo
  have hij := h.hij
  have hnc := h.hnc
  have hroom : Room w (roomF g off (cap * 3)) 3 (.slice (some (at_ g off)) i cap) i g off cap := ⟨rfl, ⟨cur, et, h.hg, h.hcap⟩, by omega, h.hmax, fun p p1 p2 => ⟨rfl, p1, p2⟩⟩
  have hown : OwnV w (roomF g off (cap * 3)) (.slice (some (at_ g off)) i cap) i inf.size (xs.take (i * 3)) := by
    rw [hs]
    exact .inr ⟨g, off, cap, hroom, (h.hx.take _).at h.hg, q3⟩
  have htot := h.htot
  have key := fun ty => append_run (P := Try.prog) (ty := ty) slotUnder hi hz (by rw [hzc, hs]; rfl) hown (by rw [hs]; exact h.src) (by omega) (by rw [hby]; subst hj; simp at htot; omega)
  obtain ⟨v', w1, k1, k2, k3, k4⟩ := key 0
  rw [hs] at k2 k3
  obtain ⟨a', c', rfl⟩ : ∃ a' c', v' = .slice (some a') (i + m) c' := by
    rcases k3 with ⟨h0, _⟩ | ⟨g2, off2, cap2, hr, _, _⟩
    · have := h.hm; omega
    · exact ⟨_, _, hr.val⟩
  refine (walk_end h.hij h.hm h.hnc q1 hj hgt a' c' (w1 := w1) fun ty => ?_).mono ?_
  · obtain ⟨v2, w2, e1, _⟩ := key ty
    exact k1
  rintro e w' ⟨rfl, rfl⟩
  subst hj
  refine ⟨_, rfl, rfl, k2, ?_⟩
  have e1 : xs.drop (j * 3) = [] := List.eq_nil_of_length_eq_zero (by rw [q4]; omega)
  rw [e1, List.append_nil, show i + (m + (j - j)) = i + m by omega]
  exact k3

theorem RepIn.zeros {inf : TypeInfo} {z : Value} (hzc : z.cells = #[.int .i64 0, .int .i64 0, .int .i64 0]) (k : Nat) : (Builtin.zeroCells z.cells k).toList.length = k * 3 ∧ ∀ v ∈ (Builtin.zeroCells z.cells k).toList, v.oneCell' = true := by
  refine ⟨by rw [Array.length_toList, size_zeroCells, hzc]; rfl, fun v hv => ?_⟩
  rw [hzc] at hv
  simp only [Builtin.zeroCells, Array.toList_map, List.mem_map] at hv
  obtain ⟨q, _, rfl⟩ := hv
  have : q % 3 = 0 ∨ q % 3 = 1 ∨ q % 3 = 2 := by omega
  rcases this with h | h | h <;> (simp [h]; rfl)

/-- Nothing stands behind, less is put in than goes. -/
theorem rep_endc (h : RepIn g off n cap i j m g' off' vc cur et xs vs w) (hj : j = n) (hlt : i + m < n) :
    Calls Try.prog 64 #[.slice (some (at_ g off)) n cap, .int .i64 i, .int .i64 j, .slice (some (at_ g' off')) m vc] w fun e w' => RepOut g off n cap i j m xs vs w w' e := by
  obtain ⟨q1, q2, q3, q4⟩ := h.nums
  obtain ⟨inf, z, hi, hs, hby, hz, hzc⟩ := slotInfo
  have hij := h.hij
  have hnc := h.hnc
  have hcap := h.hcap
  have hvl := h.hvl
  obtain ⟨z1, z2⟩ := RepIn.zeros (inf := inf) hzc (n - (i + m))
  have i1 := (In.refl off (cap * 3) cur).laid (P := off + i * 3) (us := vs) (by omega) (by omega) hcap
  have i2 := i1.laid (P := off + (i + m) * 3) (us := (Builtin.zeroCells z.cells (n - (i + m))).toList) (by omega) (by omega) hcap
  refine (walk_endc (w := w) (cur1 := laid cur (off + i * 3) vs) (cur2 := laid (laid cur (off + i * 3) vs) (off + (i + m) * 3) (Builtin.zeroCells z.cells (n - (i + m))).toList) h.hij h.hm h.hnc q1 hj hlt (fun ty => ?_) (fun ty dc => ?_)).mono ?_
  · have := run_append_room_k (P := Try.prog) w 48 48 ty _ inf slotUnder hi g off i cap m (.slice (some (at_ g' off')) m vc) vs cur et h.hg (by rw [hs]; exact h.src) (by omega) (by rw [hs]; omega)
    rw [hs] at this
    exact this
  · have := run_clear_k (P := Try.prog) (w.setRow g (laid cur (off + i * 3) vs)) 48 _ ty inf z (n - (i + m)) slotUnder hi hz z2 g (off + (i + m) * 3) dc (laid cur (off + i * 3) vs) et (setRow_heap _ _ _ _ _ _ h.hg) (by omega) (by rw [i1.size]; omega)
    rw [setRow_setRow] at this
    exact this
  rintro e w' ⟨rfl, rfl⟩
  subst hj
  have e1 : xs.drop (j * 3) = [] := List.eq_nil_of_length_eq_zero (by rw [q4]; omega)
  have hx := h.hx.take (i * 3)
  have hx1 := hx.app (vs := vs) (by omega)
  rw [q3] at hx1
  have hx2 := hx1.behind (P := off + (i + m) * 3) (zs := (Builtin.zeroCells z.cells (j - (i + m))).toList) (by rw [List.length_append]; omega) (by rw [i1.size]; omega)
  obtain ⟨r1, r2⟩ := rep_place (n0 := i) (t := i + m) (Fn := fun g' _ => w.heap.size ≤ g' ∧ g' < (w.setRow g (laid (laid cur (off + i * 3) vs) (off + (i + m) * 3) (Builtin.zeroCells z.cells (j - (i + m))).toList)).heap.size) h.hg hcap i2 ⟨rfl, rfl, rfl, rfl⟩ hx2 (by rw [List.length_append]; omega) (by omega) h.hmax
  refine ⟨_, rfl, rfl, r1, ?_⟩
  rw [e1, List.append_nil, show i + (m + (j - j)) = i + m by omega]
  exact r2

/-- There is room, less is put in than goes, some stand behind. -/
theorem rep_put (h : RepIn g off n cap i j m g' off' vc cur et xs vs w) (hj : j < n) (hlt : i + m < j) :
    Calls Try.prog 64 #[.slice (some (at_ g off)) n cap, .int .i64 i, .int .i64 j, .slice (some (at_ g' off')) m vc] w fun e w' => RepOut g off n cap i j m xs vs w w' e := by
  obtain ⟨q1, q2, q3, q4⟩ := h.nums
  obtain ⟨inf, z, hi, hs, hby, hz, hzc⟩ := slotInfo
  have hij := h.hij
  have hnc := h.hnc
  have hcap := h.hcap
  have hvl := h.hvl
  have hxl := h.hxl
  obtain ⟨t, ht⟩ : ∃ t, i + m + (n - j) = t := ⟨_, rfl⟩
  obtain ⟨z1, z2⟩ := RepIn.zeros (inf := inf) hzc (n - t)
  have hsz : (Try.prog.info? 86).map (·.size) = some 3 := by rw [hi]; simp [hs]
  obtain ⟨cur1, hc1⟩ : ∃ c, c = laid cur (off + i * 3) vs := ⟨_, rfl⟩
  obtain ⟨cur2, hc2⟩ : ∃ c, c = laid cur1 (off + (i + m) * 3) (xs.drop (j * 3)) := ⟨_, rfl⟩
  obtain ⟨cur3, hc3⟩ : ∃ c, c = laid cur2 (off + t * 3) (Builtin.zeroCells z.cells (n - t)).toList := ⟨_, rfl⟩
  have i1 : In off (cap * 3) cur cur1 := by rw [hc1]; exact (In.refl off (cap * 3) cur).laid (by omega) (by omega) hcap
  have i2 : In off (cap * 3) cur cur2 := by rw [hc2]; exact i1.laid (by omega) (by omega) hcap
  have i3 : In off (cap * 3) cur cur3 := by rw [hc3]; exact i2.laid (by omega) (by omega) hcap
  have hmin1 : Nat.min m (t - i) = m := by simp only [Nat.min_def]; split <;> omega
  have hmin2 : Nat.min (n - j) (t - (i + m)) = n - j := by simp only [Nat.min_def]; split <;> omega
  have hg1 : ∀ q, ((w.drewN q).setRow g cur1).heap[g]? = some (Obj.cells cur1 et (0, 0)) := fun q => setRow_heap _ _ _ _ _ _ h.hg
  have hg2 : ∀ q, ((w.drewN q).setRow g cur2).heap[g]? = some (Obj.cells cur2 et (0, 0)) := fun q => setRow_heap _ _ _ _ _ _ h.hg
  refine (walk_put (w := w) (cur1 := cur1) (cur2 := cur2) (cur3 := cur3) (x := goInt m) (y := goInt ((n - j : Nat) : Int)) h.hij h.hm h.hnc q1 hj ht hlt (fun q ty dc => ?_) (fun q ty dc sc => ?_) (fun q ty dc => ?_)).mono ?_
  · have := run_copy_k (P := Try.prog) (w.drewN q) 48 48 ty _ 3 g (off + i * 3) (t - i) dc (at_ g' off') m vc cur et vs slotUnder hsz h.hg (by rw [hmin1]; exact hvl) (fun k u hk => by rw [addr_add]; exact (h.hv k u hk).1) (by omega) h.h1v
    rw [hmin1, ← hc1] at this
    exact this
  · have := run_copy_k (P := Try.prog) ((w.drewN q).setRow g cur1).drew 48 48 ty _ 3 g (off + (i + m) * 3) (t - (i + m)) dc (at_ g (off + j * 3)) (n - j) sc cur1 et (xs.drop (j * 3)) slotUnder hsz (hg1 q) (by rw [hmin2]; exact q4) (fun k u hk => by
      rw [addr_add]
      rw [List.getElem?_drop] at hk
      have hlt2 := (List.getElem?_eq_some_iff.1 hk).1
      show ((w.drewN q).setRow g cur1).cell? _ = _
      rw [cell_at (hg1 q), hc1, laid_toList (by omega), if_neg (by omega), show off + j * 3 + k = off + (j * 3 + k) by omega]
      exact h.hx _ u hk) (by rw [i1.size]; omega) (fun v hv => h.h1x v (List.mem_of_mem_drop hv))
    rw [hmin2, ← hc2] at this
    refine this.trans ?_
    show Result.ok _ (((w.drewN q).setRow g cur1).setRow g cur2).drew = _
    rw [setRow_setRow]
  · have := run_clear_k (P := Try.prog) ((w.drewN q).setRow g cur2).drew 48 _ ty inf z (n - t) slotUnder hi hz z2 g (off + t * 3) dc cur2 et (hg2 q) (by omega) (by rw [i2.size]; omega)
    rw [← hc3] at this
    refine this.trans ?_
    show Result.ok _ (((w.drewN q).setRow g cur2).setRow g cur3).drew = _
    rw [setRow_setRow]
  rintro e w' ⟨rfl, hl⟩
  have hx := h.hx.take (i * 3)
  have hx1 := hx.app (vs := vs) (by omega)
  rw [q3, ← hc1] at hx1
  have hx2 := hx1.app (vs := xs.drop (j * 3)) (by rw [List.length_append, i1.size]; omega)
  rw [List.length_append, q3, hvl, show off + (i * 3 + m * 3) = off + (i + m) * 3 by omega, ← hc2] at hx2
  have hx3 := hx2.behind (P := off + t * 3) (zs := (Builtin.zeroCells z.cells (n - t)).toList) (by simp only [List.length_append]; omega) (by rw [i2.size]; omega)
  rw [← hc3] at hx3
  obtain ⟨r1, r2⟩ := rep_place (n0 := i) (t := t) (Fn := fun g' _ => w.heap.size ≤ g' ∧ g' < w'.heap.size) h.hg hcap i3 hl hx3 (by simp only [List.length_append]; omega) (by omega) h.hmax
  refine ⟨_, rfl, rfl, r1, ?_⟩
  rw [← List.append_assoc, show i + (m + (n - j)) = t by omega]
  exact r2

/-- There is room, more is put in than goes, some stand behind. -/
theorem rep_shift (h : RepIn g off n cap i j m g' off' vc cur et xs vs w) (hj : j < n) (hgt : j < i + m) (hroom : i + m + (n - j) ≤ cap) :
    Calls Try.prog 64 #[.slice (some (at_ g off)) n cap, .int .i64 i, .int .i64 j, .slice (some (at_ g' off')) m vc] w fun e w' => RepOut g off n cap i j m xs vs w w' e := by
  obtain ⟨q1, q2, q3, q4⟩ := h.nums
  obtain ⟨inf, z, hi, hs, hby, hz, hzc⟩ := slotInfo
  have hij := h.hij
  have hnc := h.hnc
  have hcap := h.hcap
  have hvl := h.hvl
  have hxl := h.hxl
  have hm := h.hm
  obtain ⟨t, ht⟩ : ∃ t, i + m + (n - j) = t := ⟨_, rfl⟩
  have hsz : (Try.prog.info? 86).map (·.size) = some 3 := by rw [hi]; simp [hs]
  obtain ⟨cur1, hc1⟩ : ∃ c, c = laid cur (off + (i + m) * 3) (xs.drop (j * 3)) := ⟨_, rfl⟩
  obtain ⟨cur2, hc2⟩ : ∃ c, c = laid cur1 (off + i * 3) vs := ⟨_, rfl⟩
  have i1 : In off (cap * 3) cur cur1 := by rw [hc1]; exact (In.refl off (cap * 3) cur).laid (by omega) (by omega) hcap
  have i2 : In off (cap * 3) cur cur2 := by rw [hc2]; exact i1.laid (by omega) (by omega) hcap
  have hmin1 : Nat.min m (t - i) = m := by simp only [Nat.min_def]; split <;> omega
  have hmin2 : Nat.min (n - j) (t - (i + m)) = n - j := by simp only [Nat.min_def]; split <;> omega
  have hg1 : ∀ q, ((w.drewN q).setRow g cur1).heap[g]? = some (Obj.cells cur1 et (0, 0)) := fun q => setRow_heap _ _ _ _ _ _ h.hg
  have hdis : g = g' → off + (i + m) * 3 + (t - (i + m)) * 3 ≤ off' ∨ off' + m * 3 ≤ off + (i + m) * 3 := by
    intro hgg
    by_cases h1 : off + (i + m) * 3 + (t - (i + m)) * 3 ≤ off'
    · exact .inl h1
    by_cases h2 : off' + m * 3 ≤ off + (i + m) * 3
    · exact .inr h2
    exfalso
    have hp : ∀ k, k < m * 3 → ¬ (off ≤ off' + k ∧ off' + k < off + cap * 3) := fun k hk hh => by
      obtain ⟨u, hu⟩ : ∃ u, vs[k]? = some u := ⟨_, List.getElem?_eq_getElem (by omega)⟩
      exact (h.hv k u hu).2 ⟨hgg.symm, hh⟩
    by_cases h3 : off' < off + (i + m) * 3
    · exact hp (off + (i + m) * 3 - off') (by omega) ⟨by omega, by omega⟩
    · exact hp 0 (by omega) ⟨by omega, by omega⟩
  refine (walk_shift (w := w) (cur1 := cur1) (cur2 := cur2) (x := goInt ((n - j : Nat) : Int)) (y := goInt m) h.hij h.hm h.hnc q1 hj ht (by omega) hgt (fun q lb cb => ?_) (fun q ty dc sc => ?_) (fun q ty dc => ?_)).mono ?_
  · rw [run_callFunc_extern Try.func112 (by kernel_rfl) (by kernel_rfl) (by kernel_rfl) (e := Extern.SlicesOverlaps.overlaps #[48, 48] #[4]) (by kernel_rfl)]
    obtain ⟨u, hu⟩ : ∃ u, vs[0]? = some u := ⟨_, List.getElem?_eq_getElem (by omega)⟩
    have hc0 := (h.hv 0 u hu).1
    rw [run_overlaps_own (P := Try.prog) (w.drewN q) 48 4 86 slotUnder 3 (fun W => by simp [sizeOf, typeInfo, hi, hs]) g (off + (i + m) * 3) (t - (i + m)) lb g' off' m cb cur et h.hg (u := u) hc0 hdis]
    rfl
  · have := run_copy_k (P := Try.prog) (w.drewN q) 48 48 ty _ 3 g (off + (i + m) * 3) (t - (i + m)) dc (at_ g (off + j * 3)) (n - j) sc cur et (xs.drop (j * 3)) slotUnder hsz h.hg (by rw [hmin2]; exact q4) (fun k u hk => by
      rw [addr_add]
      rw [List.getElem?_drop] at hk
      show w.cell? _ = _
      rw [cell_at h.hg, show off + j * 3 + k = off + (j * 3 + k) by omega]
      exact h.hx _ u hk) (by omega) (fun v hv => h.h1x v (List.mem_of_mem_drop hv))
    rw [hmin2, ← hc1] at this
    exact this
  · have := run_copy_k (P := Try.prog) ((w.drewN q).setRow g cur1) 48 48 ty _ 3 g (off + i * 3) (t - i) dc (at_ g' off') m vc cur1 et vs slotUnder hsz (hg1 q) (by rw [hmin1]; exact hvl) (fun k u hk => by
      rw [addr_add]
      obtain ⟨c1, c2⟩ := h.hv k u hk
      rw [hc1, laid_out (w := w.drewN q) h.hg (by omega) (by omega)]
      exact c1) (by rw [i1.size]; omega) h.h1v
    rw [hmin1, ← hc2, setRow_setRow] at this
    exact this
  rintro e w' ⟨rfl, q, rfl⟩
  have hx := h.hx.shift (A := i * 3) (Bj := j * 3) (vs := vs) (by omega) (by omega) (by omega)
  rw [show off + i * 3 + vs.length = off + (i + m) * 3 by omega, ← hc1, ← hc2] at hx
  obtain ⟨r1, r2⟩ := rep_place (w' := (w.drewN q).setRow g cur2) (n0 := i) (t := t) (Fn := fun g' _ => w.heap.size ≤ g' ∧ g' < ((w.drewN q).setRow g cur2).heap.size) h.hg hcap i2 ⟨rfl, rfl, rfl, rfl⟩ hx (by simp only [List.length_append]; omega) (by omega) h.hmax
  refine ⟨_, rfl, rfl, r1, ?_⟩
  rw [← List.append_assoc, show i + (m + (n - j)) = t by omega]
  exact r2

/-- There is no room. -/
theorem rep_grow (h : RepIn g off n cap i j m g' off' vc cur et xs vs w) (hj : j < n) (hroom : cap < i + m + (n - j)) :
    Calls Try.prog 64 #[.slice (some (at_ g off)) n cap, .int .i64 i, .int .i64 j, .slice (some (at_ g' off')) m vc] w fun e w' => RepOut g off n cap i j m xs vs w w' e := by
  obtain ⟨q1, q2, q3, q4⟩ := h.nums
  obtain ⟨inf, z, hi, hs, hby, hz, hzc⟩ := slotInfo
  have hij := h.hij
  have hnc := h.hnc
  have hcap := h.hcap
  have hvl := h.hvl
  have hxl := h.hxl
  have hm := h.hm
  have htot := h.htot
  obtain ⟨t, ht⟩ : ∃ t, i + m + (n - j) = t := ⟨_, rfl⟩
  have htm : t ≤ maxLen := by omega
  have hsz : (Try.prog.info? 86).map (·.size) = some 3 := by rw [hi]; simp [hs]
  have hmin1 : Nat.min m (t - i) = m := by simp only [Nat.min_def]; split <;> omega
  have hmin2 : Nat.min (n - j) (t - (i + m)) = n - j := by simp only [Nat.min_def]; split <;> omega
  have hit : i + (t - i) = t := by omega
  obtain ⟨E, hE⟩ : ∃ E : TypeId, E = 86 := ⟨_, rfl⟩
  obtain ⟨c, hc⟩ : ∃ c : Nat → Nat, ∀ q, c q = grownCap (w.drewN q) t cap E := ⟨fun q => grownCap (w.drewN q) t cap E, fun _ => rfl⟩
  obtain ⟨arr, harr⟩ : ∃ arr : Nat → Array Value, ∀ q, arr q = (xs.take (i * 3)).toArray ++ Builtin.zeroCells z.cells (t - i) ++ Builtin.zeroCells z.cells (c q - t) := ⟨fun q => _, fun _ => rfl⟩
  have hge : ∀ q, t ≤ c q := fun q => by rw [hc]; exact grownCap_ge _ _ _ _
  have hmxc : ∀ q, c q ≤ maxLen := fun q => by rw [hc]; exact grownCap_le_maxLen _ _ _ _ htm
  have hasz : ∀ q, (arr q).size = c q * 3 := fun q => by
    have := hge q
    rw [harr, Array.size_append, Array.size_append, size_zeroCells, size_zeroCells, List.size_toArray, q3, hzc]
    simp
    omega
  obtain ⟨a1, ha1⟩ : ∃ a1 : Nat → Array Value, ∀ q, a1 q = laid (arr q) (i * 3) vs := ⟨fun q => _, fun _ => rfl⟩
  obtain ⟨a2, ha2⟩ : ∃ a2 : Nat → Array Value, ∀ q, a2 q = laid (a1 q) ((i + m) * 3) (xs.drop (j * 3)) := ⟨fun q => _, fun _ => rfl⟩
  have hs1 : ∀ q, (a1 q).size = c q * 3 := fun q => by have := hge q; rw [ha1, laid_len (by rw [hasz]; omega), hasz]
  have hs2 : ∀ q, (a2 q).size = c q * 3 := fun q => by have := hge q; rw [ha2, laid_len (by rw [hs1]; omega), hs1]
  have hgo : ∀ q, ((w.drewN q).drew.alloc (.cells (arr q) E)).heap[w.heap.size]? = some (Obj.cells (arr q) E (0, 0)) := fun q => heap_alloc_new (w.drewN q).drew (.cells (arr q) E)
  have hg1 : ∀ q, (((w.drewN q).drew.alloc (.cells (arr q) E)).setRow w.heap.size (a1 q)).heap[w.heap.size]? = some (Obj.cells (a1 q) E (0, 0)) := fun q => setRow_heap _ _ _ _ _ _ (hgo q)
  have hgl : g < w.heap.size := (Array.getElem?_eq_some_iff.1 h.hg).1
  have hold : ∀ q g2 p u, g2 < w.heap.size → w.cell? (at_ g2 p) = some u → ((w.drewN q).drew.alloc (.cells (arr q) E)).cell? (at_ g2 p) = some u := fun q g2 p u h1 h2 => by
    have : ((w.drewN q).drew.alloc (.cells (arr q) E)).heap[g2]? = w.heap[g2]? := heap_alloc_old (w.drewN q).drew _ h1
    unfold World.cell? at h2 ⊢
    simp only [this]
    exact h2
  refine (walk_grow (w := w) (x := goInt m) (y := goInt ((n - j : Nat) : Int)) h.hij h.hm h.hnc q1 hj ht (by omega) (by unfold maxLen at htm; omega) (by omega) w.heap.size c (fun q => (w.drewN q).drew.alloc (.cells (arr q) E)) (fun q => ((w.drewN q).drew.alloc (.cells (arr q) E)).setRow w.heap.size (a1 q)) (fun q => (((w.drewN q).drew.alloc (.cells (arr q) E)).setRow w.heap.size (a2 q)).drew) (fun q ty => ?_) hge (fun q ty dc => ?_) (fun q ty dc sc => ?_)).mono ?_
  · have hld := run_loadCells_list (P := Try.prog) (w.drewN q).drew (at_ g off) (xs.take (i * 3)) (fun k u hk => by
      rw [addr_add]
      exact ((h.hx.take _).at h.hg) k u hk)
    rw [q3] at hld
    have := run_append_zeros_k (P := Try.prog) (w.drewN q) 48 3 ty _ inf z .i64 slotUnder intUnder hi hz (at_ g off) i cap (t - i) (xs.take (i * 3)) (by rw [hs]; exact hld) (by rw [hs]; omega) (by omega) (by omega) (by rw [hby]; omega)
    rw [hit, ← hE, ← hc, ← harr] at this
    rw [show (t : Int) - (i : Int) = ((t - i : Nat) : Int) by omega]
    exact this
  · have := run_copy_k (P := Try.prog) ((w.drewN q).drew.alloc (.cells (arr q) E)) 48 48 ty _ 3 w.heap.size (i * 3) (t - i) dc (at_ g' off') m vc (arr q) E vs slotUnder hsz (hgo q) (by rw [hmin1]; exact hvl) (fun k u hk => by
      rw [addr_add]
      have c1 := (h.hv k u hk).1
      exact hold q g' _ u (cell_lt c1) c1) (by have := hge q; rw [hasz]; omega) h.h1v
    rw [hmin1, ← ha1] at this
    exact this
  · have := run_copy_k (P := Try.prog) (((w.drewN q).drew.alloc (.cells (arr q) E)).setRow w.heap.size (a1 q)).drew 48 48 ty _ 3 w.heap.size ((i + m) * 3) (t - (i + m)) dc (at_ g (off + j * 3)) (n - j) sc (a1 q) E (xs.drop (j * 3)) slotUnder hsz (hg1 q) (by rw [hmin2]; exact q4) (fun k u hk => by
      rw [addr_add]
      rw [List.getElem?_drop] at hk
      show (((w.drewN q).drew.alloc (.cells (arr q) E)).setRow w.heap.size (a1 q)).cell? _ = _
      rw [ha1, laid_out (hgo q) (by have := hge q; rw [hasz]; omega) (by omega)]
      refine hold q g _ u hgl ?_
      rw [cell_at h.hg, show off + j * 3 + k = off + (j * 3 + k) by omega]
      exact h.hx _ u hk) (by have := hge q; rw [hs1]; omega) (fun v hv => h.h1x v (List.mem_of_mem_drop hv))
    rw [hmin2, ← ha2] at this
    refine this.trans ?_
    show Result.ok _ ((((w.drewN q).drew.alloc (.cells (arr q) E)).setRow w.heap.size (a1 q)).setRow w.heap.size (a2 q)).drew = _
    rw [setRow_setRow]
  rintro e w' ⟨q, rfl, rfl⟩
  have hx0 : Has (arr q) 0 (xs.take (i * 3)) := fun k u hk => by
    rw [harr, Array.toList_append, Array.toList_append, List.append_assoc, Nat.zero_add, List.getElem?_append_left (by have := (List.getElem?_eq_some_iff.1 hk).1; simpa using this)]
    exact hk
  have hcq := hge q
  have hx1 := hx0.app (vs := vs) (by rw [hasz]; omega)
  rw [q3, Nat.zero_add, ← ha1] at hx1
  have hx2 := hx1.app (vs := xs.drop (j * 3)) (by rw [List.length_append, hs1]; omega)
  rw [List.length_append, q3, hvl, show 0 + (i * 3 + m * 3) = (i + m) * 3 by omega, ← ha2] at hx2
  have hbel : Below w.heap.size w (((w.drewN q).drew.alloc (.cells (arr q) E)).setRow w.heap.size (a2 q)).drew := by
    refine ⟨rfl, rfl, rfl, ?_, fun k hk => ?_⟩
    · show w.heap.size ≤ (((w.drewN q).drew.alloc (.cells (arr q) E)).setRow w.heap.size (a2 q)).heap.size
      simp only [World.setRow, World.alloc, Array.size_modify, Array.size_push]
      show w.heap.size ≤ w.heap.size + 1
      omega
    · show (((w.drewN q).drew.alloc (.cells (arr q) E)).setRow w.heap.size (a2 q)).heap[k]? = _
      rw [setRow_other _ _ _ _ (by omega)]
      exact heap_alloc_old (w.drewN q).drew _ hk
  obtain ⟨r1, r2⟩ := rep_new (t := t) (F := rmOf (.slice (some (at_ g off)) i cap) 3) (Fn := rmOf (.slice (some (at_ g off)) i cap) 3) hbel (setRow_heap _ _ _ _ _ _ (hgo q)) (by rw [hs2]; omega) hx2 (by simp only [List.length_append]; omega) hcq (hmxc q)
  refine ⟨_, rfl, rfl, r1, ?_⟩
  rw [← List.append_assoc, show i + (m + (n - j)) = t by omega]
  exact r2

/-- slices.Replace, whichever way it goes. -/
theorem rep_calls (h : RepIn g off n cap i j m g' off' vc cur et xs vs w) :
    Calls Try.prog 64 #[.slice (some (at_ g off)) n cap, .int .i64 i, .int .i64 j, .slice (some (at_ g' off')) m vc] w fun e w' => RepOut g off n cap i j m xs vs w w' e := by
  have h1 := h.hjn
  have h2 := h.hne
  by_cases hj : j = n
  · by_cases hlt : i + m < n
    · exact rep_endc h hj hlt
    · exact rep_end h hj (by omega)
  · by_cases hroom : i + m + (n - j) ≤ cap
    · by_cases hlt : i + m < j
      · exact rep_put h (by omega) hlt
      · exact rep_shift h (by omega) (by omega) hroom
    · exact rep_grow h (by omega) (by omega)
end
end Go.Proofs.Ytgnhojiogkeepaa.V
