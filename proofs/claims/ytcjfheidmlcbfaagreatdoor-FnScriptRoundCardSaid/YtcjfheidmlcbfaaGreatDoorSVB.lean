/- strings.Builder in the interpreter's terms, by hand: WriteString and String, with what they leave as it was. -/
import Derived.Test.YtcjfheidmlcbfaaGreatDoorChecked
import Derived.Test.YtcjfheidmlcbfaaGreatDoorSV12
import Derived.Shelf.Strings.Builder1
import Derived.Lib.Hide
import Derived.Lib.UnsafeStr
set_option linter.unusedVariables false
set_option linter.unusedSimpArgs false
set_option linter.unusedSectionVars false
namespace Go.Proofs.YtcjfheidmlcbfaaGreatDoor.V
open Go Go.Proofs Go.RowKit Go.Shelf

/-- A slice of bytes of the call's own, as a builder holds it. -/
def BRow (w : World) (u : Nat) (v : Value) (bs : List Value) : Prop :=
  (bs = [] ∧ v = .slice none 0 0) ∨ ∃ g cap cur, v = .slice (some ⟨g, 0, none⟩) bs.length cap ∧ w.heap[g]? = some (Obj.cells cur u (0, 0)) ∧ bs.length ≤ cap ∧ cap ≤ maxLen ∧ cur.size = cap ∧ cur.toList.take bs.length = bs
/-- What append leaves. -/
def BApp (w w' : World) (u : Nat) (v v' : Value) : Prop :=
  (w' = w ∧ v' = v) ∨ (∃ g cap cur cur', v.ownBlock = some g ∧ w.heap[g]? = some (Obj.cells cur u (0, 0)) ∧ cur'.size = cur.size ∧ w' = w.setRow g cur' ∧ ∃ n, v' = .slice (some ⟨g, 0, none⟩) n cap) ∨
    (∃ o n cap, w' = w.drew.alloc o ∧ v' = .slice (some ⟨w.heap.size, 0, none⟩) n cap)

theorem append_str (P : Program) (w : World) (t u ty e : TypeId) (i : TypeInfo) (ht : P.underlying t = some (.slice e)) (hu : P.underlying u = some .string) (hi : P.info? e = some i) (hz : i.zero = some (.int .u8 0))
    (hsize : i.size = 1) (hby : i.bytes = 1) (v : Value) (bs : List Value) (hr : BRow w e v bs) (s : ByteArray) (hb : bs.length + s.size ≤ 140737488355328) :
    ∃ v' w', (Builtin.append_ #[t, u] ty #[v, .string s]).run P w = .ok v' w' ∧ BRow w' e v' (bs ++ Lib.strCells s) ∧ BApp w w' e v v' := by
  have hsl := Lib.strCells_length s
  have hmx : (140737488355328 : Nat) ≤ maxLen := by decide
  have z1 : (Value.int IntKind.u8 0).cells.size = 1 := rfl
  have fresh : ∀ (old : Nat), old < bs.length + s.size → BRow (w.drew.alloc (.cells (bs.toArray ++ (Lib.strCells s).toArray ++ Builtin.zeroCells (Value.int .u8 0).cells (grownCap w (bs.length + s.size) old e - (bs.length + s.size))) e)) e (.slice (some ⟨w.heap.size, 0, none⟩) (bs.length + s.size) (grownCap w (bs.length + s.size) old e)) (bs ++ Lib.strCells s) := by
    intro old ho
    have hge := grownCap_ge w (bs.length + s.size) old e
    refine .inr ⟨w.heap.size, grownCap w (bs.length + s.size) old e, _, by rw [List.length_append, hsl], heap_alloc_new w.drew _, by rw [List.length_append, hsl]; exact hge, grownCap_le_maxLen w (bs.length + s.size) old e (by omega), ?_, ?_⟩
    · simp only [Array.size_append, List.size_toArray, size_zeroCells, z1, hsl]
      omega
    · simp only [Array.toList_append, List.append_assoc]
      rw [← List.append_assoc]
      exact List.take_left
  rcases hr with ⟨rfl, rfl⟩ | ⟨g, cap, cur, rfl, hg, h1, h2, h3, h4⟩
  · by_cases hm : s.size = 0
    · have hn : Lib.strCells s = [] := List.eq_nil_of_length_eq_zero (by rw [hsl]; exact hm)
      refine ⟨.slice none 0 0, w, ?_, .inl ⟨by rw [hn]; rfl, rfl⟩, .inl ⟨rfl, rfl⟩⟩
      have hf := Lib.run_firstCells_string (P := P) w 1 s
      rw [hm] at hf
      simp [Builtin.append_, run_underlying ht, run_underlying hu, sizeOf, typeInfo, hi, hsize, Builtin.lenOf, hm, hf]
    · have hr := run_append_nil_string (P := P) w t u ty e i (.int .u8 0) ht hu hi hz s (by omega) (by simp at hb; omega) (by rw [hby]; simp at hb; omega)
      have hf := fresh 0 (by simp; omega)
      simp only [List.length_nil, Nat.zero_add, List.nil_append, Array.empty_append] at hf
      have e1 : (s.data.map fun b => Value.int .u8 b.toNat) = (Lib.strCells s).toArray := by
        apply Array.ext'
        simp [Lib.strCells]
      rw [e1] at hr
      exact ⟨_, _, hr, hf, .inr (.inr ⟨_, _, _, rfl, rfl⟩)⟩
  · by_cases hroom : bs.length + s.size ≤ cap
    · have hr := Lib.run_append_room_string (P := P) w t u ty e i ht hu hi hsize g bs.length cap cur hg s hroom (by omega)
      have hsz : ((cur.toList.take bs.length ++ Lib.strCells s ++ cur.toList.drop (bs.length + s.size)).toArray).size = cur.size := by
        simp only [List.size_toArray, List.length_append, List.length_take, List.length_drop, Array.length_toList, hsl]
        omega
      refine ⟨_, _, hr, .inr ⟨g, cap, _, by rw [List.length_append, hsl], setRow_heap w g cur _ e _ hg, by rw [List.length_append, hsl]; exact hroom, h2, by rw [hsz]; exact h3, ?_⟩, .inr (.inl ⟨g, cap, cur, _, rfl, hg, hsz, rfl, _, rfl⟩)⟩
      rw [h4]
      exact List.take_left
    · have holds : ∀ j u, bs[j]? = some u → w.cell? ((⟨g, 0, none⟩ : Addr).add j) = some u := by
        intro j u hj
        have hjl := (List.getElem?_eq_some_iff.1 hj).1
        rw [addr_add, Nat.zero_add]
        have : w.cell? (at_ g j) = cur.toList[j]? := cell_at hg j
        rw [show (⟨g, j, none⟩ : Addr) = at_ g j from rfl, this, ← hj]
        conv => rhs; rw [← h4]
        rw [List.getElem?_take_of_lt hjl]
      have hr := Lib.run_append_grow_string (P := P) w t u ty e i (.int .u8 0) ht hu hi hz ⟨g, 0, none⟩ bs.length cap bs (by rw [hsize]; omega) holds s (by omega) (by omega) (by rw [hby]; exact growslice_fits (by omega) (by omega))
      exact ⟨_, _, hr, fresh cap (by omega), .inr (.inr ⟨_, _, _, rfl, rfl⟩)⟩

theorem wpList_append_str {P : Program} {w : World} {ops : Array Oper} {rest : List Oper} {o : Oper} {a : Act} {Q : Exit → Act → World → Prop} (hgd : o.guard = none) (sl x : Operand) (t u : TypeId)
    (ho : o.op = .call { callee := .builtin .append, args := #[sl, x], argTypes := #[t, u] })
    (e : TypeId) (i : TypeInfo) (ht : P.underlying t = some (.slice e)) (hu : P.underlying u = some .string) (hi : P.info? e = some i) (hz : i.zero = some (.int .u8 0)) (hsize : i.size = 1) (hby : i.bytes = 1)
    (v : Value) (bs : List Value) (hs : a.eval sl = v) (hr : BRow w e v bs) (s : ByteArray) (hx : a.eval x = .string s) (hb : bs.length + s.size ≤ 140737488355328)
    (h : ∀ v' w', BRow w' e v' (bs ++ Lib.strCells s) → BApp w w' e v v' → wpList P ops Q rest (a.put o.dst v') w') : wpList P ops Q (o :: rest) a w := by
  refine wpList_plain hgd fun K hK => ?_
  obtain ⟨v', w', h1, h2, h3⟩ := append_str P w t u o.type e i ht hu hi hz hsize hby v bs hr s hb
  unfold Oper.wp execOp
  simp only [ho, resolve, invoke, builtin, Sem.run_bind, Sem.run_pure, Result.andThen_ok, List.map_toArray, List.map_cons, List.map_nil, hs, hx, h1]
  exact hK _ _ (h v' w' h2 h3)

theorem setc (w : World) (g i : Nat) (cur : Array Value) (t : TypeId) (v : Value) (hg : w.heap[g]? = some (Obj.cells cur t (0, 0))) : w.setCell ⟨g, i, none⟩ v = w.setRow g (cur.setIfInBounds i v) := setCell_eq_setRow w g i cur t (0, 0) v hg

set_option maxHeartbeats 1000000 in
set_option maxRecDepth 100000 in
theorem cc_walk (g : Nat) (p v : Value) (w : World) (hg : w.heap[g]? = some (Obj.cells #[p, v] 111 (0, 0))) (hp : p = .pointer none ∨ p = .pointer (some ⟨g, 0, none⟩)) :
    Calls Tryz.prog 94 #[.pointer (some ⟨g, 0, none⟩)] w fun e w' => e = .returned (.tuple #[]) ∧ (w' = w.setRow g #[.pointer (some ⟨g, 0, none⟩), v] ∨ w' = w ∧ p = .pointer (some ⟨g, 0, none⟩)) := by
  have h0 : w.cell? ⟨g, 0, none⟩ = some p := by rw [show (⟨g, 0, none⟩ : Addr) = at_ g 0 from rfl, cell_at hg]; rfl
  have hsh : w.shape? g = some (111, 2) := by simp [World.shape?, hg]
  have hfz : w.frozen? ⟨g, 0, none⟩ = false := by simp [World.frozen?, hg]
  obtain ⟨j, hj, hjs⟩ : ∃ j, Tryz.prog.info? 111 = some j ∧ j.size = 2 := Option.map_eq_some_iff.1 (by kernel_rfl : (Tryz.prog.info? 111).map (·.size) = some 2)
  have hlies : liesAt Tryz.prog Tryz.prog.depth 111 (2 / Tryz.prog.cellsOf 111) 0 111 1 = true := by kernel_rfl
  have hset := setc w g 0 _ _ (.pointer (some ⟨g, 0, none⟩)) hg
  rcases hp with rfl | rfl
  · go_enter Tryz.func94, Tryz.ntmps94
    go_wp2
    rw [Lib.run_to_unsafe w ⟨g, 0, none⟩ Tryz.underlying109 Tryz.underlying216 hj (by rw [hjs]; decide) hsh (Nat.zero_lt_succ 1)]
    simp only [Result.andThen]
    rw [Oper.upon_value]
    go_wp2
    rw [run_callFunc_extern Tryz.func143 (by kernel_rfl) (by kernel_rfl) (by kernel_rfl) (e := Extern.AbiNoEscape.same) (by kernel_rfl)]
    rw [Lib.run_noEscape]
    simp only [Result.andThen]
    rw [Oper.upon_value]
    go_wp2
    rw [Lib.run_from_unsafe w ⟨g, 0, none⟩ Tryz.underlying216 Tryz.underlying109 hj hsh hlies]
    simp only [Result.andThen]
    rw [Oper.upon_value]
    go_wp2
    go_end0
    refine ⟨rfl, .inl ?_⟩
    first | rfl | (rw [hset]; rfl)
  · go_enter Tryz.func94, Tryz.ntmps94
    go_wp2
    rw [Lib.run_neq_ptr_same w _ Tryz.underlying109 hj]
    go_wp2
    go_end0
    exact ⟨rfl, .inr ⟨rfl, by first | rfl | trivial⟩⟩

set_option maxHeartbeats 1000000 in
set_option maxRecDepth 100000 in
theorem ws_walk (g : Nat) (p v : Value) (bs : List Value) (x : ByteArray) (w : World) (hg : w.heap[g]? = some (Obj.cells #[p, v] 111 (0, 0))) (hp : p = .pointer none ∨ p = .pointer (some ⟨g, 0, none⟩))
    (hv : BRow w 5 v bs) (hne : v.ownBlock ≠ some g) (hb : bs.length + x.size ≤ 140737488355328) :
    Calls Tryz.prog 36 #[.pointer (some ⟨g, 0, none⟩), .string x] w fun e w' => ∃ u w1 w2 v', e = .returned u ∧ (w1 = w.setRow g #[.pointer (some ⟨g, 0, none⟩), v] ∨ w1 = w ∧ p = .pointer (some ⟨g, 0, none⟩)) ∧ BRow w2 5 v' (bs ++ Lib.strCells x) ∧ BApp w1 w2 5 v v' ∧ w' = w2.setRow g #[.pointer (some ⟨g, 0, none⟩), v'] := by
  obtain ⟨i, hi, hiz⟩ : ∃ i, Tryz.prog.info? 5 = some i ∧ (i.zero, i.size, i.bytes) = (some (.int .u8 0), 1, 1) := Option.map_eq_some_iff.1 (by kernel_rfl : (Tryz.prog.info? 5).map (fun i => (i.zero, i.size, i.bytes)) = some (some (.int .u8 0), 1, 1))
  simp only [Prod.mk.injEq] at hiz
  obtain ⟨z0, z1, z2⟩ := hiz
  go_enter Tryz.func36, Tryz.ntmps36
  go_wp2_with (go_at_call 94; refine (cc_walk g p v w hg hp).mono ?_)
  rintro e w1 ⟨rfl, hw1⟩
  have hg1 : w1.heap[g]? = some (Obj.cells #[.pointer (some ⟨g, 0, none⟩), v] 111 (0, 0)) := by
    rcases hw1 with rfl | ⟨rfl, rfl⟩
    · exact setRow_heap w g _ _ _ _ hg
    · exact hg
  have hv1 : BRow w1 5 v bs := by
    rcases hw1 with rfl | ⟨rfl, rfl⟩
    · rcases hv with hv | ⟨g2, cap, cur, e1, e2, e3⟩
      · exact .inl hv
      · refine .inr ⟨g2, cap, cur, e1, ?_, e3⟩
        rw [setRow_other _ _ _ _ (fun e => hne (by rw [e1, e]; rfl))]
        exact e2
    · exact hv
  have c1 : w1.cell? ⟨g, 1, none⟩ = some v := by rw [show (⟨g, 1, none⟩ : Addr) = at_ g 1 from rfl, cell_at hg1]; rfl
  have hw1' := Lib.hid hw1
  clear hw1
  go_wp2_with (at_builtin; refine wpList_append_str rfl _ _ 22 9 rfl 5 i Tryz.underlying22 Tryz.underlying9 hi z0 z1 z2 v bs rfl hv1 x rfl hb ?_)
  intro v' w2 hr2 ha2
  have hg2 : w2.heap[g]? = some (Obj.cells #[.pointer (some ⟨g, 0, none⟩), v] 111 (0, 0)) := by
    rcases ha2 with ⟨rfl, _⟩ | ⟨g2, cap, cur, cur', e1, e2, e3, rfl, _⟩ | ⟨o, n, cap, rfl, _⟩
    · exact hg1
    · rw [setRow_other _ _ _ _ (fun e => hne (by rw [e1, e]))]
      exact hg1
    · exact (heap_alloc_old w1.drew o (Array.getElem?_eq_some_iff.1 hg1).1).trans hg1
  have d1 : w2.cell? ⟨g, 1, none⟩ = some v := by rw [show (⟨g, 1, none⟩ : Addr) = at_ g 1 from rfl, cell_at hg2]; rfl
  have f1 : w2.frozen? ⟨g, 1, none⟩ = false := by simp [World.frozen?, hg2]
  have hset := setc w2 g 1 _ _ v' hg2
  obtain ⟨ao, n', cap, rfl⟩ : ∃ ao n' cap, v' = .slice ao n' cap := by
    rcases hr2 with hv | ⟨g2, cap, cur, e1, _⟩
    · exact ⟨_, _, _, hv.2⟩
    · exact ⟨_, _, _, e1⟩
  have HR := Lib.hid hr2
  have HA := Lib.hid ha2
  clear hr2 ha2
  go_wp2
  go_ret2
  refine ⟨_, w1, w2, _, rfl, hw1'.out, HR.out, HA.out, ?_⟩
  first | rfl | (rw [hset]; rfl)

/-- Cells as they were; blocks below B too. -/
structure Sc (B : Nat) (w w' : World) : Prop where
  below : Below B w w'
  cell : ∀ g p, g < w.heap.size → w'.cell? (at_ g p) = w.cell? (at_ g p)
theorem Sc.drew (B : Nat) (w : World) : Sc B w w.drew := ⟨Below.drew (Below.refl B w), fun _ _ _ => rfl⟩
theorem Sc.view (B : Nat) (w : World) (hB : B ≤ w.heap.size) (o : Obj) : Sc B w (w.drew.alloc o) := by
  refine ⟨(Below.drew (Below.refl B w)).alloc hB o, fun g p hg => ?_⟩
  unfold World.cell?
  have : (w.drew.alloc o).heap[g]? = w.heap[g]? := heap_alloc_old w.drew o hg
  simp only [at_, this]
theorem freeze_cell (w : World) (a : Addr) (n : Nat) (p : Addr) : (w.freeze a n).cell? p = w.cell? p := by
  unfold World.freeze
  split
  · rfl
  · unfold World.cell?
    simp only [Array.getElem?_modify]
    by_cases e : a.block = p.block
    · rw [if_pos e]
      cases hb : w.heap[p.block]? with
      | none => simp
      | some o => cases o <;> simp
    · rw [if_neg e]
theorem Sc.frz (B : Nat) (w : World) (g n : Nat) (hg : B ≤ g) : Sc B w (w.drew.freeze ⟨g, 0, none⟩ n) :=
  ⟨Lib.below_freeze (Below.drew (Below.refl B w)) (p := ⟨g, 0, none⟩) hg _, fun g p _ => freeze_cell w.drew _ _ _⟩

set_option maxHeartbeats 2000000 in
set_option maxRecDepth 100000 in
theorem st_walk (B g : Nat) (p v : Value) (s : ByteArray) (w : World) (hBw : B ≤ w.heap.size) (hg : w.heap[g]? = some (Obj.cells #[p, v] 111 (0, 0)))
    (hv : BRow w 5 v (Lib.strCells s)) (hB : ∀ g2, v.ownBlock = some g2 → B ≤ g2) :
    Calls Tryz.prog 37 #[.pointer (some ⟨g, 0, none⟩)] w fun e w' => e = .returned (.string s) ∧ Sc B w w' := by
  have mixed : Tryz.prog.follows .mixedOrders = true := by kernel_rfl
  have hlt : g < w.heap.size := (Array.getElem?_eq_some_iff.1 hg).1
  have hUSn : ∀ (W : World) (q : Option Addr), (Builtin.unsafeString_ #[166, 3] 9 #[.pointer q, .int .i64 0]).run Tryz.prog W = .ok (.string .empty) W := fun W q => Lib.run_unsafeString_none W _ _ _ q
  have c1 : w.drew.cell? ⟨g, 1, none⟩ = some v := by rw [show (⟨g, 1, none⟩ : Addr) = at_ g 1 from rfl, show w.drew.cell? (at_ g 1) = w.cell? (at_ g 1) from rfl, cell_at hg]; rfl
  have c0 : w.cell? ⟨g, 1, none⟩ = some v := c1
  have hsl := Lib.strCells_length s
  by_cases hs : s.size = 0
  · obtain rfl : s = ⟨#[]⟩ := ByteArray.ext (Array.eq_empty_of_size_eq_zero hs)
    have hn : Lib.strCells ⟨#[]⟩ = [] := rfl
    rw [hn] at hv
    rcases hv with ⟨_, rfl⟩ | ⟨g2, cap, cur, rfl, hg2, _, _, _, _⟩
    · have hSD : (Builtin.unsafeSliceData_ #[22] 166 #[.slice none 0 0]).run Tryz.prog w.drew = .ok (.pointer none) w.drew := rfl
      go_enter Tryz.func37, Tryz.ntmps37
      go_wp2
      go_region_o
      all_goals (go_wp2; go_ret; exact ⟨rfl, Sc.drew B w⟩)
    · simp only [List.length_nil] at *
      by_cases hc : cap = 0
      · subst hc
        have hSD : (Builtin.unsafeSliceData_ #[22] 166 #[.slice (some ⟨g2, 0, none⟩) 0 0]).run Tryz.prog w.drew = .ok (.pointer (some ⟨w.drew.heap.size, 0, none⟩)) (w.drew.alloc (.view ⟨g2, 0, none⟩ 5)) :=
          Lib.run_unsafeSliceData_zero w.drew _ _ 5 Tryz.underlying166 ⟨g2, 0, none⟩ 0 (5, cur.size) (by have hg' : w.drew.heap[g2]? = some (.cells cur 5 (0, 0)) := hg2; simp [World.shape?, hg'])
        have c2 : (w.drew.alloc (.view ⟨g2, 0, none⟩ 5)).cell? ⟨g, 1, none⟩ = some (.slice (some ⟨g2, 0, none⟩) 0 0) := ((Sc.view 0 w (Nat.zero_le _) _).cell g 1 hlt).trans c0
        have c3 : (w.alloc (.view ⟨g2, 0, none⟩ 5)).drew.cell? ⟨g, 1, none⟩ = some (.slice (some ⟨g2, 0, none⟩) 0 0) := c2
        go_enter Tryz.func37, Tryz.ntmps37
        go_wp2
        go_region_o
        all_goals (go_wp2; go_ret; exact ⟨rfl, Sc.view B w hBw _⟩)
      · have hSD : (Builtin.unsafeSliceData_ #[22] 166 #[.slice (some ⟨g2, 0, none⟩) 0 cap]).run Tryz.prog w.drew = .ok (.pointer (some ⟨g2, 0, none⟩)) w.drew := Lib.run_unsafeSliceData_row _ _ _ _ _ _ hc
        clear hc
        go_enter Tryz.func37, Tryz.ntmps37
        go_wp2
        go_region_o
        all_goals (go_wp2; go_ret; exact ⟨rfl, Sc.drew B w⟩)
  · rcases hv with ⟨hn, _⟩ | ⟨g2, cap, cur, rfl, hg2, k1, k2, k3, k4⟩
    · rw [hn] at hsl; exact absurd hsl.symm hs
    have hB2 := hB g2 rfl
    rw [hsl] at k1 k4
    rw [hsl] at c0 c1
    obtain ⟨l, rfl⟩ : ∃ l : List UInt8, s = ⟨l.toArray⟩ := ⟨s.data.toList, by cases s; simp⟩
    have hsz : (⟨l.toArray⟩ : ByteArray).size = l.length := by simp [ByteArray.size]
    rw [hsz] at k1 k4 c0 c1 hs
    have hl0 : l ≠ [] := fun e => hs (by rw [e]; rfl)
    have hSD : (Builtin.unsafeSliceData_ #[22] 166 #[.slice (some ⟨g2, 0, none⟩) l.length cap]).run Tryz.prog w.drew = .ok (.pointer (some ⟨g2, 0, none⟩)) w.drew := Lib.run_unsafeSliceData_row _ _ _ _ _ _ (by omega)
    have hUS : (Builtin.unsafeString_ #[166, 3] 9 #[.pointer (some ⟨g2, 0, none⟩), .int .i64 l.length]).run Tryz.prog w.drew = .ok (.string ⟨l.toArray⟩) (w.drew.freeze ⟨g2, 0, none⟩ l.length) := by
      refine Lib.run_unsafeString_row w.drew 166 3 9 5 Tryz.underlying166 (by kernel_rfl) g2 cur.size (by have hg' : w.drew.heap[g2]? = some (.cells cur 5 (0, 0)) := hg2; simp [World.shape?, hg']) l hl0 (by omega) (by unfold maxLen at k2; omega) ?_
      intro j x hx
      have hjl := (List.getElem?_eq_some_iff.1 hx).1
      rw [addr_add, Nat.zero_add]
      have e1 : w.drew.cell? ⟨g2, j, none⟩ = cur.toList[j]? := cell_at hg2 j
      rw [e1, ← List.getElem?_take_of_lt (l := cur.toList) hjl, k4]
      simp [Lib.strCells, hx]
    go_enter Tryz.func37, Tryz.ntmps37
    go_wp2
    go_region_o
    all_goals (go_wp2; go_ret; exact ⟨rfl, Sc.frz B w g2 l.length hB2⟩)
end Go.Proofs.YtcjfheidmlcbfaaGreatDoor.V
