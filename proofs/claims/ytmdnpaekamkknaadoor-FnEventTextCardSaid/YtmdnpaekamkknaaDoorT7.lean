/- Plain Lean over the printed functions: what draws of events come to. -/
import Derived.Test.YtmdnpaekamkknaaDoorT6
import Derived.Lib.ItoaLen
set_option linter.unusedVariables false
set_option linter.unusedSimpArgs false
set_option linter.unusedSectionVars false
namespace Go.Proofs.YtmdnpaekamkknaaDoor.PEo
open Go Go.RowKit Go.Proofs.YtmdnpaekamkknaaDoor.V Go.Proofs.YtmdnpaekamkknaaDoor.C

/-- From some fuel on it answers something of which Q holds. -/
def Out {β : Type} (Q : β → Prop) (x : Nat → Option β) : Prop := ∃ v, Ev x v ∧ Q v
namespace Out
variable {α β : Type}
theorem ret {Q : β → Prop} {v : β} (h : Q v) : Out Q (fun _ => some v) := ⟨v, Ev.ret v, h⟩
theorem bind {Q : α → Prop} {Q' : β → Prop} {g : Nat → Option α} {h : Nat → α → Option β} (hg : Out Q g) (hh : ∀ v, Q v → Out Q' (fun k => h k v)) : Out Q' (fun k => (g k).bind (h k)) := by
  obtain ⟨v, h1, h2⟩ := hg
  obtain ⟨u, h3, h4⟩ := hh v h2
  exact ⟨u, Ev.bind h1 h3, h4⟩
theorem step {Q : β → Prop} {g : Nat → Option β} (h : Out Q (fun k => g (k + 1))) : Out Q g := by
  obtain ⟨v, h1, h2⟩ := h; exact ⟨v, Ev.step h1, h2⟩
theorem ite_pos {Q : β → Prop} {c : Prop} [Decidable c] {g h : Nat → Option β} (hc : c) (hg : Out Q g) : Out Q (fun k => if c then g k else h k) := by
  obtain ⟨v, h1, h2⟩ := hg; exact ⟨v, Ev.ite_pos hc h1, h2⟩
theorem ite_neg {Q : β → Prop} {c : Prop} [Decidable c] {g h : Nat → Option β} (hc : ¬ c) (hg : Out Q h) : Out Q (fun k => if c then g k else h k) := by
  obtain ⟨v, h1, h2⟩ := hg; exact ⟨v, Ev.ite_neg hc h1, h2⟩
theorem ite {Q : β → Prop} {c : Prop} [Decidable c] {g h : Nat → Option β} (hg : c → Out Q g) (hh : ¬ c → Out Q h) : Out Q (fun k => if c then g k else h k) := by
  by_cases hc : c
  · exact ite_pos hc (hg hc)
  · exact ite_neg hc (hh hc)
theorem mono {Q Q' : β → Prop} {x : Nat → Option β} (h : Out Q x) (hq : ∀ v, Q v → Q' v) : Out Q' x := by
  obtain ⟨v, h1, h2⟩ := h; exact ⟨v, h1, hq v h2⟩
theorem ev {Q : β → Prop} {x : Nat → Option β} {v : β} (h : Ev x v) (hq : Q v) : Out Q x := ⟨v, h, hq⟩
theorem get {x : Nat → Option β} {v : β} (h : Out (· = v) x) : Ev x v := by obtain ⟨u, h1, rfl⟩ := h; exact h1
end Out

/-- A cursor that stands right. -/
structure Cur (y : S56) : Prop where
  pos : 0 ≤ y.f1
  len : y.f0.length ≤ 2097152

theorem and_255 (a : Int) : 0 ≤ bitAnd .i64 a 255 ∧ bitAnd .i64 a 255 ≤ 255 := by
  have h1 : (BitVec.ofInt 64 a &&& BitVec.ofInt 64 255).toNat ≤ 255 := by
    rw [BitVec.toNat_and]
    exact Nat.le_trans Nat.and_le_right (by decide)
  have h2 : bitAnd .i64 a 255 = IntKind.wrap .i64 ((BitVec.ofInt 64 a &&& BitVec.ofInt 64 255).toNat : Int) := rfl
  rw [h2]
  generalize (BitVec.ofInt 64 a &&& BitVec.ofInt 64 255).toNat = m at h1
  have h3 : IntKind.wrap .i64 (m : Int) = wrap64 (m : Int) := (wrapK_eq .i64 _).symm
  rw [h3, wrap_of (by omega) (by omega)]
  omega

theorem byte_out {y : S56} (c : Cur y) : Out (fun z => (0 ≤ z.1 ∧ z.1 ≤ 255) ∧ Cur z.2) (fun _ => spec_l01Byte_o1.f y) := by
  obtain ⟨c1, c2⟩ := c
  unfold spec_l01Byte_o1.f
  refine Out.ite (fun h => Out.ite_pos c1 (Out.ite_pos h (Out.ret ⟨and_255 _, ?_, ?_⟩))) fun h => Out.ret ⟨and_255 _, c1, c2⟩
  · show 0 ≤ wrap64 (y.f1 + 1)
    rw [wrap_of (by omega) (by omega)]; omega
  · exact c2

theorem below_out {y : S56} (c : Cur y) {n : Int} (hn : 0 < n) : Out (fun z => (0 ≤ z.1 ∧ z.1 < n) ∧ Cur z.2) (fun _ => spec_l01Below_o1.f n y) := by
  first | (unfold spec_l01Below_o1.f; rw [spec_l01Below_o1.fs_eq]; unfold spec_l01Below_o1.fb) | unfold spec_l01Below_o1.f
  refine Out.ite_neg (by omega) (Out.ite (fun h => ?_) fun h => ?_)
  · refine Out.bind (byte_out c) fun z hz => Out.ite_neg (by omega) (Out.ret ⟨⟨?_, ?_⟩, hz.2⟩)
    · exact Int.tmod_nonneg _ hz.1.1
    · exact Int.tmod_lt_of_pos _ hn
  · refine Out.bind (byte_out c) fun z hz => Out.bind (byte_out hz.2) fun z2 hz2 => Out.bind (byte_out hz2.2) fun z3 hz3 => Out.bind (byte_out hz3.2) fun z4 hz4 => Out.ite_neg (by omega) (Out.ret ⟨⟨?_, ?_⟩, hz4.2⟩)
    · refine Int.tmod_nonneg _ ?_
      obtain ⟨⟨a1, a2⟩, _⟩ := hz
      obtain ⟨⟨b1, b2⟩, _⟩ := hz2
      obtain ⟨⟨d1, d2⟩, _⟩ := hz3
      obtain ⟨⟨e1, e2⟩, _⟩ := hz4
      rw [wrap_of (a := z.1 * 16777216) (by omega) (by omega), wrap_of (a := z2.1 * 65536) (by omega) (by omega), wrap_of (a := z3.1 * 256) (by omega) (by omega), wrap_of (a := z.1 * 16777216 + z2.1 * 65536) (by omega) (by omega), wrap_of (a := z.1 * 16777216 + z2.1 * 65536 + z3.1 * 256) (by omega) (by omega), wrap_of (by omega) (by omega)]
      omega
    · exact Int.tmod_lt_of_pos _ hn
theorem pick_out {y : S56} (c : Cur y) {l : List Int} (hl : l ≠ []) : Out (fun z => z.1 ∈ l ∧ Cur z.2.1) (fun _ => spec_l01PickInt_o1.f y l) := by
  have h0 : 0 < l.length := List.length_pos_iff.2 hl
  unfold spec_l01PickInt_o1.f
  refine Out.bind (below_out c (n := (l.length : Int)) (by omega)) fun z hz => Out.ite_pos hz.1.1 (Out.ite_pos hz.1.2 (Out.ret ⟨?_, hz.2⟩))
  exact getD_mem (z := (0 : Int)) (by have := hz.1; omega)

theorem new_out (code : List Int) (h : code.length ≤ 2097152) : Out (fun z => Cur z) (fun k => spec_l01New.f k code) := by
  unfold spec_l01New.f
  have key : ∀ (m i : Nat) (x : Int), i + m = code.length → Out (fun z => Cur z) (fun k => spec_l01New.l6 k code x (i : Int)) := by
    intro m
    induction m with
    | zero =>
      intro i x hi
      refine Out.step ?_
      simp only [spec_l01New.l6]
      exact Out.ite_neg (by omega) (Out.ret ⟨Int.le_refl _, h⟩)
    | succ m ih =>
      intro i x hi
      refine Out.step ?_
      simp only [spec_l01New.l6]
      refine Out.ite_pos (by omega) (Out.ite (fun _ => Out.ite_pos (by omega) (Out.ite_pos (by omega) ?_)) fun _ => Out.ret ⟨Int.le_refl _, h⟩)
      rw [wrap_of (a := (i : Int) + 1) (by omega) (by omega)]
      exact ih (i + 1) _ (by omega)
  exact key code.length 0 _ (by omega)

theorem word_out {y : S56} (c : Cur y) : Out (fun z => (0 ≤ z.1 ∧ z.1 ≤ 4294967295) ∧ Cur z.2) (fun _ => spec_l01Word_o1.f y) := by
  have hw : ∀ n : Int, 0 ≤ IntKind.wrap .u32 n ∧ IntKind.wrap .u32 n ≤ 4294967295 := fun n => by rw [IntKind.wrap_u32]; omega
  unfold spec_l01Word_o1.f
  refine Out.bind (below_out c (n := 4) (by omega)) fun z hz => Out.ite (fun _ => Out.bind (pick_out hz.2 (by simp)) fun u hu => Out.ret ⟨hw _, hu.2⟩) fun _ => Out.ite (fun _ => Out.bind (below_out hz.2 (n := 300) (by omega)) fun u hu => Out.ret ⟨hw _, hu.2⟩) fun _ => Out.bind (below_out hz.2 (n := 65536) (by omega)) fun u hu => Out.bind (below_out hu.2 (n := 65536) (by omega)) fun v hv => Out.ret ⟨hw _, hv.2⟩

structure EvQ (e : SEv) : Prop where
  f0 : -9223372036854775808 ≤ e.f0 ∧ e.f0 ≤ 1000001
  f1 : 0 ≤ e.f1 ∧ e.f1 ≤ 89
  f2 : 0 ≤ e.f2 ∧ e.f2 < 4294967296
  f3 : -2 ≤ e.f3 ∧ e.f3 ≤ 99
  f4 : -5 ≤ e.f4 ∧ e.f4 ≤ 1000001
  f5 : 0 ≤ e.f5 ∧ e.f5 ≤ 33
  f6 : 0 ≤ e.f6 ∧ e.f6 < 4294967296
theorem event_out {y : S56} (c : Cur y) : Out (fun z => EvQ z.1 ∧ Cur z.2) (fun _ => spec_l22Event_o1.f y) := by
  unfold spec_l22Event_o1.f
  refine Out.bind (below_out c (n := 5000) (by omega)) fun t1 h1 => Out.bind (below_out h1.2 (n := 90) (by omega)) fun t2 h2 => Out.bind (word_out h2.2) fun t3 h3 => Out.bind (below_out h3.2 (n := 34) (by omega)) fun t4 h4 => Out.bind (below_out h4.2 (n := 10) (by omega)) fun t5 h5 => Out.bind (below_out h5.2 (n := 34) (by omega)) fun t6 h6 => Out.bind (word_out h6.2) fun t7 h7 => Out.bind (below_out h7.2 (n := 14) (by omega)) fun t8 h8 => ?_
  have e1 := h1.1; have e2 := h2.1; have e3 := h3.1; have e4 := h4.1; have e5 := h5.1; have e6 := h6.1; have e7 := h7.1
  have w4 : wrap64 (t4.1 - 1) = t4.1 - 1 := wrap_of (by omega) (by omega)
  rw [w4]
  refine Out.ite (fun _ => Out.bind (pick_out h8.2 (by simp)) fun q hq => Out.ret ⟨?_, hq.2⟩) fun _ => Out.ite (fun _ => Out.bind (pick_out h8.2 (by simp)) fun q hq => Out.ret ⟨?_, hq.2⟩) fun _ => Out.ite (fun _ => Out.bind (pick_out h8.2 (by simp)) fun q hq => Out.ret ⟨?_, hq.2⟩) fun _ => Out.ret ⟨?_, h8.2⟩
  · have hm := hq.1
    simp only [List.mem_cons, List.not_mem_nil, or_false] at hm
    exact ⟨by show _ ≤ t1.1 ∧ t1.1 ≤ _; omega, by show _ ≤ t2.1 ∧ t2.1 ≤ _; omega, by show _ ≤ t3.1 ∧ t3.1 < _; omega, by show _ ≤ q.1 ∧ q.1 ≤ _; omega, by show _ ≤ t5.1 ∧ t5.1 ≤ _; omega, by show _ ≤ t6.1 ∧ t6.1 ≤ _; omega, by show _ ≤ t7.1 ∧ t7.1 < _; omega⟩
  · have hm := hq.1
    simp only [List.mem_cons, List.not_mem_nil, or_false] at hm
    exact ⟨by show _ ≤ q.1 ∧ q.1 ≤ _; omega, by show _ ≤ t2.1 ∧ t2.1 ≤ _; omega, by show _ ≤ t3.1 ∧ t3.1 < _; omega, by show _ ≤ t4.1 - 1 ∧ t4.1 - 1 ≤ _; omega, by show _ ≤ t5.1 ∧ t5.1 ≤ _; omega, by show _ ≤ t6.1 ∧ t6.1 ≤ _; omega, by show _ ≤ t7.1 ∧ t7.1 < _; omega⟩
  · have hm := hq.1
    simp only [List.mem_cons, List.not_mem_nil, or_false] at hm
    exact ⟨by show _ ≤ t1.1 ∧ t1.1 ≤ _; omega, by show _ ≤ t2.1 ∧ t2.1 ≤ _; omega, by show _ ≤ t3.1 ∧ t3.1 < _; omega, by show _ ≤ t4.1 - 1 ∧ t4.1 - 1 ≤ _; omega, by show _ ≤ q.1 ∧ q.1 ≤ _; omega, by show _ ≤ t6.1 ∧ t6.1 ≤ _; omega, by show _ ≤ t7.1 ∧ t7.1 < _; omega⟩
  · exact ⟨by show _ ≤ t1.1 ∧ t1.1 ≤ _; omega, by show _ ≤ t2.1 ∧ t2.1 ≤ _; omega, by show _ ≤ t3.1 ∧ t3.1 < _; omega, by show _ ≤ t4.1 - 1 ∧ t4.1 - 1 ≤ _; omega, by show _ ≤ t5.1 ∧ t5.1 ≤ _; omega, by show _ ≤ t6.1 ∧ t6.1 ≤ _; omega, by show _ ≤ t7.1 ∧ t7.1 < _; omega⟩
theorem draw_out (code : List Int) (h : code.length ≤ 2097152) : Out (fun z => EvQ z) (fun k => spec_DrawEventText.f k code) := by
  unfold spec_DrawEventText.f
  exact Out.bind (new_out code h) fun y hy => Out.bind (Out.mono (event_out hy) fun z hz => hz) fun z hz => Out.ret hz.1
theorem itoa_some (n : Int) (h0 : -9223372036854775808 ≤ n) (h1 : n ≤ 9223372036854775807) : impl_DecText.f n = some (ba (Lib.itoa n)) ∧ (ba (Lib.itoa n)).size ≤ 21 := by
  refine ⟨?_, by rw [ba_size]; exact Lib.itoa_length_le n h0 h1⟩
  unfold impl_DecText.f strconv_Itoa.f itoaF
  rw [if_pos h0, if_pos h1]
  rfl
def sp : ByteArray := ByteArray.mk #[32]
def txt (o a b h c d g : ByteArray) : ByteArray := (((((((((((a ++ ByteArray.mk #[32]) ++ b) ++ ByteArray.mk #[32]) ++ h) ++ ByteArray.mk #[32]) ++ o) ++ ByteArray.mk #[32]) ++ c) ++ ByteArray.mk #[32]) ++ d) ++ ByteArray.mk #[32]) ++ g
theorem sz32 : (ByteArray.mk #[32]).size = 1 := rfl
theorem sz45 : (ByteArray.mk #[45]).size = 1 := rfl
set_option maxHeartbeats 1000000 in
theorem spec_text (k : Nat) (e : S26) {o a b h c d g : ByteArray} (ho : spec_OpName.f e.f3 = some o) (ha : spec_DecText.f k e.f0 = some a) (hb : spec_DecText.f k e.f1 = some b) (hh : spec_HexWord.f k e.f2 = some h) (hc : spec_DecText.f k e.f4 = some c) (hd : spec_DecText.f k e.f5 = some d) (hg : spec_HexWord.f k e.f6 = some g)
    (so : o.size ≤ 30) (sa : a.size ≤ 30) (sb : b.size ≤ 30) (sh : h.size ≤ 30) (sc : c.size ≤ 30) (sd : d.size ≤ 30) (sg : g.size ≤ 30) : spec_EventText.f k e = some (txt (if o = ByteArray.mk #[] then ByteArray.mk #[45] else o) a b h c d g) := by
  unfold spec_EventText.f
  rw [ho]
  by_cases hz : o = ByteArray.mk #[]
  · simp only [Option.bind_some, if_pos hz, ha, hb, hh, hc, hd, hg]
    repeat rw [if_pos (by simp only [ByteArray.size_append, sz32, sz45]; omega)]
    rfl
  · simp only [Option.bind_some, if_neg hz, ha, hb, hh, hc, hd, hg]
    repeat rw [if_pos (by simp only [ByteArray.size_append, sz32, sz45]; omega)]
    rfl
set_option maxHeartbeats 1000000 in
theorem impl_text (k : Nat) (e : S26) {o a b h c d g : ByteArray} (ho : impl_OpName.f e.f3 = some o) (ha : impl_DecText.f e.f0 = some a) (hb : impl_DecText.f e.f1 = some b) (hh : impl_hexWord.f k e.f2 = some h) (hc : impl_DecText.f e.f4 = some c) (hd : impl_DecText.f e.f5 = some d) (hg : impl_hexWord.f k e.f6 = some g)
    (so : o.size ≤ 30) (sa : a.size ≤ 30) (sb : b.size ≤ 30) (sh : h.size ≤ 30) (sc : c.size ≤ 30) (sd : d.size ≤ 30) (sg : g.size ≤ 30) : impl_eventText.f k e = some (txt (if o = ByteArray.mk #[] then ByteArray.mk #[45] else o) a b h c d g) := by
  unfold impl_eventText.f
  rw [ho]
  by_cases hz : o = ByteArray.mk #[]
  · simp only [Option.bind_some, if_pos hz, ha, hb, hh, hc, hd, hg]
    repeat rw [if_pos (by simp only [ByteArray.size_append, sz32, sz45]; omega)]
    rfl
  · simp only [Option.bind_some, if_neg hz, ha, hb, hh, hc, hd, hg]
    repeat rw [if_pos (by simp only [ByteArray.size_append, sz32, sz45]; omega)]
    rfl
end Go.Proofs.YtmdnpaekamkknaaDoor.PEo
