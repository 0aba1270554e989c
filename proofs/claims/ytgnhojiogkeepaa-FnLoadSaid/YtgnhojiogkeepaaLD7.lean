/- Plain Lean over the printed functions: words that are drawn; bytes and words; windows; fetching. -/
import Derived.Test.YtgnhojiogkeepaaLD4
import Derived.Test.YtgnhojiogkeepaaLC21
set_option linter.unusedVariables false
set_option linter.unusedSimpArgs false
set_option linter.unusedSectionVars false
namespace Go.Proofs.Ytgnhojiogkeepaa.PLo
open Go Go.RowKit Go.Proofs.Ytgnhojiogkeepaa.V Go.Proofs.Ytgnhojiogkeepaa.C

theorem wrap_u32 (n : Int) : IntKind.wrap .u32 n = n % 4294967296 := by
  simp [IntKind.wrap, IntKind.bits, IntKind.signed]

/-! ### What is drawn -/
theorem word_out {y : S119} (c : Cur y) : Out (fun z => (0 ≤ z.1 ∧ z.1 ≤ 4294967295) ∧ Cur z.2) (fun _ => spec_l01Word_o1.f y) := by
  have hw : ∀ n : Int, 0 ≤ IntKind.wrap .u32 n ∧ IntKind.wrap .u32 n ≤ 4294967295 := fun n => by rw [wrap_u32]; omega
  unfold spec_l01Word_o1.f
  refine Out.bind (below_out c (n := 4) (by omega)) fun z hz => Out.ite (fun _ => Out.bind (pick_out hz.2 (by simp)) fun u hu => Out.ret ⟨hw _, hu.2⟩) fun _ => Out.ite (fun _ => Out.bind (below_out hz.2 (n := 300) (by omega)) fun u hu => Out.ret ⟨hw _, hu.2⟩) fun _ => Out.bind (below_out hz.2 (n := 65536) (by omega)) fun u hu => Out.bind (below_out hu.2 (n := 65536) (by omega)) fun v hv => Out.ret ⟨hw _, hv.2⟩
def WsQ (n : Int) (z : List Int × S119) : Prop := ((z.1.length : Int) ≤ n ∧ ∀ x ∈ z.1, 0 ≤ x ∧ x ≤ 4294967295) ∧ Cur z.2
theorem words_out {n : Int} (hn : 0 ≤ n ∧ n ≤ 1000) (m : Nat) : ∀ (i : Nat) {y : S119} (c : Cur y) (l : List Int), (i : Int) + m = n → l.length = i → (∀ x ∈ l, 0 ≤ x ∧ x ≤ 4294967295) → Out (WsQ n) (fun k => spec_l01Words_o1.l6 k n (i : Int) y l) := by
  induction m with
  | zero =>
    intro i y c l hi hl hx
    refine Out.step ?_
    simp only [spec_l01Words_o1.l6]
    exact Out.ite_neg (by omega) (Out.ret ⟨⟨by show (l.length : Int) ≤ n; omega, hx⟩, c⟩)
  | succ m ih =>
    intro i y c l hi hl hx
    refine Out.step ?_
    simp only [spec_l01Words_o1.l6, wrap_of (a := (i : Int) + 1) (by omega) (by omega)]
    refine Out.ite_pos (by omega) (Out.bind (word_out c) fun z hz => Out.ite_pos (by simp only [List.length_cons, List.length_nil]; omega) ?_)
    exact ih (i + 1) hz.2 (l ++ [z.1]) (by omega) (by simp [hl]) (fun x hm => by
      rcases List.mem_append.1 hm with h | h
      · exact hx x h
      · rw [List.mem_singleton.1 h]; exact hz.1)
theorem words_of {n : Int} (hn : 0 ≤ n ∧ n ≤ 1000) {y : S119} (c : Cur y) : Out (WsQ n) (fun k => spec_l01Words_o1.f k n y) := by
  unfold spec_l01Words_o1.f
  exact words_out hn n.toNat 0 c [] (by omega) rfl (by simp)
structure LdQ (z : S50 × Int × List Int) : Prop where
  tab : Any z.1
  len : z.2.2.length ≤ 300
  word : ∀ x ∈ z.2.2, 0 ≤ x ∧ x ≤ 4294967295
theorem drawLoad_out (code : List Int) (hc : code.length ≤ 1048576) : Out LdQ (fun k => spec_DrawLoadImage.f k code) := by
  unfold spec_DrawLoadImage.f
  refine Out.bind (new_out code (by omega)) fun y hy => Out.bind (any_out hy) fun u hu => Out.bind (below_out hu.2 (n := 4) (by omega)) fun z hz => Out.bind (below_out hz.2 (n := 36) (by omega)) fun v hv => Out.bind (words_of (by omega) hv.2) fun w hw => Out.bind (once_out hw.2 20) fun o ho => ?_
  have h1 := hw.1
  have hz1 := hv.1
  refine Out.ite (fun _ => Out.bind (below_out ho (n := 2) (by omega)) fun a ha => ?_) fun _ => Out.bind (once_out ho 12) fun b hb => Out.ite (fun _ => Out.ret ⟨hu.1, by show w.1.length ≤ 300; omega, h1.2⟩) fun _ => Out.ret ⟨hu.1, by show w.1.length ≤ 300; omega, h1.2⟩
  have ha1 := ha.1
  rw [wrap_of (a := 256 + a.1) (by omega) (by omega)]
  refine Out.bind (words_of (by omega) ha.2) fun w2 hw2 => Out.bind (once_out hw2.2 12) fun b hb => ?_
  have h2 := hw2.1
  exact Out.ite (fun _ => Out.ret ⟨hu.1, by show w2.1.length ≤ 300; omega, h2.2⟩) fun _ => Out.ret ⟨hu.1, by show w2.1.length ≤ 300; omega, h2.2⟩

/-! ### Bytes and words -/
theorem ofInt_nat (a : Nat) : BitVec.ofInt 32 (a : Int) = BitVec.ofNat 32 a := by
  apply BitVec.eq_of_toNat_eq
  simp [BitVec.toNat_ofInt, BitVec.toNat_ofNat]
theorem or_add (a b n : Nat) (ha : a < 2 ^ n) (h : 2 ^ n * b + a < 4294967296) : bitOr .u32 (a : Int) ((2 ^ n * b : Nat) : Int) = ((2 ^ n * b + a : Nat) : Int) := by
  unfold bitOr
  show IntKind.wrap .u32 ((BitVec.ofInt 32 (a : Int) ||| BitVec.ofInt 32 ((2 ^ n * b : Nat) : Int)).toNat : Int) = _
  rw [ofInt_nat, ofInt_nat, BitVec.toNat_or, BitVec.toNat_ofNat, BitVec.toNat_ofNat, Nat.mod_eq_of_lt (by omega), Nat.mod_eq_of_lt (by omega), Nat.or_comm, ← Nat.two_pow_add_eq_or_of_lt ha, wrap_u32]
  omega
theorem shl_u32 (x : Int) (n : Nat) (hn : n ≤ 32) (h : 0 ≤ x * 2 ^ n ∧ x * 2 ^ n < 4294967296) : shl .u32 x (n : Int) = x * 2 ^ n := by
  unfold shl
  rw [show min (n : Int).toNat (IntKind.bits .u32) = n by simp [IntKind.bits]; omega, wrap_u32]
  omega
theorem word_some (x : Int) (h : 0 ≤ x ∧ x ≤ 4294967295) : impl_WordOf.f (bts x) = some (x, true) := by
  unfold impl_WordOf.f
  have e0 : (bts x).getD 0 0 = x % 256 := rfl
  have e1 : (bts x).getD 1 0 = x / 256 % 256 := rfl
  have e2 : (bts x).getD 2 0 = x / 65536 % 256 := rfl
  have e3 : (bts x).getD 3 0 = x / 16777216 % 256 := rfl
  have el : ((bts x).length : Int) = 4 := rfl
  rw [if_pos el, if_pos (by rw [el]; decide), if_pos (by rw [el]; decide), if_pos (by rw [el]; decide), if_pos (by rw [el]; decide), e0, e1, e2, e3]
  have w : ∀ a : Int, 0 ≤ a → a ≤ 255 → IntKind.wrap .u32 a = a := fun a h1 h2 => by rw [wrap_u32]; omega
  rw [w (x % 256) (by omega) (by omega), w (x / 256 % 256) (by omega) (by omega), w (x / 65536 % 256) (by omega) (by omega), w (x / 16777216 % 256) (by omega) (by omega)]
  obtain ⟨a, ha⟩ : ∃ a : Nat, x % 256 = a := ⟨(x % 256).toNat, by omega⟩
  obtain ⟨b, hb⟩ : ∃ b : Nat, x / 256 % 256 = b := ⟨(x / 256 % 256).toNat, by omega⟩
  obtain ⟨c, hc⟩ : ∃ c : Nat, x / 65536 % 256 = c := ⟨(x / 65536 % 256).toNat, by omega⟩
  obtain ⟨d, hd⟩ : ∃ d : Nat, x / 16777216 % 256 = d := ⟨(x / 16777216 % 256).toNat, by omega⟩
  rw [ha, hb, hc, hd]
  have s1 : shl .u32 (b : Int) 8 = ((2 ^ 8 * b : Nat) : Int) := by rw [show (8 : Int) = ((8 : Nat) : Int) from rfl, shl_u32 _ _ (by omega) (by omega)]; omega
  have s2 : shl .u32 (c : Int) 16 = ((2 ^ 16 * c : Nat) : Int) := by rw [show (16 : Int) = ((16 : Nat) : Int) from rfl, shl_u32 _ _ (by omega) (by omega)]; omega
  have s3 : shl .u32 (d : Int) 24 = ((2 ^ 24 * d : Nat) : Int) := by rw [show (24 : Int) = ((24 : Nat) : Int) from rfl, shl_u32 _ _ (by omega) (by omega)]; omega
  rw [s1, s2, s3, or_add a b 8 (by omega) (by omega), or_add (2 ^ 8 * b + a) c 16 (by omega) (by omega), or_add (2 ^ 16 * c + (2 ^ 8 * b + a)) d 24 (by omega) (by omega)]
  congr 2
  omega
theorem flat_drop : ∀ (ws : List Int) (i : Nat), (ws.flatMap bts).drop (4 * i) = (ws.drop i).flatMap bts
  | [], i => by simp
  | x :: ws, 0 => by simp
  | x :: ws, i + 1 => by
    rw [List.flatMap_cons, List.drop_succ_cons, ← flat_drop ws i, List.drop_append, List.drop_eq_nil_of_le (by show 4 ≤ _; omega), List.nil_append]
    congr 1
theorem part_word {S fr : Nat} {ws : List Int} {i : Nat} (hi : i < ws.length) : ((part S fr (ws.flatMap bts)).drop (fr + 4 * i)).take 4 = bts (ws.getD i 0) := by
  unfold part
  rw [List.append_assoc, List.drop_append, List.drop_eq_nil_of_le (by simp), List.nil_append, List.length_replicate, show fr + 4 * i - fr = 4 * i by omega]
  have hl := flat_len4 ws
  rw [List.drop_append_of_le_length (by omega), flat_drop, Ev.drop_getD ws 0 i hi, List.flatMap_cons, List.append_assoc]
  rfl

/-! ### Windows -/
structure WinsOk (l : List S40) : Prop where
  len : l.length ≤ 4
  win : ∀ i, i < l.length → windowB (l.getD i z40) = true
  apart : ∀ i, i < l.length → ∀ v ∈ l.take i, apartB v (l.getD i z40) = true
theorem wins_get (mem : Int) : ∀ (ws all : List S40), winsB mem ws all = true → ∀ i, i < ws.length → windowB (ws.getD i z40) = true ∧ ∀ v ∈ all ++ ws.take i, apartB v (ws.getD i z40) = true
  | [], all, _, i, hi => by simp at hi
  | x :: ws, all, h, 0, _ => by
    simp only [winsB, Bool.and_eq_true, Bool.not_eq_true', List.any_eq_false] at h
    refine ⟨h.1, fun v hv => ?_⟩
    rw [List.take_zero, List.append_nil] at hv
    have := h.2.2.1 v hv
    simpa using this
  | x :: ws, all, h, i + 1, hi => by
    simp only [winsB, Bool.and_eq_true] at h
    have ih := wins_get mem ws (all ++ [x]) h.2.2.2 i (by simpa using hi)
    have hs : (x :: ws).getD (i + 1) z40 = ws.getD i z40 := by simp [List.getD_eq_getElem?_getD]
    rw [hs, List.take_succ_cons]
    refine ⟨ih.1, fun v hv => ih.2 v ?_⟩
    rw [List.append_assoc]
    exact hv
theorem parts_get (mem : Int) (P : List S75) : ∀ (l : List S75) (i : Int) (all : List S40), partsB mem P l i all = true → ∀ j, j < l.length → ∃ all', winsB mem (l.getD j z75).f3 all' = true ∧ tailB (l.getD j z75) = true
  | [], i, all, _, j, hj => by simp at hj
  | p :: l, i, all, h, 0, _ => by
    simp only [partsB, Bool.and_eq_true] at h
    exact ⟨all, h.2.1, h.2.2.1⟩
  | p :: l, i, all, h, j + 1, hj => by
    simp only [partsB, Bool.and_eq_true] at h
    have hs : (p :: l).getD (j + 1) z75 = l.getD j z75 := by simp [List.getD_eq_getElem?_getD]
    rw [hs]
    exact parts_get mem P l _ _ h.2.2.2 j (by simpa using hj)
theorem sound_ok {t : S50} (h : soundB t = true) {p : Nat} (hp : p < t.f7.length) : ∃ hm, WinsIn (t.f7.getD p z75) hm ∧ WinsOk (t.f7.getD p z75).f3 ∧ (t.f7.getD p z75).f1.tmod 4 = 0 ∧ execB ((t.f7.getD p z75).f3.getD hm z40).f2 = true := by
  obtain ⟨hm, W⟩ := sound_wins h hp
  refine ⟨hm, W, ?_⟩
  simp only [soundB, Bool.and_eq_true] at h
  have h2 := h.2.1
  unfold specPartsB at h2
  rw [parts_eq, Bool.and_eq_true] at h2
  obtain ⟨all, h3, h4⟩ := parts_get _ _ _ _ _ h2.2 p hp
  have hg := wins_get _ _ _ h3
  refine ⟨⟨W.len, fun i hi => (hg i hi).1, fun i hi v hv => (hg i hi).2 v (List.mem_append_right _ hv)⟩, ?_, ?_⟩
  · simp only [tailB, Bool.and_eq_true, decide_eq_true_eq] at h4
    exact h4.1
  · simp only [tailB, runsB, Bool.and_eq_true] at h4
    have h5 := h4.2
    have hw : winAt (t.f7.getD p z75) (t.f7.getD p z75).f1 = (hm : Int) := W.at_
    rw [hw, if_pos (by omega)] at h5
    simpa using h5
end Go.Proofs.Ytgnhojiogkeepaa.PLo
