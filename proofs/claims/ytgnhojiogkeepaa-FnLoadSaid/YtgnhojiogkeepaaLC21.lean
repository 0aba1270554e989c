/- Plain Lean over the printed functions: both LoadImage come to the same. -/
import Derived.Test.YtgnhojiogkeepaaLC6
set_option linter.unusedVariables false
set_option linter.unusedSimpArgs false
set_option linter.unusedSectionVars false
namespace Go.Proofs.Ytgnhojiogkeepaa.PLo
open Go Go.RowKit Go.Proofs.Ytgnhojiogkeepaa.V Go.Proofs.Ytgnhojiogkeepaa.C

/-! ### The bytes of a word -/
def bts (x : Int) : List Int := [x % 256, x / 256 % 256, x / 65536 % 256, x / 16777216 % 256]
theorem wrap_u8 (n : Int) : IntKind.wrap .u8 n = n % 256 := by
  unfold IntKind.wrap
  simp [IntKind.signed, IntKind.bits]
theorem shr_8 (x : Int) : shr .u32 x 8 = x / 256 := by unfold shr; simp [IntKind.bits]
theorem shr_16 (x : Int) : shr .u32 x 16 = x / 65536 := by unfold shr; simp [IntKind.bits]
theorem shr_24 (x : Int) : shr .u32 x 24 = x / 16777216 := by unfold shr; simp [IntKind.bits]
theorem implBytes (x : Int) : impl_BytesOf.f x = some (bts x) := by
  unfold impl_BytesOf.f bts
  rw [wrap_u8, wrap_u8, wrap_u8, wrap_u8, shr_8, shr_16, shr_24]
theorem specBytes (x : Int) (h : 0 ≤ x ∧ x ≤ 4294967295) : spec_BytesOf.f x = some (bts x) := by
  unfold spec_BytesOf.f bts
  rw [wrap_u8, wrap_u8, wrap_u8, wrap_u8, wrap_of (a := x) (by omega) (by omega), Int.tdiv_eq_ediv_of_nonneg h.1, Int.tdiv_eq_ediv_of_nonneg h.1, Int.tdiv_eq_ediv_of_nonneg h.1,
    wrap_of (a := x / 256) (by omega) (by omega), wrap_of (a := x / 65536) (by omega) (by omega), wrap_of (a := x / 16777216) (by omega) (by omega),
    Int.tmod_eq_emod_of_nonneg h.1, Int.tmod_eq_emod_of_nonneg (by omega), Int.tmod_eq_emod_of_nonneg (by omega)]
  have e : ∀ y : Int, y % 256 % 256 = y % 256 := fun y => by omega
  rw [e, e, e]
theorem flat_len4 : ∀ ws : List Int, (ws.flatMap bts).length = 4 * ws.length
  | [] => rfl
  | x :: r => by
    rw [List.flatMap_cons, List.length_append, flat_len4 r, List.length_cons]
    simp only [bts, List.length_cons, List.length_nil]
    omega
theorem flat_get4 : ∀ (ws : List Int) (j : Nat), j < 4 * ws.length → (ws.flatMap bts).getD j 0 = (bts (ws.getD (j / 4) 0)).getD (j % 4) 0
  | [], j, h => by simp at h
  | x :: r, j, h => by
    rw [List.flatMap_cons]
    rcases Nat.lt_or_ge j 4 with hj | hj
    · have e1 : j / 4 = 0 := by omega
      have e2 : j % 4 = j := by omega
      rw [e1, e2, List.getD_cons_zero, List.getD_eq_getElem?_getD, List.getElem?_append_left (by simpa [bts] using hj), ← List.getD_eq_getElem?_getD]
    · simp only [List.length_cons] at h
      have e1 : j / 4 = (j - 4) / 4 + 1 := by omega
      have e2 : j % 4 = (j - 4) % 4 := by omega
      have := flat_get4 r (j - 4) (by omega)
      rw [e1, e2, List.getD_cons_succ, ← this, List.getD_eq_getElem?_getD, List.getElem?_append_right (by simpa [bts] using hj), ← List.getD_eq_getElem?_getD]
      rfl

theorem take_snoc (l : List Int) (k : Nat) (h : k < l.length) : l.take (k + 1) = l.take k ++ [l.getD k 0] := by
  rw [List.getD_eq_getElem?_getD, List.getElem?_eq_getElem h]
  exact List.take_succ_eq_append_getElem h

/-! ### What an image is -/
/-- A window in which bytes stand from a place on. -/
def part (S fr : Nat) (F : List Int) : List Int := List.replicate fr 0 ++ F ++ List.replicate (S - fr - F.length) 0
def imgRow (ws : List Int) (hm fr i : Nat) (w : S40) : List Int := if i = hm then part w.f1.toNat fr (ws.flatMap bts) else List.replicate w.f1.toNat 0
def imgV (ws : List Int) (hm fr : Nat) (wins : List S40) : List (List Int) := (List.range wins.length).map fun i => imgRow ws hm fr i (wins.getD i z40)
theorem part_len {S fr : Nat} {F : List Int} (h : fr + F.length ≤ S) : (part S fr F).length = S := by
  simp only [part, List.length_append, List.length_replicate]; omega
theorem part_step {S fr : Nat} {F b : List Int} (h : fr + F.length + b.length ≤ S) : (part S fr F).take (fr + F.length) ++ b ++ (part S fr F).drop (fr + F.length + b.length) = part S fr (F ++ b) := by
  have e1 : (List.replicate fr (0 : Int) ++ F).length = fr + F.length := by simp
  unfold part
  rw [List.take_append_of_le_length (by rw [e1]; exact Nat.le_refl _), List.take_of_length_le (by rw [e1]; exact Nat.le_refl _), List.drop_append, List.drop_of_length_le (by rw [e1]; omega), List.nil_append, List.drop_replicate]
  rw [List.append_assoc (List.replicate fr 0) F b]
  congr 2
  simp only [List.length_append, List.length_replicate]
  omega
theorem part_get {S fr : Nat} {F : List Int} (h : fr + F.length ≤ S) (k : Nat) (hk : k < S) : (part S fr F).getD k 0 = if fr ≤ k ∧ k < fr + F.length then F.getD (k - fr) 0 else 0 := by
  unfold part
  rw [List.getD_eq_getElem?_getD]
  split
  · rename_i hc
    rw [List.append_assoc, List.getElem?_append_right (by simpa using hc.1), List.length_replicate, List.getElem?_append_left (by omega), List.getD_eq_getElem?_getD]
  · rename_i hc
    rcases Nat.lt_or_ge k fr with h1 | h1
    · rw [List.append_assoc, List.getElem?_append_left (by simpa using h1), List.getElem?_replicate, if_pos h1]; rfl
    · rw [List.getElem?_append_right (by simp; omega), List.getElem?_replicate]
      split <;> rfl

/-! ### Windows -/
theorem spec_at (l : List S40) (x : Int) (hl : l.length ≤ 1048576) : Ev (fun k => spec_l07At.f k l x) (idxOf (fun v => hasB v x) l 0) := by
  unfold spec_l07At.f
  refine Ev.idx l z40 _ (fun k i => spec_l07At.l4 k l x i) (Ev.step ?_) (fun i hi hp => Ev.step ?_) (fun i hi hp v hv => Ev.step ?_)
  · simp only [spec_l07At.l4]; exact Ev.ite_neg (by omega) (Ev.ret _)
  all_goals
    simp only [spec_l07At.l4, has_some, Option.bind_some, wrap_succ hi (by omega)]
    refine Ev.ite_pos (lt_in hi) (Ev.ite_pos ge_0 (Ev.ite_pos (lt_in hi) ?_))
  · exact Ev.ite_pos hp (Ev.ret _)
  · exact Ev.ite_neg (fun h => by rw [show hasB (rd_T40 l (i : Int)) x = false from hp] at h; cases h) hv
theorem parts_at {mem : Int} {P : List S75} : ∀ (n i j : Nat), partsFrom mem P n i = true → i ≤ j → j < i + n → partOkB mem (P.getD j z75) = true
  | 0, i, j, _, h1, h2 => by omega
  | n + 1, i, j, h, h1, h2 => by
    simp only [partsFrom, Bool.and_eq_true] at h
    rcases Nat.eq_or_lt_of_le h1 with rfl | h3
    · exact h.1
    · exact parts_at n (i + 1) j h.2.2 h3 (by omega)
structure WinsIn (r : S75) (hm : Nat) : Prop where
  len : r.f3.length ≤ 4
  win : ∀ w ∈ r.f3, 0 ≤ w.f0 ∧ 4 ≤ w.f1 ∧ w.f0 + w.f1 ≤ 2048
  lt : hm < r.f3.length
  at_ : idxOf (fun v => hasB v r.f1) r.f3 0 = (hm : Int)
  lo : (r.f3.getD hm z40).f0 ≤ r.f1
  hi : r.f1 < (r.f3.getD hm z40).f0 + (r.f3.getD hm z40).f1
theorem sound_wins {t : S50} (h : soundB t = true) {p : Nat} (hp : p < t.f7.length) : ∃ hm, WinsIn (t.f7.getD p z75) hm := by
  simp only [soundB, specPartsB, Bool.and_eq_true] at h
  have h1 := parts_at _ 0 p h.2.1.2.1 (Nat.zero_le _) (by omega)
  generalize t.f7.getD p z75 = r at h1 ⊢
  simp only [partOkB, partokV, Bool.and_eq_true, Bool.false_or, in_iff, List.all_eq_true, List.any_eq_true] at h1
  obtain ⟨_, _, h3, h4, ⟨w, hw1, hw2⟩, _⟩ := h1
  have hwin : ∀ w ∈ r.f3, 0 ≤ w.f0 ∧ 4 ≤ w.f1 ∧ w.f0 + w.f1 ≤ 2048 := by
    intro w hw
    have := h4 w hw
    simp only [okW, windowB, Bool.and_eq_true, decide_eq_true_eq] at this
    omega
  simp only [hasP, Bool.and_eq_true] at hw2
  rcases idxOf_find (fun v => hasB v r.f1) z40 r.f3 0 with ⟨_, h5⟩ | ⟨j, h5, h6, h7, _⟩
  · have : (r.f3.any fun v => hasB v r.f1) = true := List.any_eq_true.2 ⟨w, hw1, hw2.1⟩
    rw [h5] at this
    cases this
  · have hm := hwin _ (getD_mem (z := z40) h5)
    simp only [hasB, decide_eq_true_eq] at h7
    rw [wrap_of (a := (r.f3.getD j z40).f0 + (r.f3.getD j z40).f1) (by omega) (by omega)] at h7
    exact ⟨j, by omega, hwin, h5, by simpa using h6, h7.1, h7.2⟩

/-! ### Both ways -/
theorem imgV_len (ws : List Int) (hm fr : Nat) (wins : List S40) : (imgV ws hm fr wins).length = wins.length := by simp [imgV]
theorem imgV_get (ws : List Int) (hm fr : Nat) (wins : List S40) {i : Nat} (hi : i < wins.length) : (imgV ws hm fr wins)[i]? = some (imgRow ws hm fr i (wins.getD i z40)) := by
  simp [imgV, hi]

section
variable {r : S75} {hm : Nat} (W : WinsIn r hm) {ws : List Int} (hws : ∀ x ∈ ws, 0 ≤ x ∧ x ≤ 4294967295) (hlen : ws.length ≤ 256)
  (hfit : (r.f1 - (r.f3.getD hm z40).f0).toNat + 4 * ws.length ≤ (r.f3.getD hm z40).f1.toNat)
include W hws hlen hfit

theorem impl_fill : ∀ (m i : Nat), i + m = ws.length → Ev (fun k => impl_loadImage.l26 k (hm : Int) (((r.f1 - (r.f3.getD hm z40).f0).toNat : Nat) : Int) ws (ws.length : Int) (i : Int) ((r.f3.map fun w => List.replicate w.f1.toNat (0 : Int)).set hm (part (r.f3.getD hm z40).f1.toNat (r.f1 - (r.f3.getD hm z40).f0).toNat ((ws.take i).flatMap bts))))
    (imgV ws hm (r.f1 - (r.f3.getD hm z40).f0).toNat r.f3, true) := by
  have hwm := W.win _ (getD_mem (z := z40) W.lt)
  generalize hS : (r.f3.getD hm z40).f1.toNat = S at hfit ⊢
  generalize hfr : (r.f1 - (r.f3.getD hm z40).f0).toNat = fr at hfit ⊢
  have hSb : S ≤ 2048 := by omega
  intro m
  induction m with
  | zero =>
    intro i hi
    obtain rfl : i = ws.length := by omega
    refine Ev.step ?_
    simp only [impl_loadImage.l26]
    refine Ev.ite_neg (by omega) ?_
    have e : (r.f3.map fun w => List.replicate w.f1.toNat (0 : Int)).set hm (part S fr ((ws.take ws.length).flatMap bts)) = imgV ws hm fr r.f3 := by
      apply List.ext_getElem?
      intro q
      rw [List.take_length]
      rcases Nat.lt_or_ge q r.f3.length with hq | hq
      · rw [imgV_get ws hm fr r.f3 hq]
        by_cases e : hm = q
        · subst e
          rw [List.getElem?_set_self (by simpa using hq)]
          simp only [imgRow, if_true, hS]
        · rw [List.getElem?_set_ne e, List.getElem?_map, List.getElem?_eq_getElem hq]
          simp only [imgRow, if_neg (fun h : q = hm => e h.symm), Option.map_some, List.getD_eq_getElem?_getD, List.getElem?_eq_getElem hq, Option.getD_some]
      · rw [List.getElem?_eq_none (by simpa using hq), List.getElem?_eq_none (by rw [imgV_len ws hm fr r.f3]; exact hq)]
    rw [e]
    exact Ev.ret _
  | succ m ih =>
    intro i hi
    have hlt : i < ws.length := by omega
    have hF : ((ws.take i).flatMap bts).length = 4 * i := by rw [flat_len4, List.length_take, Nat.min_eq_left (by omega)]
    have hpl : (part S fr ((ws.take i).flatMap bts)).length = S := part_len (by omega)
    have hget : ((r.f3.map fun w => List.replicate w.f1.toNat (0 : Int)).set hm (part S fr ((ws.take i).flatMap bts))).getD hm [] = part S fr ((ws.take i).flatMap bts) := by
      rw [List.getD_eq_getElem?_getD, List.getElem?_set_self (by simpa using W.lt)]; rfl
    have hb4 : (bts (ws.getD i 0)).length = 4 := rfl
    have hrec := ih (i + 1) (by omega)
    have e1 : (ws.take (i + 1)).flatMap bts = (ws.take i).flatMap bts ++ bts (ws.getD i 0) := by
      have : ws.take (i + 1) = ws.take i ++ [ws.getD i 0] := by
        rw [List.getD_eq_getElem?_getD, List.getElem?_eq_getElem hlt]
        exact List.take_succ_eq_append_getElem hlt
      rw [this, List.flatMap_append]
      simp
    rw [e1, ← part_step (by rw [hF, hb4]; omega), hF, hb4] at hrec
    refine Ev.step ?_
    simp only [impl_loadImage.l26, rd_ListInt, Int.toNat_natCast, hget, implBytes, rd, Option.bind_some, wrap_succ hlt (by omega), List.set_set]
    rw [wrap_of (a := 4 * (i : Int)) (by omega) (by omega), wrap_of (a := (fr : Int) + 4 * (i : Int)) (by omega) (by omega)]
    have e2 : ((fr : Int) + 4 * (i : Int)).toNat = fr + 4 * i := by omega
    have htk : (bts (ws.getD i 0)).take (S - (fr + 4 * i)) = bts (ws.getD i 0) := List.take_of_length_le (by rw [hb4]; omega)
    rw [e2, hpl, htk, hb4]
    exact Ev.ite_pos (lt_in hlt) (Ev.ite_pos ge_0 (Ev.ite_pos (lt_in hlt) (Ev.ite_pos ge_0 (Ev.ite_pos (by rw [List.length_set, List.length_map]; exact lt_in W.lt) (Ev.ite_pos (by omega) (Ev.ite_pos (by omega) (Ev.ite_pos (by omega) hrec)))))))

theorem impl_zero : ∀ (m i : Nat), i + m = r.f3.length → Ev (fun k => impl_loadImage.l16 k ws (hm : Int) (((r.f1 - (r.f3.getD hm z40).f0).toNat : Nat) : Int) r.f3 (r.f3.length : Int) (i : Int) ((r.f3.take i).map fun w => List.replicate w.f1.toNat (0 : Int)))
    (imgV ws hm (r.f1 - (r.f3.getD hm z40).f0).toNat r.f3, true) := by
  have hl := W.len
  intro m
  induction m with
  | zero =>
    intro i hi
    obtain rfl : i = r.f3.length := by omega
    refine Ev.step ?_
    simp only [impl_loadImage.l16, lenZ_eq]
    refine Ev.ite_neg (by omega) ?_
    have := impl_fill W hws hlen hfit ws.length 0 (by omega)
    rw [List.take_length]
    have e : (r.f3.map fun w => List.replicate w.f1.toNat (0 : Int)).set hm (part (r.f3.getD hm z40).f1.toNat (r.f1 - (r.f3.getD hm z40).f0).toNat ((ws.take 0).flatMap bts)) = r.f3.map fun w => List.replicate w.f1.toNat (0 : Int) := by
      apply List.ext_getElem?
      intro q
      by_cases e : hm = q
      · subst e
        have hlt := W.lt
        rw [List.getElem?_set_self (by simpa using hlt), List.getElem?_map, List.getElem?_eq_getElem hlt]
        simp only [Option.map_some, part, List.take_zero, List.flatMap_nil, List.append_nil, List.length_nil, List.replicate_append_replicate]
        congr 2
        rw [List.getD_eq_getElem?_getD, List.getElem?_eq_getElem hlt] at hfit ⊢
        simp only [Option.getD_some] at hfit ⊢
        omega
      · rw [List.getElem?_set_ne e]
    rw [e] at this
    exact this
  | succ m ih =>
    intro i hi
    have hlt : i < r.f3.length := by omega
    have hw := W.win _ (getD_mem (z := z40) hlt)
    have hrec := ih (i + 1) (by omega)
    have e1 : (r.f3.take (i + 1)).map (fun w => List.replicate w.f1.toNat (0 : Int)) = (r.f3.take i).map (fun w => List.replicate w.f1.toNat (0 : Int)) ++ [List.replicate (r.f3.getD i z40).f1.toNat 0] := by
      have : r.f3.take (i + 1) = r.f3.take i ++ [r.f3.getD i z40] := by
        rw [List.getD_eq_getElem?_getD, List.getElem?_eq_getElem hlt]
        exact List.take_succ_eq_append_getElem hlt
      rw [this, List.map_append]
      rfl
    rw [e1] at hrec
    refine Ev.step ?_
    simp only [impl_loadImage.l16, rd_T40, Int.toNat_natCast, wrap_succ hlt (by omega), List.length_map, List.length_take, List.length_cons, List.length_nil]
    exact Ev.ite_pos (lt_in hlt) (Ev.ite_pos ge_0 (Ev.ite_pos (lt_in hlt) (Ev.ite_pos (by omega) (Ev.ite_pos (Int.le_refl _) (Ev.ite_pos (by omega) (Ev.ite_pos (by omega) hrec))))))

theorem spec_rows : ∀ (m i : Nat), i + m = r.f3.length → Ev (fun k => spec_LoadImage.l20 k ws r.f3 r.f1 (hm : Int) (i : Int) ((imgV ws hm (r.f1 - (r.f3.getD hm z40).f0).toNat r.f3).take i))
    (imgV ws hm (r.f1 - (r.f3.getD hm z40).f0).toNat r.f3, true) := by
  have hl := W.len
  have hlo := W.lo
  have hhi := W.hi
  have hwm := W.win _ (getD_mem (z := z40) W.lt)
  generalize hfr : (r.f1 - (r.f3.getD hm z40).f0).toNat = fr at hfit ⊢
  have hlenV := imgV_len ws hm fr r.f3
  intro m
  induction m with
  | zero =>
    intro i hi
    obtain rfl : i = r.f3.length := by omega
    refine Ev.step ?_
    simp only [spec_LoadImage.l20]
    rw [List.take_of_length_le (by rw [hlenV]; exact Nat.le_refl _)]
    exact Ev.ite_neg (by omega) (Ev.ret _)
  | succ m ih =>
    intro i hi
    have hlt : i < r.f3.length := by omega
    have hw := W.win _ (getD_mem (z := z40) hlt)
    have hrec := ih (i + 1) (by omega)
    have e1 : (imgV ws hm fr r.f3).take (i + 1) = (imgV ws hm fr r.f3).take i ++ [imgRow ws hm fr i (r.f3.getD i z40)] := by
      rw [List.take_add_one, imgV_get ws hm fr r.f3 hlt]; rfl
    rw [e1] at hrec
    have hfl := flat_len4 ws
    have hRlen : (imgRow ws hm fr i (r.f3.getD i z40)).length = (r.f3.getD i z40).f1.toNat := by
      unfold imgRow
      split
      · rename_i e
        subst e
        exact part_len (by omega)
      · simp
    have hlen0 : ((imgV ws hm fr r.f3).take i).length = i := by rw [List.length_take, hlenV]; omega
    have inner : ∀ (n k : Nat), k + n = (r.f3.getD i z40).f1.toNat → Ev (fun f => spec_LoadImage.l28 f ws r.f3 r.f1 (hm : Int) (i : Int) (k : Int) ((imgV ws hm fr r.f3).take i) ((imgRow ws hm fr i (r.f3.getD i z40)).take k)) (imgV ws hm fr r.f3, true) := by
      intro n
      induction n with
      | zero =>
        intro k hk
        refine Ev.step ?_
        simp only [spec_LoadImage.l28, rd_T40, Int.toNat_natCast, hlen0, List.length_cons, List.length_nil, wrap_succ hlt (by omega)]
        have htk : (imgRow ws hm fr i (r.f3.getD i z40)).take k = imgRow ws hm fr i (r.f3.getD i z40) := List.take_of_length_le (by rw [hRlen]; omega)
        rw [htk]
        exact Ev.ite_pos ge_0 (Ev.ite_pos (lt_in hlt) (Ev.ite_neg (by omega) (Ev.ite_pos (by omega) hrec)))
      | succ n ihn =>
        intro k hk
        have hk' : k < (imgRow ws hm fr i (r.f3.getD i z40)).length := by rw [hRlen]; omega
        have hnext := ihn (k + 1) (by omega)
        have e2 : (imgRow ws hm fr i (r.f3.getD i z40)).take (k + 1) = (imgRow ws hm fr i (r.f3.getD i z40)).take k ++ [(imgRow ws hm fr i (r.f3.getD i z40)).getD k 0] := take_snoc _ _ hk'
        rw [e2] at hnext
        have hk0 : ((imgRow ws hm fr i (r.f3.getD i z40)).take k).length = k := by rw [List.length_take]; omega
        have h31 : Ev (fun f => spec_LoadImage.l31 f ws r.f3 r.f1 (hm : Int) (i : Int) (k : Int) ((imgV ws hm fr r.f3).take i) ((imgRow ws hm fr i (r.f3.getD i z40)).take k ++ [(imgRow ws hm fr i (r.f3.getD i z40)).getD k 0])) (imgV ws hm fr r.f3, true) := by
          refine Ev.step ?_
          simp only [spec_LoadImage.l31, wrap_of (a := (k : Int) + 1) (by omega) (by omega)]
          exact hnext
        have hzero : (imgRow ws hm fr i (r.f3.getD i z40)).getD k 0 = 0 → Ev (fun f => spec_LoadImage.l39 f ws r.f3 r.f1 (hm : Int) (i : Int) (k : Int) ((imgV ws hm fr r.f3).take i) ((imgRow ws hm fr i (r.f3.getD i z40)).take k)) (imgV ws hm fr r.f3, true) := fun hz => by
          rw [hz] at h31
          refine Ev.step ?_
          simp only [spec_LoadImage.l39, hk0, List.length_cons, List.length_nil]
          exact Ev.ite_pos (by omega) h31
        refine Ev.step ?_
        simp only [spec_LoadImage.l28, rd_T40, Int.toNat_natCast]
        refine Ev.ite_pos ge_0 (Ev.ite_pos (lt_in hlt) (Ev.ite_pos (by omega) (Ev.step ?_)))
        simp only [spec_LoadImage.l33, rd_T40, Int.toNat_natCast]
        rw [wrap_of (a := (r.f3.getD i z40).f0 + (k : Int)) (by omega) (by omega), wrap_of (a := (r.f3.getD i z40).f0 + (k : Int) - r.f1) (by omega) (by omega)]
        refine Ev.ite_pos ge_0 (Ev.ite_pos (lt_in hlt) (Ev.step ?_))
        simp only [spec_LoadImage.l35, lenZ_eq, wrap_of (a := 4 * (ws.length : Int)) (by omega) (by omega)]
        by_cases c : (i : Int) = (hm : Int)
        · obtain rfl : i = hm := by omega
          refine Ev.ite_pos rfl ?_
          have hrow : (imgRow ws i fr i (r.f3.getD i z40)).getD k 0 = if fr ≤ k ∧ k < fr + (ws.flatMap bts).length then (ws.flatMap bts).getD (k - fr) 0 else 0 := by
            unfold imgRow
            rw [if_pos rfl]
            exact part_get (by omega) k (by omega)
          by_cases c1 : (r.f3.getD i z40).f0 + (k : Int) - r.f1 ≥ 0
          · refine Ev.ite_pos c1 ?_
            by_cases c2 : (r.f3.getD i z40).f0 + (k : Int) - r.f1 < 4 * (ws.length : Int)
            · have ej : (r.f3.getD i z40).f0 + (k : Int) - r.f1 = ((k - fr : Nat) : Int) := by omega
              have hj4 : (k - fr) / 4 < ws.length := by omega
              refine Ev.ite_pos c2 (Ev.step ?_)
              rw [ej]
              have e4 : (((k - fr : Nat) : Int) / 4).toNat = (k - fr) / 4 := by omega
              have e5 : (((k - fr : Nat) : Int) % 4).toNat = (k - fr) % 4 := by omega
              have hb4 : (bts (ws.getD ((k - fr) / 4) 0)).length = 4 := rfl
              simp only [spec_LoadImage.l37, rd, Int.tdiv_eq_ediv_of_nonneg (show (0 : Int) ≤ ((k - fr : Nat) : Int) from ge_0), Int.tmod_eq_emod_of_nonneg (show (0 : Int) ≤ ((k - fr : Nat) : Int) from ge_0), wrap_of (a := ((k - fr : Nat) : Int) / 4) (by omega) (by omega), e4, e5, specBytes _ (hws _ (getD_mem (z := (0 : Int)) hj4)), Option.bind_some, hk0, hb4, List.length_cons, List.length_nil]
              rw [hrow, if_pos (by omega), flat_get4 ws (k - fr) (by omega)] at h31
              exact Ev.ite_pos (by omega) (Ev.ite_pos (by omega) (Ev.ite_pos (by omega) (Ev.ite_pos (by omega) (Ev.ite_pos (by omega) h31))))
            · exact Ev.ite_neg c2 (hzero (by rw [hrow, if_neg (by omega)]))
          · exact Ev.ite_neg c1 (hzero (by rw [hrow, if_neg (by omega)]))
        · refine Ev.ite_neg c (hzero ?_)
          unfold imgRow
          rw [if_neg (by omega), List.getD_eq_getElem?_getD, List.getElem?_replicate]
          split <;> rfl
    refine Ev.step ?_
    simp only [spec_LoadImage.l20]
    exact Ev.ite_pos (lt_in hlt) (inner (r.f3.getD i z40).f1.toNat 0 (by omega))
end

def loadV (t : S50) (p : Int) (ws : List Int) : List (List Int) × Bool :=
  if soundB t = true then if inB p 0 (wrap64 ((t.f7.length : Int) - 1)) = true then if (ws.length : Int) > 256 then ([], false) else
    if (t.f7.getD p.toNat z75).f1 - ((t.f7.getD p.toNat z75).f3.getD (idxOf (fun v => hasB v (t.f7.getD p.toNat z75).f1) (t.f7.getD p.toNat z75).f3 0).toNat z40).f0 + 4 * (ws.length : Int) > ((t.f7.getD p.toNat z75).f3.getD (idxOf (fun v => hasB v (t.f7.getD p.toNat z75).f1) (t.f7.getD p.toNat z75).f3 0).toNat z40).f1 then ([], false)
    else (imgV ws (idxOf (fun v => hasB v (t.f7.getD p.toNat z75).f1) (t.f7.getD p.toNat z75).f3 0).toNat ((t.f7.getD p.toNat z75).f1 - ((t.f7.getD p.toNat z75).f3.getD (idxOf (fun v => hasB v (t.f7.getD p.toNat z75).f1) (t.f7.getD p.toNat z75).f3 0).toNat z40).f0).toNat (t.f7.getD p.toNat z75).f3, true)
    else ([], false) else ([], false)

theorem load_both (t : S50) (h : Small t) (hnm : ∀ x ∈ t.f7, x.f0.size ≤ 9223372036854775807) (p : Int) (ws : List Int) (hws : ∀ x ∈ ws, 0 ≤ x ∧ x ≤ 4294967295) :
    Ev (fun k => spec_LoadImage.f k t p ws) (loadV t p ws) ∧ Ev (fun k => impl_LoadImage.f k t p ws) (loadV t p ws) ∧ (loadV t p ws).1.length ≤ 4 ∧ (∀ x ∈ (loadV t p ws).1, x.length ≤ 2048) := by
  have hparts := h.parts
  unfold spec_LoadImage.f impl_LoadImage.f loadV
  simp only [lenZ_eq]
  have h1 := specSound t h hnm
  have h2 := implSound t h hnm
  by_cases c : soundB t = true
  case neg =>
    rw [if_neg c]
    exact ⟨Ev.bind h1 (Ev.ite_neg c (Ev.ret _)), Ev.bind h2 (Ev.ite_neg c (Ev.ret _)), by simp, by simp⟩
  rw [if_pos c]
  by_cases d : inB p 0 (wrap64 ((t.f7.length : Int) - 1)) = true
  case neg =>
    rw [if_neg d]
    simp only [l01In_some, within_some, Option.bind_some]
    exact ⟨Ev.bind h1 (Ev.ite_pos c (Ev.ite_neg d (Ev.ret _))), Ev.bind h2 (Ev.ite_pos c (Ev.ite_neg d (Ev.ret _))), by simp, by simp⟩
  rw [if_pos d]
  by_cases e : (ws.length : Int) > 256
  · rw [if_pos e]
    simp only [l01In_some, within_some, Option.bind_some]
    exact ⟨Ev.bind h1 (Ev.ite_pos c (Ev.ite_pos d (Ev.ite_pos e (Ev.ret _)))), Ev.bind h2 (Ev.ite_pos c (Ev.ite_pos d (Ev.ite_pos e (Ev.ret _)))), by simp, by simp⟩
  rw [if_neg e]
  have hp := in_iff.1 d
  rw [wrap_of (a := (t.f7.length : Int) - 1) (by omega) (by omega)] at hp
  obtain ⟨n, rfl⟩ : ∃ n : Nat, p = (n : Int) := ⟨p.toNat, by omega⟩
  have hn : n < t.f7.length := by omega
  obtain ⟨hm, W⟩ := sound_wins c hn
  have hwl := h.windows _ (getD_mem (z := z75) hn)
  have hs := spec_at (t.f7.getD n z75).f3 (t.f7.getD n z75).f1 hwl
  have hi : Ev (fun k => impl_windowAt.f k (t.f7.getD n z75).f3 (t.f7.getD n z75).f1) (idxOf (fun v => hasB v (t.f7.getD n z75).f1) (t.f7.getD n z75).f3 0) := by
    unfold impl_windowAt.f
    exact Ev.bind (idx_window _ _ hwl) (Ev.ret _)
  have hat := W.at_
  rw [hat] at hs hi
  simp only [l01In_some, within_some, Option.bind_some, Int.toNat_natCast, hat, rd_T75, rd_T40, impl_loadImage.f, lenZ_eq]
  have hwm := W.win _ (getD_mem (z := z40) W.lt)
  have hlo := W.lo; have hhi := W.hi; have hltm := W.lt; have hl4 := W.len
  have hwins := W.win
  generalize hr : t.f7.getD n z75 = r at *
  rw [wrap_of (a := 4 * (ws.length : Int)) (by omega) (by omega), wrap_of (a := r.f1 + 4 * (ws.length : Int)) (by omega) (by omega)]
  have w1 : wrap64 ((r.f3.getD hm z40).f0 + (r.f3.getD hm z40).f1) = (r.f3.getD hm z40).f0 + (r.f3.getD hm z40).f1 := wrap_of (by omega) (by omega)
  have w2 : wrap64 (r.f1 - (r.f3.getD hm z40).f0) = r.f1 - (r.f3.getD hm z40).f0 := wrap_of (by omega) (by omega)
  have w3 : wrap64 (r.f1 - (r.f3.getD hm z40).f0 + 4 * (ws.length : Int)) = r.f1 - (r.f3.getD hm z40).f0 + 4 * (ws.length : Int) := wrap_of (by omega) (by omega)
  by_cases g : r.f1 - (r.f3.getD hm z40).f0 + 4 * (ws.length : Int) > (r.f3.getD hm z40).f1
  · rw [if_pos g]
    refine ⟨Ev.bind h1 (Ev.ite_pos c (Ev.ite_pos d (Ev.ite_neg e (Ev.ite_pos ge_0 (Ev.ite_pos (lt_in hn) (Ev.ite_pos ge_0 (Ev.ite_pos (lt_in hn) (Ev.bind hs ?_)))))))),
      Ev.bind h2 (Ev.ite_pos c (Ev.ite_pos d (Ev.ite_neg e (Ev.bind (a := (([], false) : List (List Int) × Bool)) (Ev.ite_pos ge_0 (Ev.ite_pos (lt_in hn) (Ev.bind hi ?_))) (Ev.ret _))))), by simp, by simp⟩
    · simp only [Int.toNat_natCast, w1]
      exact Ev.ite_pos ge_0 (Ev.ite_pos (lt_in hltm) (Ev.ite_pos ge_0 (Ev.ite_pos (lt_in hltm) (Ev.ite_pos (by omega) (Ev.ret _)))))
    · simp only [Int.toNat_natCast, w2, w3]
      exact Ev.ite_pos ge_0 (Ev.ite_pos (lt_in hltm) (Ev.ite_pos ge_0 (Ev.ite_pos (lt_in hltm) (Ev.ite_pos g (Ev.ret _)))))
  · rw [if_neg g]
    have hfit : (r.f1 - (r.f3.getD hm z40).f0).toNat + 4 * ws.length ≤ (r.f3.getD hm z40).f1.toNat := by omega
    have efr : r.f1 - (r.f3.getD hm z40).f0 = (((r.f1 - (r.f3.getD hm z40).f0).toNat : Nat) : Int) := by omega
    have hS := spec_rows W hws (by omega) hfit r.f3.length 0 (by omega)
    have hI := impl_zero W hws (by omega) hfit r.f3.length 0 (by omega)
    rw [← efr] at hI
    refine ⟨Ev.bind h1 (Ev.ite_pos c (Ev.ite_pos d (Ev.ite_neg e (Ev.ite_pos ge_0 (Ev.ite_pos (lt_in hn) (Ev.ite_pos ge_0 (Ev.ite_pos (lt_in hn) (Ev.bind hs ?_)))))))),
      Ev.bind h2 (Ev.ite_pos c (Ev.ite_pos d (Ev.ite_neg e (Ev.bind (a := (imgV ws hm (r.f1 - (r.f3.getD hm z40).f0).toNat r.f3, true)) (Ev.ite_pos ge_0 (Ev.ite_pos (lt_in hn) (Ev.bind hi ?_))) (Ev.ret _))))), ?_, ?_⟩
    · simp only [Int.toNat_natCast, w1]
      exact Ev.ite_pos ge_0 (Ev.ite_pos (lt_in hltm) (Ev.ite_pos ge_0 (Ev.ite_pos (lt_in hltm) (Ev.ite_neg (by omega) hS))))
    · simp only [Int.toNat_natCast, w2, w3]
      exact Ev.ite_pos ge_0 (Ev.ite_pos (lt_in hltm) (Ev.ite_pos ge_0 (Ev.ite_pos (lt_in hltm) (Ev.ite_neg g hI))))
    · rw [imgV_len ws hm _ r.f3]; exact hl4
    · intro x hx
      obtain ⟨i, hi', rfl⟩ := List.mem_map.1 (show x ∈ (List.range r.f3.length).map _ from hx)
      have hw := hwins _ (getD_mem (z := z40) (List.mem_range.1 hi'))
      unfold imgRow
      split
      · rename_i e
        subst e
        rw [part_len (by rw [flat_len4]; exact hfit)]
        omega
      · rw [List.length_replicate]; omega

end Go.Proofs.Ytgnhojiogkeepaa.PLo
