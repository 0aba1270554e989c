/- Plain Lean over the printed functions: words that fit are fetched from where the partition starts, all else is 0; and so the law's function answers true. -/
import Derived.Test.YtgnhojiogkeepaaLD8
set_option linter.unusedVariables false
set_option linter.unusedSimpArgs false
set_option linter.unusedSectionVars false
namespace Go.Proofs.Ytgnhojiogkeepaa.PLo
open Go Go.RowKit Go.Proofs.Ytgnhojiogkeepaa.V Go.Proofs.Ytgnhojiogkeepaa.C

/-! ### Bytes that are not 0 -/
def nz : List Int → Nat
  | [] => 0
  | x :: l => (if x = 0 then 0 else 1) + nz l
def nzS : List (List Int) → Nat
  | [] => 0
  | x :: l => nz x + nzS l
def tlS : List (List Int) → Nat
  | [] => 0
  | x :: l => x.length + tlS l
theorem nz_le : ∀ l : List Int, nz l ≤ l.length
  | [] => Nat.le_refl _
  | x :: l => by have := nz_le l; simp only [nz, List.length_cons]; split <;> omega
theorem nz_append : ∀ a b : List Int, nz (a ++ b) = nz a + nz b
  | [], b => by simp [nz]
  | x :: a, b => by simp only [List.cons_append, nz, nz_append a b]; omega
theorem nz_rep : ∀ n : Nat, nz (List.replicate n 0) = 0
  | 0 => rfl
  | n + 1 => by simp only [List.replicate_succ, nz, nz_rep n]; simp
theorem nz_part (S fr : Nat) (F : List Int) : nz (part S fr F) ≤ F.length := by
  unfold part
  rw [nz_append, nz_append, nz_rep, nz_rep]
  have := nz_le F
  omega
theorem nzS_zero : ∀ (l : List (List Int)), (∀ x ∈ l, nz x = 0) → nzS l = 0
  | [], _ => rfl
  | x :: l, h => by simp only [nzS, h x (by simp), nzS_zero l fun y hy => h y (by simp [hy])]
theorem nzS_one : ∀ (l : List (List Int)) (hm B : Nat), (∀ i, i < l.length → i ≠ hm → nz (l.getD i []) = 0) → (hm < l.length → nz (l.getD hm []) ≤ B) → nzS l ≤ B
  | [], _, _, _, _ => Nat.zero_le _
  | x :: l, 0, B, h1, h2 => by
    have h3 := h2 (by simp)
    have : nzS l = 0 := nzS_zero l fun y hy => by
      obtain ⟨i, hi, rfl⟩ := List.getElem_of_mem hy
      have := h1 (i + 1) (by simpa using hi) (by omega)
      rw [List.getD_eq_getElem?_getD, List.getElem?_cons_succ, List.getElem?_eq_getElem hi] at this
      exact this
    simp only [nzS, this]
    exact h3
  | x :: l, hm + 1, B, h1, h2 => by
    have h3 := h1 0 (by simp) (by omega)
    have h3 : nz x = 0 := h3
    have ih := nzS_one l hm B (fun i hi hne => by
      have := h1 (i + 1) (by simpa using hi) (by omega)
      rw [List.getD_eq_getElem?_getD, List.getElem?_cons_succ, ← List.getD_eq_getElem?_getD] at this
      exact this) (fun hi => by
      have := h2 (by simpa using hi)
      rw [List.getD_eq_getElem?_getD, List.getElem?_cons_succ, ← List.getD_eq_getElem?_getD] at this
      exact this)
    simp only [nzS, h3]
    omega
theorem nzS_le : ∀ l : List (List Int), nzS l ≤ tlS l
  | [] => Nat.le_refl _
  | x :: l => by have := nzS_le l; have := nz_le x; simp only [nzS, tlS]; omega

def sumW : List S40 → Int
  | [] => 0
  | w :: l => w.f1 + sumW l
theorem tlS_sum : ∀ (ws : List S40) (im : List (List Int)), im.length = ws.length → (∀ i, i < ws.length → ((im.getD i []).length : Int) = (ws.getD i z40).f1) → (tlS im : Int) = sumW ws
  | [], [], _, _ => rfl
  | [], x :: im, h, _ => by simp at h
  | w :: ws, [], h, _ => by simp at h
  | w :: ws, x :: im, h, hr => by
    have h0 : (x.length : Int) = w.f1 := hr 0 (by simp)
    have ih := tlS_sum ws im (by simpa using h) (fun i hi => by
      have := hr (i + 1) (by simpa using hi)
      simpa [List.getD_eq_getElem?_getD] using this)
    simp only [tlS, sumW]
    omega
theorem sumW_in (ws : List S40) (h : ∀ w ∈ ws, 0 ≤ w.f1 ∧ w.f1 ≤ 2048) : 0 ≤ sumW ws ∧ sumW ws ≤ 2048 * (ws.length : Int) := by
  induction ws with
  | nil => simp [sumW]
  | cons w l ih =>
    have h1 := h w (by simp)
    have h2 := ih fun x hx => h x (by simp [hx])
    simp only [sumW, List.length_cons]
    omega
theorem reach_ev (ws : List S40) (h : WinsOk ws) : Ev (fun k => impl_Reach.f k ws) (sumW ws) := by
  have hl := h.len
  have hin : ∀ i, i < ws.length → 0 ≤ (ws.getD i z40).f1 ∧ (ws.getD i z40).f1 ≤ 2048 := fun i hi => by
    have := window_in.1 (h.win i hi)
    omega
  have key : ∀ (m i : Nat) (x : Int), i + m = ws.length → 0 ≤ x → x + 2048 * (m : Int) ≤ 100000 → Ev (fun k => impl_Reach.l10 k x ws (ws.length : Int) (i : Int)) (x + sumW (ws.drop i)) := by
    intro m
    induction m with
    | zero =>
      intro i x hi _ _
      refine Ev.step ?_
      rw [List.drop_of_length_le (by omega)]
      simp only [impl_Reach.l10, sumW, Int.add_zero]
      exact Ev.ite_neg (by omega) (Ev.ret _)
    | succ m ih =>
      intro i x hi h0 h1
      have hlt : i < ws.length := by omega
      have hs := hin i hlt
      refine Ev.step ?_
      rw [Ev.drop_getD ws z40 i hlt]
      simp only [impl_Reach.l10, rd_T40, Int.toNat_natCast, wrap_succ hlt (by omega), sumW]
      rw [wrap_of (a := x + (ws.getD i z40).f1) (by omega) (by omega)]
      exact Ev.ite_pos (lt_in hlt) (Ev.ite_pos ge_0 (Ev.ite_pos (lt_in hlt) (Ev.cast (ih (i + 1) _ (by omega) (by omega) (by omega)) (by omega))))
  unfold impl_Reach.f
  refine Ev.bind (areWindows_ev ws h) (Ev.ite_pos rfl (Ev.cast (key ws.length 0 0 (by omega) (by omega) (by omega)) ?_))
  rw [List.drop_zero, Int.zero_add]

section
variable (ws : List S40) (hW : WinsOk ws) (wd : List Int) (hwd : wd.length ≤ 300) (im : List (List Int)) (him : im.length ≤ 100) (hrow : ∀ x ∈ im, x.length ≤ 2048)
include hW hwd him hrow
theorem load_l56 (i : Nat) (hi : i < im.length) (n : Int) (v : Bool) : ∀ (m j : Nat) (z : Int), j + m = (im.getD i []).length → 0 ≤ z → z + (m : Int) ≤ 1000000 →
    Ev (fun k => laws_FnLoad.l48 k ws n (z + (m : Int) - (nz ((im.getD i []).drop j) : Int)) ((i + 1 : Nat) : Int) wd im) v → Ev (fun k => laws_FnLoad.l56 k ws n z (i : Int) (j : Int) wd im) v := by
  have hr := hrow _ (getD_mem (z := ([] : List Int)) hi)
  intro m
  induction m with
  | zero =>
    intro j z hj h0 h1 hv
    refine Ev.step ?_
    rw [List.drop_of_length_le (by omega)] at hv
    simp only [laws_FnLoad.l56, rd_ListInt, Int.toNat_natCast, wrap_succ hi (by omega)]
    refine Ev.ite_pos ge_0 (Ev.ite_pos (lt_in hi) (Ev.ite_neg (by omega) ?_))
    have e : z + ((0 : Nat) : Int) - ((nz ([] : List Int) : Nat) : Int) = z := by simp [nz]
    rw [e] at hv
    exact hv
  | succ m ih =>
    intro j z hj h0 h1 hv
    have hlt : j < (im.getD i []).length := by omega
    refine Ev.step ?_
    simp only [laws_FnLoad.l56, rd, rd_ListInt, Int.toNat_natCast, wrap_succ hi (by omega), wrap_succ hlt (by omega)]
    rw [Ev.drop_getD (im.getD i []) 0 j hlt] at hv
    refine Ev.ite_pos ge_0 (Ev.ite_pos (lt_in hi) (Ev.ite_pos (lt_in hlt) (Ev.ite_pos ge_0 (Ev.ite_pos (lt_in hi) (Ev.ite_pos ge_0 (Ev.ite_pos (lt_in hlt) ?_))))))
    by_cases c : (im.getD i []).getD j 0 = 0
    · refine Ev.ite_pos c ?_
      rw [wrap_of (a := z + 1) (by omega) (by omega)]
      refine ih (j + 1) (z + 1) (by omega) (by omega) (by omega) ?_
      simp only [nz] at hv
      rw [if_pos c] at hv
      rw [show z + 1 + (m : Int) - ((nz ((im.getD i []).drop (j + 1)) : Nat) : Int) = z + ((m + 1 : Nat) : Int) - ((0 + nz ((im.getD i []).drop (j + 1)) : Nat) : Int) by omega]
      exact hv
    · refine Ev.ite_neg c (ih (j + 1) z (by omega) (by omega) (by omega) ?_)
      simp only [nz] at hv
      rw [if_neg c] at hv
      rw [show z + (m : Int) - ((nz ((im.getD i []).drop (j + 1)) : Nat) : Int) = z + ((m + 1 : Nat) : Int) - ((1 + nz ((im.getD i []).drop (j + 1)) : Nat) : Int) by omega]
      exact hv
theorem load_l48 : ∀ (m i : Nat) (n z : Int), i + m = im.length → 0 ≤ n → 0 ≤ z → n + 2048 * (m : Int) ≤ 900000 → z + 2048 * (m : Int) ≤ 900000 → n + (tlS (im.drop i) : Int) = sumW ws → z + (tlS (im.drop i) : Int) - (nzS (im.drop i) : Int) ≥ sumW ws - 4 * (wd.length : Int) →
    Ev (fun k => laws_FnLoad.l48 k ws n z (i : Int) wd im) true := by
  have hs := sumW_in ws fun w hw => by
    obtain ⟨j, hj, rfl⟩ := List.getElem_of_mem hw
    have := window_in.1 (hW.win j hj)
    rw [List.getD_eq_getElem?_getD, List.getElem?_eq_getElem hj] at this
    simp only [Option.getD_some] at this
    omega
  have hwl := hW.len
  intro m
  induction m with
  | zero =>
    intro i n z hi _ _ _ _ h1 h2
    refine Ev.step ?_
    rw [List.drop_of_length_le (by omega)] at h1 h2
    simp only [tlS, nzS, Int.natCast_zero, Int.add_zero, Int.sub_zero] at h1 h2
    have w1 : wrap64 (4 * (wd.length : Int)) = 4 * (wd.length : Int) := wrap_of (by omega) (by omega)
    have w2 : wrap64 (n - 4 * (wd.length : Int)) = n - 4 * (wd.length : Int) := wrap_of (by omega) (by omega)
    simp only [laws_FnLoad.l48, w1, w2]
    refine Ev.ite_neg (by omega) (Ev.bind (reach_ev ws hW) (Ev.ite_pos h1 (Ev.cast (Ev.ret _) ?_)))
    rw [decide_eq_true_eq]
    omega
  | succ m ih =>
    intro i n z hi hn hz hn2 hz2 h1 h2
    have hlt : i < im.length := by omega
    have hr := hrow _ (getD_mem (z := ([] : List Int)) hlt)
    rw [Ev.drop_getD im [] i hlt] at h1 h2
    simp only [tlS, nzS] at h1 h2
    have hnz := nz_le (im.getD i [])
    refine Ev.step ?_
    simp only [laws_FnLoad.l48, rd_ListInt, Int.toNat_natCast]
    rw [wrap_of (a := n + ((im.getD i []).length : Int)) (by omega) (by omega)]
    refine Ev.ite_pos (lt_in hlt) (Ev.ite_pos ge_0 (Ev.ite_pos (lt_in hlt) (load_l56 ws hW wd hwd im him hrow i hlt _ true (im.getD i []).length 0 z (by omega) hz (by omega) ?_)))
    rw [List.drop_zero]
    exact ih (i + 1) _ _ (by omega) (by omega) (by omega) (by omega) (by omega) (by omega) (by omega)
end

theorem sameBytes_ev (l : List (List Int)) (hl : l.length ≤ 1048576) : Ev (fun k => laws_sameBytes.f k l l) true := by
  have key : ∀ (m i : Nat), i + m = l.length → Ev (fun k => laws_sameBytes.l8 k l l (i : Int)) true := by
    intro m
    induction m with
    | zero =>
      intro i hi
      refine Ev.step ?_
      simp only [laws_sameBytes.l8]
      exact Ev.ite_neg (by omega) (Ev.ret _)
    | succ m ih =>
      intro i hi
      have hlt : i < l.length := by omega
      refine Ev.step ?_
      simp only [laws_sameBytes.l8, wrap_succ hlt (by omega)]
      exact Ev.ite_pos (lt_in hlt) (Ev.ite_pos ge_0 (Ev.ite_pos (lt_in hlt) (Ev.ite_pos ge_0 (Ev.ite_pos (lt_in hlt) (Ev.ite_pos (by trivial) (ih (i + 1) (by omega)))))))
  unfold laws_sameBytes.f
  exact Ev.ite_pos (by trivial) (key l.length 0 (by omega))

theorem loadV_yes {t : S50} (h : Small t) {p : Int} {ws : List Int} (hy : (loadV t p ws).2 = true) : soundB t = true ∧ ∃ n hm : Nat, p = n ∧ n < t.f7.length ∧ WinsIn (t.f7.getD n z75) hm ∧ WinsOk (t.f7.getD n z75).f3 ∧ (t.f7.getD n z75).f1.tmod 4 = 0 ∧ execB ((t.f7.getD n z75).f3.getD hm z40).f2 = true ∧
    (t.f7.getD n z75).f1 - ((t.f7.getD n z75).f3.getD hm z40).f0 + 4 * (ws.length : Int) ≤ ((t.f7.getD n z75).f3.getD hm z40).f1 ∧ (loadV t p ws).1 = imgV ws hm ((t.f7.getD n z75).f1 - ((t.f7.getD n z75).f3.getD hm z40).f0).toNat (t.f7.getD n z75).f3 := by
  have hparts := h.parts
  unfold loadV at hy ⊢
  split at hy
  case isFalse => cases hy
  rename_i c1
  split at hy
  case isFalse => cases hy
  rename_i c2
  split at hy
  · cases hy
  rename_i c3
  split at hy
  · cases hy
  rename_i c4
  have hp := in_iff.1 c2
  rw [wrap_of (a := (t.f7.length : Int) - 1) (by omega) (by omega)] at hp
  obtain ⟨n, rfl⟩ : ∃ n : Nat, p = (n : Int) := ⟨p.toNat, by omega⟩
  have hn : n < t.f7.length := by omega
  obtain ⟨hm, W, hO, h4, hx⟩ := sound_ok c1 hn
  rw [Int.toNat_natCast, W.at_, Int.toNat_natCast] at c4
  refine ⟨c1, n, hm, rfl, hn, W, hO, h4, hx, by omega, ?_⟩
  rw [if_pos c1, if_pos c2, if_neg c3, Int.toNat_natCast, W.at_, Int.toNat_natCast, if_neg c4]

theorem pure_FnLoad : ∀ (x0 : (Ty.sl (.int .u8)).den), Fits (.sl (.int .u8)) x0 → ∃ k, laws_FnLoad.c.fn k (x0, ()) () = some true := by
  intro code hf
  refine Ev.get (g := fun k => laws_FnLoad.f k code) ?_
  unfold laws_FnLoad.f laws_big.f
  simp only [Option.bind_some]
  refine Ev.ite_both (fun _ => Ev.ret _) fun hbig => ?_
  have hlen : code.length ≤ 1048576 := by
    have : ¬ (code.length : Int) > 1048576 := by simpa using hbig
    omega
  obtain ⟨⟨t, p, wd⟩, hd, hq⟩ := drawLoad_out code hlen
  have ht : Any t := hq.tab
  have hwl : wd.length ≤ 300 := hq.len
  have hwr : ∀ x ∈ wd, 0 ≤ x ∧ x ≤ 4294967295 := hq.word
  have hs := ht.small
  have hnm := ht.names
  obtain ⟨h1, h2, h3, h4⟩ := load_both t hs hnm p wd hwr
  have hbb : ∀ b : Bool, (b == b) = true := fun b => by cases b <;> rfl
  refine Ev.bind hd (Ev.bind h1 (Ev.bind h2 (Ev.ite_pos (hbb _) (Ev.bind (sameBytes_ev _ (by omega)) (Ev.ite_pos rfl ?_)))))
  cases hb : (loadV t p wd).2
  · exact Ev.ite_neg (by simp) (Ev.ret _)
  refine Ev.ite_pos rfl ?_
  obtain ⟨c1, n, hm, rfl, hn, W, hO, e4, hx, hfit, hV⟩ := loadV_yes hs hb
  rw [hV] at h3 h4 ⊢
  have hparts := ht.parts
  have hlo := W.lo; have hhi := W.hi; have hlt := W.lt; have hwin := W.win
  have hrl := hO.len
  generalize hr : t.f7.getD n z75 = r at *
  have hfr : (r.f1 - (r.f3.getD hm z40).f0).toNat + 4 * wd.length ≤ (r.f3.getD hm z40).f1.toNat := by omega
  have hget : ∀ i, i < r.f3.length → (imgV wd hm (r.f1 - (r.f3.getD hm z40).f0).toNat r.f3).getD i [] = imgRow wd hm (r.f1 - (r.f3.getD hm z40).f0).toNat i (r.f3.getD i z40) := fun i hi => by
    rw [List.getD_eq_getElem?_getD, imgV_get _ _ _ _ hi]
    rfl
  have hfl := flat_len4 wd
  have hrow : ∀ i, i < r.f3.length → (((imgV wd hm (r.f1 - (r.f3.getD hm z40).f0).toNat r.f3).getD i []).length : Int) = (r.f3.getD i z40).f1 := fun i hi => by
    have hwi := hwin _ (getD_mem (z := z40) hi)
    rw [hget i hi]
    unfold imgRow
    split
    · rename_i e
      subst e
      rw [part_len (by omega)]; omega
    · rw [List.length_replicate]; omega
  have hil := imgV_len wd hm (r.f1 - (r.f3.getD hm z40).f0).toNat r.f3
  have hnz : nzS (imgV wd hm (r.f1 - (r.f3.getD hm z40).f0).toNat r.f3) ≤ 4 * wd.length := by
    refine nzS_one _ hm _ (fun i hi hne => ?_) (fun hi => ?_)
    · rw [hget i (by omega)]
      unfold imgRow
      rw [if_neg hne]
      exact nz_rep _
    · rw [hget hm hlt]
      unfold imgRow
      rw [if_pos rfl]
      have := nz_part (r.f3.getD hm z40).f1.toNat (r.f1 - (r.f3.getD hm z40).f0).toNat (wd.flatMap bts)
      omega
  have hw0 : ((imgV wd hm (r.f1 - (r.f3.getD hm z40).f0).toNat r.f3).getD hm []) = part (r.f3.getD hm z40).f1.toNat (r.f1 - (r.f3.getD hm z40).f0).toNat (wd.flatMap bts) := by
    rw [hget hm hlt]
    unfold imgRow
    rw [if_pos rfl]
  have htl := tlS_sum r.f3 _ hil hrow
  generalize imgV wd hm (r.f1 - (r.f3.getD hm z40).f0).toNat r.f3 = im at *
  have hwm := hwin _ (getD_mem (z := z40) hlt)
  have hI : Ev (fun k => impl_isImage.f k t (n : Int) im) true := isImage_ev t (by omega) n hn (by rw [hr]; omega) im (by rw [hr]; exact hil) (by rw [hr]; exact hrow)
  obtain ⟨s, hB, hg⟩ := partBoot_ev t hs c1 n hn im (by omega) (fun x hx => by have := h4 x hx; omega)
  rw [hr] at hg
  have hPB : Ev (fun k => impl_PartBoot.f k t (n : Int) im) ((s.f0, s.f1, s.f2, s.f3, (s.f4.f0, []), s.f5, s.f6, s.f7, s.f8, s.f9, s.f10), true) := by
    unfold impl_PartBoot.f
    exact Ev.bind (implSound t hs hnm) (Ev.ite_pos c1 (Ev.bind hI (Ev.ite_pos rfl (Ev.bind hB (Ev.ret _)))))
  have hIO : Ev (fun k => impl_ImageOk.f k t (n : Int) im) true := by
    unfold impl_ImageOk.f
    exact Ev.bind (implSound t hs hnm) (Ev.ite_pos c1 (Ev.bind hI (Ev.ret _)))
  have w32 : IntKind.wrap .u32 r.f1 = r.f1 := by rw [wrap_u32]; omega
  have e4' : r.f1 % 4 = 0 := by rw [← Int.tmod_eq_emod_of_nonneg (by omega)]; exact e4
  have key : ∀ (m i : Nat) (y : S68), i + m = wd.length → y.f0 = (List.replicate 16 0, IntKind.wrap .u32 r.f1, im) → Ev (fun k => laws_FnLoad.l30 k r.f3 (i : Int) wd im y) true := by
    intro m
    induction m with
    | zero =>
      intro i y hi hy
      refine Ev.step ?_
      simp only [laws_FnLoad.l30]
      refine Ev.ite_neg (by omega) ?_
      have := load_l48 r.f3 hO wd hwl im (by omega) h4 im.length 0 0 0 (by omega) (by omega) (by omega) (by omega) (by omega) (by rw [List.drop_zero]; omega) (by rw [List.drop_zero]; omega)
      exact this
    | succ m ih =>
      intro i y hi hy
      have hlt2 : i < wd.length := by omega
      have hxr := hwr _ (getD_mem (z := (0 : Int)) hlt2)
      refine Ev.step ?_
      simp only [laws_FnLoad.l30, rd, Int.toNat_natCast, wrap_succ hlt2 (by omega), hy]
      rw [wrap_of (a := 4 * (i : Int)) (by omega) (by omega)]
      have wa : IntKind.wrap .u32 (S29.f1 (List.replicate 16 0, IntKind.wrap .u32 r.f1, im) + IntKind.wrap .u32 (4 * (i : Int))) = r.f1 + 4 * (i : Int) := by
        show IntKind.wrap .u32 (IntKind.wrap .u32 r.f1 + IntKind.wrap .u32 (4 * (i : Int))) = _
        rw [w32, wrap_u32, wrap_u32]; omega
      have hF := fetch_ev r.f3 hO ((List.replicate 16 0, r.f1 + 4 * (i : Int), im) : S29) ⟨by show (List.replicate 16 (0 : Int)).length = 16; simp, rfl, hil, hrow⟩ (hm := hm) hlt (by show 0 ≤ r.f1 + 4 * (i : Int) ∧ r.f1 + 4 * (i : Int) ≤ 4294967295; omega)
        (by show (r.f1 + 4 * (i : Int)).tmod 4 = 0; rw [Int.tmod_eq_emod_of_nonneg (by omega)]; omega) (by show _ ≤ r.f1 + 4 * (i : Int); omega) (by show r.f1 + 4 * (i : Int) + 4 ≤ _; omega) hx hxr (by
          show ((im.getD hm []).drop (r.f1 + 4 * (i : Int) - (r.f3.getD hm z40).f0).toNat).take 4 = _
          rw [hw0, show (r.f1 + 4 * (i : Int) - (r.f3.getD hm z40).f0).toNat = (r.f1 - (r.f3.getD hm z40).f0).toNat + 4 * i by omega]
          exact part_word hlt2)
      refine Ev.ite_pos (lt_in hlt2) (Ev.bind (a := (wd.getD i 0, 0)) ?_ (Ev.ite_pos rfl (Ev.ite_pos ge_0 (Ev.ite_pos (lt_in hlt2) (Ev.ite_pos rfl (ih (i + 1) _ (by omega) rfl))))))
      rw [wa]
      exact hF
  refine Ev.bind hPB (Ev.ite_pos rfl (Ev.bind hIO (Ev.ite_pos rfl ?_)))
  simp only [rd_T75, Int.toNat_natCast, hr]
  refine Ev.ite_pos (by omega) (Ev.ite_pos (by omega) (Ev.ite_pos (by show s.f0.f1 = _; rw [hg]) (Ev.ite_pos (by omega) (Ev.ite_pos (by omega) (key wd.length 0 _ (by omega) hg)))))
end Go.Proofs.Ytgnhojiogkeepaa.PLo
