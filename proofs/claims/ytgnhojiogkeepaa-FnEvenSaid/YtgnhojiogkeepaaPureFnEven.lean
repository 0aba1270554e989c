/- Plain Lean over the printed functions: however the slots of a partition are cut, the tables stay sound, no slot of another is another, each slot more costs pad and guard; and so the law's function answers true. -/
import Derived.Test.YtgnhojiogkeepaaD6
set_option linter.unusedVariables false
set_option linter.unusedSimpArgs false
set_option linter.unusedSectionVars false
namespace Go.Proofs.Ytgnhojiogkeepaa.PSp
open Go Go.RowKit Go.Proofs.Ytgnhojiogkeepaa.V Go.Proofs.Ytgnhojiogkeepaa.C

/-! ### What is drawn -/
def EvQ (z : S50 × Int × Int) : Prop := Any z.1
theorem below_some {y : S119} (c : Cur y) {n : Int} (hn : 0 < n) : ∃ z, spec_l01Below_o1.f n y = some z ∧ (0 ≤ z.1 ∧ z.1 < n) ∧ Cur z.2 := by
  obtain ⟨v, ⟨k, hk⟩, hq⟩ := below_out c hn
  exact ⟨v, hk k (Nat.le_refl _), hq⟩
theorem even_l15 (t : S50) (h : Any t) (y : S50) {c : S119} (hc : Cur c) : Out EvQ (fun k => spec_DrawEven.l15 k y c t) := by
  obtain ⟨z, e1, _, hz⟩ := below_some hc (n := 5) (by omega)
  obtain ⟨u, e2, _, hu⟩ := below_some hz (n := 40) (by omega)
  refine Out.step ?_
  simp only [lenZ_eq, spec_DrawEven.l15, e1, e2, Option.bind_some, sameO_self]
  exact Out.ret h
theorem drawEven_out (code : List Int) (hc : code.length ≤ 1048576) : Out EvQ (fun k => spec_DrawEven.f k code) := by
  unfold spec_DrawEven.f
  try simp only [lenZ_eq]
  refine Out.bind (new_out code (by omega)) fun y hy => Out.bind (any_out hy) fun u hu => ?_
  have ha := hu.1
  have hs := ha.slots
  refine Out.ite (fun h0 => ?_) fun _ => even_l15 _ (any_set ha _ rfl) _ hu.2
  have h0' : (0 : Int) ≤ wrap64 ((u.1.f10.length : Int) - 1) := h0
  rw [wrap_of (by omega) (by omega)] at h0'
  have hw : wrap64 ((u.1.f10.length : Int) - 1) = (u.1.f10.length : Int) - 1 := wrap_of (by omega) (by omega)
  have h1 : (u.1.f10.length : Int) - 1 < (u.1.f10.length : Int) := by omega
  obtain ⟨z, e1, _, hz⟩ := below_some hu.2 (n := 800) (by omega)
  simp only [hw, e1, Option.bind_some, h0', h1, if_true, sameO_self]
  exact even_l15 _ (any_set ha _ (by simp)) _ hz

/-! ### Latencies -/
def latL (t : S50) (q : Int) : List S86 → Int → Int → Int → Int
  | [], a, e, m => if a < 0 then -1 else mx m (wrap64 (wrap64 (a + t.f6) - e))
  | s :: l, a, e, m => if s.f0 = q then if a < 0 then latL t q l (wrap64 (s.f1 + t.f4)) (wrap64 (wrap64 (s.f1 + s.f2) - t.f5)) m else latL t q l a (wrap64 (wrap64 (s.f1 + s.f2) - t.f5)) (mx m (wrap64 (wrap64 (s.f1 + t.f4) - e))) else latL t q l a e m
theorem lat_ev (t : S50) (q : Int) (l : List S86) (hl : l.length ≤ 100) (n : Nat) : ∀ (i : Nat) (a e m : Int), i + n = l.length → Ev (fun k => impl_latency.l6 k q a e m l (l.length : Int) (i : Int) t) (latL t q (l.drop i) a e m) := by
  induction n with
  | zero =>
    intro i a e m hi
    refine Ev.step ?_
    rw [List.drop_of_length_le (by omega)]
    simp only [lenZ_eq, impl_latency.l6, latL]
    refine Ev.ite_neg (by omega) ?_
    by_cases c : a < 0
    · simp only [c, if_true]; exact Ev.ret _
    · simp only [c, if_false]; exact Ev.ret _
  | succ n ih =>
    intro i a e m hi
    have hlt : i < l.length := by omega
    refine Ev.step ?_
    rw [Ev.drop_getD l z86 i hlt]
    simp only [lenZ_eq, impl_latency.l6, rd_T86, Int.toNat_natCast, wrap_succ hlt (by omega), latL]
    refine Ev.ite_pos (lt_in hlt) (Ev.ite_pos ge_0 (Ev.ite_pos (lt_in hlt) ?_))
    by_cases c : (l.getD i z86).f0 = q
    · rw [if_pos c]
      refine Ev.ite_pos c ?_
      by_cases d : a < 0
      · rw [if_pos d]; exact Ev.ite_pos d (ih (i + 1) _ _ _ (by omega))
      · rw [if_neg d]; exact Ev.ite_neg d (ih (i + 1) _ _ _ (by omega))
    · rw [if_neg c]
      exact Ev.ite_neg c (ih (i + 1) _ _ _ (by omega))
theorem latency_ev {t : S50} (h : Small t) (hnm : ∀ p ∈ t.f7, p.f0.size ≤ 9223372036854775807) (hs : soundB t = true) (q : Int) : Ev (fun k => impl_Latency.f k t q) (latL t q t.f10 (-1) 0 (-1)) := by
  have hl := sound_len hs
  unfold impl_Latency.f impl_latency.f
  try simp only [lenZ_eq]
  refine Ev.bind (implSound t h hnm) (Ev.ite_pos hs (Ev.bind ?_ (Ev.ret _)))
  exact lat_ev t q t.f10 (by omega) t.f10.length 0 _ _ _ (by omega)
theorem split_lat (t : S50) (q f : Int) : ∀ (l : List S86) (i : Nat), i < l.length → (l.getD i z86).f0 ≠ q → ∀ a e m : Int, latL t q (splitAt l i f) a e m = latL t q l a e m
  | [], i, h, _, _, _, _ => by simp at h
  | s :: l, 0, _, hq, a, e, m => by
    have hq : ¬ s.f0 = q := hq
    show latL t q ((s.f0, s.f1, f) :: (s.f0, wrap64 (s.f1 + f), wrap64 (s.f2 - f)) :: l) a e m = _
    simp only [latL]
    rw [if_neg hq, if_neg (show ¬ ((s.f0, s.f1, f) : S86).1 = q from hq), if_neg (show ¬ ((s.f0, wrap64 (s.f1 + f), wrap64 (s.f2 - f)) : S86).1 = q from hq)]
  | s :: l, i + 1, h, hq, a, e, m => by
    have hs : (s :: l).getD (i + 1) z86 = l.getD i z86 := by simp [List.getD_eq_getElem?_getD]
    have e0 : splitAt (s :: l) (i + 1) f = s :: splitAt l i f := by
      simp only [splitAt, hs, List.take_succ_cons, List.cons_append, List.drop_succ_cons]
    rw [hs] at hq
    have ih := split_lat t q f l i (by simpa using h) hq
    rw [e0]
    simp only [latL, ih]

/-! ### What cutting keeps -/
structure Keep (t : S50) (p : Int) (l L : List S86) : Prop where
  len : l.length ≤ L.length
  sum : sumL L = sumL l
  own : shareL (t.f4 + t.f5) p L = shareL (t.f4 + t.f5) p l - ((L.length : Int) - (l.length : Int)) * (t.f4 + t.f5)
  share : ∀ q, q ≠ p → shareL (t.f4 + t.f5) q L = shareL (t.f4 + t.f5) q l
  lat : ∀ q, q ≠ p → ∀ a e m : Int, latL t q L a e m = latL t q l a e m
theorem Keep.refl (t : S50) (p : Int) (l : List S86) : Keep t p l l := ⟨Nat.le_refl _, rfl, by rw [Int.sub_self, Int.zero_mul, Int.sub_zero], fun _ _ => rfl, fun _ _ _ _ _ => rfl⟩
theorem even_keep (t : S50) (p cut : Int) : ∀ (n i : Nat) (l : List S86), soundB (setSl t l) = true → Keep t p l (evenL t p cut n i l)
  | 0, i, l, _ => Keep.refl t p l
  | n + 1, i, l, hs => by
    unfold evenL
    split
    case isFalse => exact Keep.refl t p l
    split
    case isFalse => exact even_keep t p cut n (i + 1) l hs
    rename_i hi hp
    split
    case isFalse => exact even_keep t p cut n (i + 1) l hs
    rename_i hc
    have hso : soundB (setSl t (splitL t l (i : Int) cut).1) = true := sound_split hs (i : Int) cut hc
    have ih := even_keep t p cut n (i + 1) (splitL t l (i : Int) cut).1 hso
    obtain ⟨j, hj, hlt, h16, hL, s, hs1, hs2, a1, a2, a3, a4, a5, a6⟩ := splitL_true hs hc
    obtain rfl : i = j := by omega
    obtain ⟨ht, _⟩ := sound_in hs
    have hp4 : 1 ≤ t.f4 ∧ t.f4 ≤ 5000 := ht.pad
    have hp5 : 1 ≤ t.f5 ∧ t.f5 ≤ 5000 := ht.guard
    rw [hL] at ih ⊢
    have hwv : ∀ x, l[i]? = some x → wrap64 (x.f2 - cut) = x.f2 - cut := fun x hx => by
      rw [hs1] at hx
      cases hx
      exact wrap_of (by omega) (by omega)
    have hlen : (splitAt l i cut).length = l.length + 1 := splitAt_len hlt
    refine ⟨by have := ih.len; omega, ih.sum.trans (split_sum l i hlt hwv), ?_, fun q hq => ?_, fun q hq a e m => ?_⟩
    · rw [ih.own, split_share l i hlt hwv, if_pos hp, hlen]
      have e : (((evenL t p cut n (i + 1) (splitAt l i cut)).length : Int) - (l.length : Int)) = (((evenL t p cut n (i + 1) (splitAt l i cut)).length : Int) - ((l.length + 1 : Nat) : Int)) + 1 := by omega
      rw [e, Int.add_mul, Int.one_mul]
      omega
    · rw [ih.share q hq, split_share l i hlt hwv, if_neg (by rw [hp]; exact fun e => hq e.symm)]
      omega
    · rw [ih.lat q hq, split_lat t q cut l i hlt (by rw [hp]; exact fun e => hq e.symm)]

theorem evenV_yes {t : S50} {p cut : Int} (h : (evenV t p cut).2 = true) : soundB t = true ∧ evenV t p cut = (setSl t (evenL t p cut 16 0 t.f10), true) := by
  unfold evenV at h ⊢
  split at h
  case isFalse => cases h
  rename_i c
  rw [if_pos c]
  split at h
  case isFalse => cases h
  rename_i d
  rw [if_pos d]
  exact ⟨c, rfl⟩

theorem pure_FnEven : ∀ (x0 : (Ty.sl (.int .u8)).den), Fits (.sl (.int .u8)) x0 → ∃ k, laws_FnEven.c.fn k (x0, ()) () = some true := by
  intro code hf
  refine Ev.get (g := fun k => laws_FnEven.f k code) ?_
  unfold laws_FnEven.f laws_big.f
  try simp only [lenZ_eq]
  simp only [Option.bind_some]
  refine Ev.ite_both (fun _ => Ev.ret _) fun hbig => ?_
  have hlen : code.length ≤ 1048576 := by
    have : ¬ (code.length : Int) > 1048576 := by simpa using hbig
    omega
  obtain ⟨⟨t, p, cut⟩, hd, ht⟩ := drawEven_out code hlen
  have ht : Any t := ht
  have hs := ht.small
  have hnm := ht.names
  refine Ev.bind hd (Ev.bind (specEven_ev t hs hnm p cut) (Ev.bind (implEven_ev t hs hnm p cut) ?_))
  have hbb : ∀ b : Bool, (b == b) = true := fun b => by cases b <;> rfl
  refine Ev.ite_pos (hbb _) (Ev.bind (same_ev _ (evenV_small hs p cut)) (Ev.ite_pos rfl ?_))
  cases hb : (evenV t p cut).2
  · exact Ev.ite_neg (by simp) (Ev.ret _)
  refine Ev.ite_pos rfl ?_
  obtain ⟨c1, c3⟩ := evenV_yes hb
  have hK := even_keep t p cut 16 0 t.f10 c1
  have hso := evenL_sound t p cut 16 0 t.f10 c1
  rw [c3]
  show Ev (fun k => (impl_Sound.f k (setSl t (evenL t p cut 16 0 t.f10))).bind _) true
  generalize evenL t p cut 16 0 t.f10 = L at hK hso ⊢
  obtain ⟨hp, hin⟩ := sound_in c1
  have hp4 := hp.pad; have hp5 := hp.guard; have hp6 := hp.major
  have hL16 : L.length ≤ 16 := (sound_len hso).2
  have hsl := ht.slots
  have hkl := hK.len
  have hsm : Small (setSl t L) := setSl_small hs (by omega)
  have hS : ∀ q, Ev (fun k => impl_ShareOf.f k (setSl t L) q) (shareL (t.f4 + t.f5) q L) := fun q => shareOf_ev hsm hnm hso q
  have hT : ∀ q, Ev (fun k => impl_ShareOf.f k t q) (shareL (t.f4 + t.f5) q t.f10) := fun q => shareOf_ev hs hnm c1 q
  have hG : Ev (fun k => impl_GapOf.f k (setSl t L)) (t.f6 - sumL L) := gapOf_ev hsm hnm hso
  have hLa : ∀ q, Ev (fun k => impl_Latency.f k (setSl t L) q) (latL t q L (-1) 0 (-1)) := fun q => by
    refine Ev.cast (latency_ev hsm hnm hso q) ?_
    show latL (setSl t L) q L (-1) 0 (-1) = _
    have : ∀ (l : List S86) (a e m : Int), latL (setSl t L) q l a e m = latL t q l a e m := by
      intro l
      induction l with
      | nil => intro a e m; rfl
      | cons s l ih => intro a e m; simp only [latL, ih]; rfl
    exact this L _ _ _
  have hw : wrap64 ((L.length : Int) - (t.f10.length : Int)) = (L.length : Int) - (t.f10.length : Int) := wrap_of (by omega) (by omega)
  have hSd : Ev (fun k => impl_Sound.f k (setSl t L)) true := by
    unfold impl_Sound.f
    try simp only [lenZ_eq]
    exact Ev.bind (implSound _ hsm hnm) (Ev.cast (Ev.ret _) hso)
  refine Ev.bind hSd (Ev.ite_pos rfl (Ev.ite_neg ?_ (Ev.bind (hS p) (Ev.bind (hT p) (Ev.ite_pos ?_ (Ev.bind hG (Ev.bind (gapOf_ev hs hnm c1) (Ev.ite_pos ?_ ?_))))))))
  · show ¬ wrap64 ((L.length : Int) - (t.f10.length : Int)) < 0
    rw [hw]; omega
  · show shareL (t.f4 + t.f5) p L = wrap64 (shareL (t.f4 + t.f5) p t.f10 - wrap64 (wrap64 ((L.length : Int) - (t.f10.length : Int)) * wrap64 (t.f4 + t.f5)))
    have hb1 := shareL_in (d := t.f4 + t.f5) (p := p) (by omega) t.f10 hin
    have hm0 : 0 ≤ ((L.length : Int) - (t.f10.length : Int)) * (t.f4 + t.f5) := Int.mul_nonneg (by omega) (by omega)
    have hm1 : ((L.length : Int) - (t.f10.length : Int)) * (t.f4 + t.f5) ≤ 16 * 10000 := Int.mul_le_mul (by omega) (by omega) (by omega) (by omega)
    rw [hw, wrap_of (a := t.f4 + t.f5) (by omega) (by omega), wrap_of (a := ((L.length : Int) - (t.f10.length : Int)) * (t.f4 + t.f5)) (by omega) (by omega), wrap_of (by omega) (by omega)]
    exact hK.own
  · rw [hK.sum]
  have hpl := ht.parts
  have key : ∀ (m j : Nat), j + m = t.f7.length → Ev (fun k => laws_FnEven.l28 k p (j : Int) t (setSl t L)) true := by
    intro m
    induction m with
    | zero =>
      intro j hj
      refine Ev.step ?_
      simp only [lenZ_eq, laws_FnEven.l28]
      exact Ev.ite_neg (by omega) (Ev.ret _)
    | succ m ih =>
      intro j hj
      have hlt : j < t.f7.length := by omega
      refine Ev.step ?_
      simp only [lenZ_eq, laws_FnEven.l28, wrap_succ hlt (by omega)]
      refine Ev.ite_pos (lt_in hlt) ?_
      by_cases c : (j : Int) = p
      · exact Ev.ite_pos c (ih (j + 1) (by omega))
      · exact Ev.ite_neg c (Ev.bind (hS _) (Ev.bind (hT _) (Ev.ite_pos (hK.share _ c) (Ev.bind (hLa _) (Ev.bind (latency_ev hs hnm c1 _) (Ev.ite_pos (hK.lat _ c _ _ _) (ih (j + 1) (by omega))))))))
  exact key t.f7.length 0 (by omega)
end Go.Proofs.Ytgnhojiogkeepaa.PSp
