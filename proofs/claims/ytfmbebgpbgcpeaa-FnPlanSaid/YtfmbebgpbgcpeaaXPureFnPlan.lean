/- Plain Lean over the printed functions: what is planned is sound and gives each partition just what it needs, and so the law's function answers true. -/
import Derived.Test.YtfmbebgpbgcpeaaXD4
import Derived.Test.YtfmbebgpbgcpeaaXC18
set_option linter.unusedVariables false
set_option linter.unusedSimpArgs false
set_option linter.unusedSectionVars false
namespace Go.Proofs.Ytfmbebgpbgcpeaa.PPl
open Go Go.RowKit Go.Proofs.Ytfmbebgpbgcpeaa.V Go.Proofs.Ytfmbebgpbgcpeaa.C

/-! ### What is drawn -/
def PlQ (z : S33 × List Int) : Prop := Any z.1 ∧ z.2.length ≤ 100
theorem zero_out (t : S33) (h : Any t) (m : Nat) : ∀ (i : Nat) (y0 : S33) (l : List Int), i + m = l.length → l.length ≤ 100 → Out PlQ (fun k => spec_DrawPlan.l32 k (i : Int) y0 t l) := by
  induction m with
  | zero =>
    intro i y0 l hi hl
    refine Out.step ?_
    simp only [spec_DrawPlan.l32]
    exact Out.ite_neg (by omega) (Out.ret ⟨h, hl⟩)
  | succ m ih =>
    intro i y0 l hi hl
    have hlt : i < l.length := by omega
    refine Out.step ?_
    simp only [spec_DrawPlan.l32, wrap_succ hlt (by omega)]
    exact Out.ite_pos (lt_in hlt) (Out.ite_pos ge_0 (Out.ite_pos (lt_in hlt) (ih (i + 1) _ _ (by simp; omega) (by simpa using hl))))
theorem needs_out (t : S33) (h : Any t) (m : Nat) : ∀ (i : Nat) (y0 : S33) {y : S145} (c : Cur y) (l : List Int), i + m = t.f7.length → l.length = i → Out PlQ (fun k => spec_DrawPlan.l12 k (i : Int) y0 y t l) := by
  have hp := h.parts
  induction m with
  | zero =>
    intro i y0 y c l hi hl
    refine Out.step ?_
    simp only [spec_DrawPlan.l12]
    refine Out.ite_neg (by omega) (Out.bind (below_out c (n := 12) (by omega)) fun z hz => ?_)
    refine Out.ite (fun _ => Out.ite_pos (by simp; omega) (Out.ret ⟨h, by simp; omega⟩)) fun _ => Out.ite (fun _ => Out.bind (pick_out hz.2 (by simp)) fun u hu => Out.ite_pos (by omega) (Out.ret ⟨h, by simp; omega⟩)) fun _ => Out.ite (fun _ => zero_out t h l.length 0 _ _ (by omega) (by omega)) fun _ => Out.ret ⟨h, by show l.length ≤ 100; omega⟩
  | succ m ih =>
    intro i y0 y c l hi hl
    have hlt : i < t.f7.length := by omega
    refine Out.step ?_
    simp only [spec_DrawPlan.l12, wrap_succ hlt (by omega)]
    refine Out.ite_pos (lt_in hlt) (Out.bind (below_out c (n := 120) (by omega)) fun z hz => Out.bind (pick_out hz.2 (by simp)) fun u hu => Out.ite_pos (by simp; omega) (ih (i + 1) _ hu.2 _ (by omega) (by simp; omega)))
theorem drawPlan_out (code : List Int) (hc : code.length ≤ 1048576) : Out PlQ (fun k => spec_DrawPlan.f k code) := by
  unfold spec_DrawPlan.f
  simp only [sameO_self]
  refine Out.bind (new_out code (by omega)) fun y hy => Out.bind (any_out hy) fun u hu => Out.bind (below_out hu.2 (n := 500) (by omega)) fun z hz => Out.step ?_
  simp only [spec_DrawPlan.l9]
  have ha := hu.1
  exact needs_out ((u.1.f0, u.1.f1, u.1.f2, u.1.f3, u.1.f4, u.1.f5, wrap64 (u.1.f6 + z.1), u.1.f7, u.1.f8, u.1.f9, u.1.f10) : S33) ⟨ha.parts, ha.part, ha.devs, ha.chans, ha.slots⟩ u.1.f7.length 0 _ hz.2 [] (Nat.zero_add _) rfl

/-! ### The slots that are planned -/
def slOf (d : Int) : List Int → Int → Int → List S61
  | [], _, _ => []
  | n :: r, i, x => if n > 0 then (i, x, d + n) :: slOf d r (i + 1) (x + (d + n)) else slOf d r (i + 1) x
def endOf (d : Int) : List Int → Int → Int
  | [], x => x
  | n :: r, x => if n > 0 then endOf d r (x + (d + n)) else endOf d r x
def planE (t : S33) (sl : List S61) (e : Int) : S33 × Bool := if (sl.length : Int) = 0 then (zeroT, false) else if e > t.f6 then (zeroT, false) else (setSl t sl, true)
theorem planL_eq {t : S33} (hp : SpansIn t) : ∀ (ns : List Int) (i x : Int) (acc : List S61), (∀ n ∈ ns, 0 ≤ n ∧ n ≤ 5000) → 0 ≤ x → x + 15000 * (ns.length : Int) ≤ 1000000000 → planL t ns i x acc = planE t (acc ++ slOf (t.f4 + t.f5) ns i x) (endOf (t.f4 + t.f5) ns x)
  | [], i, x, acc, _, _, _ => by simp only [planL, planE, slOf, endOf, List.append_nil]
  | n :: r, i, x, acc, hn, h0, h1 => by
    have h4 := hp.pad; have h5 := hp.guard
    have hn0 := hn n (by simp)
    simp only [List.length_cons] at h1
    simp only [planL, slOf, endOf]
    rw [wrap_of (a := t.f4 + t.f5) (by omega) (by omega), wrap_of (a := t.f4 + t.f5 + n) (by omega) (by omega), wrap_of (a := x + (t.f4 + t.f5 + n)) (by omega) (by omega)]
    by_cases c : n > 0
    · rw [if_pos c, if_pos c, if_pos c, planL_eq hp r _ _ _ (fun m hm => hn m (by simp [hm])) (by omega) (by omega)]
      simp only [List.append_assoc, List.singleton_append]
    · rw [if_neg c, if_neg c, if_neg c]
      exact planL_eq hp r _ _ _ (fun m hm => hn m (by simp [hm])) h0 (by omega)
theorem slOf_SL {d N : Int} : ∀ (ns : List Int) (i x : Int), 0 ≤ i → i + (ns.length : Int) ≤ N → SL N (d + 1) (slOf d ns i x) x (endOf d ns x)
  | [], i, x, _, _ => Int.le_refl _
  | n :: r, i, x, hi, hN => by
    simp only [List.length_cons] at hN
    simp only [slOf, endOf]
    by_cases c : n > 0
    · rw [if_pos c, if_pos c]
      exact ⟨⟨hi, by show i < N; omega⟩, Int.le_refl _, by show d + 1 ≤ d + n; omega, slOf_SL r (i + 1) _ (by omega) (by omega)⟩
    · rw [if_neg c, if_neg c]
      exact slOf_SL r (i + 1) x (by omega) (by omega)
theorem slOf_len (d : Int) : ∀ (ns : List Int) (i x : Int), (slOf d ns i x).length ≤ ns.length
  | [], i, x => Nat.le_refl _
  | n :: r, i, x => by
    simp only [slOf]
    split
    · have := slOf_len d r (i + 1) (x + (d + n)); simp only [List.length_cons]; omega
    · have := slOf_len d r (i + 1) x; simp only [List.length_cons]; omega
/-- What a partition gets. -/
def shareL (d p : Int) : List S61 → Int
  | [] => 0
  | s :: l => (if s.f0 = p then s.f2 - d else 0) + shareL d p l
theorem share_past (d p : Int) : ∀ (ns : List Int) (i x : Int), p < i → shareL d p (slOf d ns i x) = 0
  | [], i, x, _ => rfl
  | n :: r, i, x, h => by
    simp only [slOf]
    split
    · simp only [shareL]
      rw [if_neg (show ¬ i = p by omega), share_past d p r (i + 1) _ (by omega)]
      rfl
    · exact share_past d p r (i + 1) x (by omega)
theorem share_of (d : Int) : ∀ (ns : List Int) (i : Int) (x : Int) (j : Nat), j < ns.length → (∀ n ∈ ns, 0 ≤ n) → shareL d (i + j) (slOf d ns i x) = ns.getD j 0
  | [], i, x, j, h, _ => by simp at h
  | n :: r, i, x, 0, _, hn => by
    have h0 := hn n (by simp)
    simp only [slOf, Int.natCast_zero, Int.add_zero, List.getD_cons_zero]
    split
    · simp only [shareL, if_true]
      rw [share_past d i r (i + 1) _ (by omega)]
      show d + n - d + 0 = n
      omega
    · rw [share_past d i r (i + 1) x (by omega)]; omega
  | n :: r, i, x, j + 1, h, hn => by
    have e : i + ((j + 1 : Nat) : Int) = i + 1 + (j : Int) := by omega
    simp only [List.length_cons] at h
    simp only [slOf, List.getD_cons_succ]
    rw [e]
    split
    · simp only [shareL]
      rw [if_neg (show ¬ i = i + 1 + (j : Int) by omega), share_of d r (i + 1) _ j (by omega) (fun m hm => hn m (by simp [hm]))]
      omega
    · exact share_of d r (i + 1) x j (by omega) (fun m hm => hn m (by simp [hm]))

theorem share_ev (t : S33) (hp : SpansIn t) (p : Int) (l : List S61) (hl : l.length ≤ 100) (hb : ∀ s ∈ l, 0 ≤ s.f2 ∧ s.f2 ≤ 20000) (m : Nat) : ∀ (i : Nat) (x : Int), i + m = l.length → -1000000000 + 40000 * (m : Int) ≤ x → x ≤ 1000000000 - 40000 * (m : Int) → Ev (fun k => impl_ShareOf.l10 k p x l (l.length : Int) (i : Int) t) (x + shareL (t.f4 + t.f5) p (l.drop i)) := by
  have h4 := hp.pad; have h5 := hp.guard
  induction m with
  | zero =>
    intro i x hi _ _
    refine Ev.step ?_
    rw [List.drop_of_length_le (by omega)]
    simp only [impl_ShareOf.l10, shareL, Int.add_zero]
    exact Ev.ite_neg (by omega) (Ev.ret _)
  | succ m ih =>
    intro i x hi h0 h1
    have hlt : i < l.length := by omega
    have hs := hb _ (getD_mem (z := z61) hlt)
    refine Ev.step ?_
    rw [Ev.drop_getD l z61 i hlt]
    simp only [impl_ShareOf.l10, rd_T61, Int.toNat_natCast, wrap_succ hlt (by omega), shareL]
    rw [wrap_of (a := (l.getD i z61).f2 - t.f4) (by omega) (by omega), wrap_of (a := (l.getD i z61).f2 - t.f4 - t.f5) (by omega) (by omega), wrap_of (a := x + ((l.getD i z61).f2 - t.f4 - t.f5)) (by omega) (by omega)]
    refine Ev.ite_pos (lt_in hlt) (Ev.ite_pos ge_0 (Ev.ite_pos (lt_in hlt) ?_))
    by_cases c : (l.getD i z61).f0 = p
    · rw [if_pos c]
      refine Ev.ite_pos c (Ev.cast (ih (i + 1) _ (by omega) (by omega) (by omega)) (by omega))
    · rw [if_neg c]
      exact Ev.ite_neg c (Ev.cast (ih (i + 1) _ (by omega) (by omega) (by omega)) (by omega))
theorem slOf_in {d : Int} (hd : 0 ≤ d ∧ d ≤ 10000) : ∀ (ns : List Int) (i x : Int), (∀ n ∈ ns, 0 ≤ n ∧ n ≤ 5000) → ∀ s ∈ slOf d ns i x, 0 ≤ s.f2 ∧ s.f2 ≤ 20000
  | [], i, x, _, s, hs => by simp [slOf] at hs
  | n :: r, i, x, hn, s, hs => by
    have h0 := hn n (by simp)
    simp only [slOf] at hs
    split at hs
    · rcases List.mem_cons.1 hs with rfl | hs
      · exact ⟨by show 0 ≤ d + n; omega, by show d + n ≤ 20000; omega⟩
      · exact slOf_in hd r _ _ (fun m hm => hn m (by simp [hm])) s hs
    · exact slOf_in hd r _ _ (fun m hm => hn m (by simp [hm])) s hs

theorem planned_ev {t : S33} (h : Any t) (ns : List Int) (hl : ns.length ≤ 100) {out : S33} (he : planV t ns = (out, true)) : Ev (fun k => impl_Sound.f k out) true ∧ Ev (fun k => laws_FnPlan.l26 k 0 ns out) true := by
  unfold planV at he
  split at he
  case isFalse => cases he
  rename_i hsb
  split at he
  case isFalse => cases he
  rename_i hlen
  split at he
  · cases he
  rename_i hany
  have hin : ∀ n ∈ ns, 0 ≤ n ∧ n ≤ 5000 := by
    intro n hn
    have : inB n 0 5000 = true := by
      cases hb : inB n 0 5000
      · exact absurd (List.any_eq_true.2 ⟨n, hn, by rw [hb]; rfl⟩) hany
      · rfl
    exact in_iff.1 this
  have hsb' := hsb
  simp only [soundB, Bool.and_eq_true] at hsb'
  obtain ⟨q1, q2, ⟨q3, q4⟩, q5⟩ := hsb'
  obtain ⟨_, _, hsp⟩ := head_in q1
  have hpa := h.parts
  rw [planL_eq hsp ns 0 0 [] hin (Int.le_refl _) (by omega), List.nil_append] at he
  unfold planE at he
  split at he
  · cases he
  rename_i hne
  split at he
  · cases he
  rename_i hend
  obtain rfl : setSl t (slOf (t.f4 + t.f5) ns 0 0) = out := (Prod.mk.inj he).1
  have hd : 0 ≤ t.f4 + t.f5 ∧ t.f4 + t.f5 ≤ 10000 := by have := hsp.pad; have := hsp.guard; omega
  have hle := slOf_len (t.f4 + t.f5) ns 0 0
  have hsm : Small (setSl t (slOf (t.f4 + t.f5) ns 0 0)) := setSl_small h.small (by omega)
  have hSL : SL (t.f7.length : Int) (t.f4 + t.f5 + 1) (slOf (t.f4 + t.f5) ns 0 0) 0 (endOf (t.f4 + t.f5) ns 0) := slOf_SL ns 0 0 (Int.le_refl _) (by omega)
  have hslots : slotsB (setSl t (slOf (t.f4 + t.f5) ns 0 0)) = true := by
    unfold slotsB
    rw [Bool.and_eq_true]
    exact ⟨SL.sound (t := setSl t (slOf (t.f4 + t.f5) ns 0 0)) (n := (t.f7.length : Int)) ⟨rfl, by omega, by omega⟩ (by show 0 ≤ t.f4 + t.f5 + 1; omega) hSL (by show _ ≤ t.f6; omega), in_iff.2 ⟨by show 1 ≤ ((slOf (t.f4 + t.f5) ns 0 0).length : Int); omega, by show ((slOf (t.f4 + t.f5) ns 0 0).length : Int) ≤ 16; omega⟩⟩
  have hsound : soundB (setSl t (slOf (t.f4 + t.f5) ns 0 0)) = true := by
    unfold soundB
    simp only [Bool.and_eq_true]
    exact ⟨q1, q2, ⟨q3, q4⟩, hslots⟩
  have hi := implSound _ hsm (show ∀ p ∈ t.f7, p.f0.size ≤ 9223372036854775807 from h.names)
  rw [hsound] at hi
  refine ⟨Ev.bind hi (Ev.ret _), ?_⟩
  have hspo : SpansIn (setSl t (slOf (t.f4 + t.f5) ns 0 0)) := ⟨hsp.pad, hsp.guard, hsp.major⟩
  have hshare : ∀ j : Nat, j < ns.length → Ev (fun k => impl_ShareOf.f k (setSl t (slOf (t.f4 + t.f5) ns 0 0)) (j : Int)) (ns.getD j 0) := by
    intro j hj
    unfold impl_ShareOf.f
    refine Ev.bind hi (Ev.ite_pos rfl ?_)
    have := share_ev _ hspo (j : Int) (slOf (t.f4 + t.f5) ns 0 0) (by omega) (slOf_in hd ns 0 0 hin) (slOf (t.f4 + t.f5) ns 0 0).length 0 0 (by omega) (by omega) (by omega)
    refine Ev.cast this ?_
    have e := share_of (t.f4 + t.f5) ns 0 0 j hj (fun n hn => (hin n hn).1)
    rw [Int.zero_add] at e
    rw [List.drop_zero, Int.zero_add]
    exact e
  have key : ∀ (m i : Nat), i + m = ns.length → Ev (fun k => laws_FnPlan.l26 k (i : Int) ns (setSl t (slOf (t.f4 + t.f5) ns 0 0))) true := by
    intro m
    induction m with
    | zero =>
      intro i hi'
      refine Ev.step ?_
      simp only [laws_FnPlan.l26]
      exact Ev.ite_neg (by omega) (Ev.ret _)
    | succ m ih =>
      intro i hi'
      have hlt : i < ns.length := by omega
      refine Ev.step ?_
      simp only [laws_FnPlan.l26, wrap_succ hlt (by omega)]
      exact Ev.ite_pos (lt_in hlt) (Ev.ite_pos ge_0 (Ev.ite_pos (lt_in hlt) (Ev.bind (hshare i hlt) (Ev.ite_pos rfl (ih (i + 1) (by omega))))))
  exact key ns.length 0 (by omega)

theorem planL_no {t : S33} : ∀ (ns : List Int) (i x : Int) (acc : List S61), (planL t ns i x acc).2 = false → (planL t ns i x acc).1 = zeroT
  | [], i, x, acc, h => by
    simp only [planL] at h ⊢
    split at h
    · rename_i c; rw [if_pos c]
    rename_i c
    rw [if_neg c]
    split at h
    · rename_i d; rw [if_pos d]
    · cases h
  | n :: r, i, x, acc, h => by
    simp only [planL] at h ⊢
    split at h
    · rename_i c; rw [if_pos c]; exact planL_no r _ _ _ h
    · rename_i c; rw [if_neg c]; exact planL_no r _ _ _ h
theorem planV_no {t : S33} {ns : List Int} (h : (planV t ns).2 = false) : (planV t ns).1 = zeroT := by
  unfold planV at h ⊢
  split at h
  case isFalse => rename_i c; rw [if_neg c]
  rename_i c
  rw [if_pos c]
  split at h
  case isFalse => rename_i c; rw [if_neg c]
  rename_i c
  rw [if_pos c]
  split at h
  · rename_i c; rw [if_pos c]
  rename_i c
  rw [if_neg c]
  exact planL_no _ _ _ _ h

theorem pure_FnPlan : ∀ (x0 : (Ty.sl (.int .u8)).den), Fits (.sl (.int .u8)) x0 → ∃ k, laws_FnPlan.c.fn k (x0, ()) () = some true := by
  intro code hf
  refine Ev.get (g := fun k => laws_FnPlan.f k code) ?_
  unfold laws_FnPlan.f laws_big.f
  simp only [Option.bind_some]
  refine Ev.ite_both (fun _ => Ev.ret _) fun hbig => ?_
  have hlen : code.length ≤ 1048576 := by
    have : ¬ (code.length : Int) > 1048576 := by simpa using hbig
    omega
  obtain ⟨⟨t, ns⟩, hd, ht, hn⟩ := drawPlan_out code hlen
  have ht : Any t := ht
  have hn : ns.length ≤ 100 := hn
  refine Ev.bind hd (Ev.bind (specPlan_ev t ht.small ht.names ns (by omega)) (Ev.bind (implPlan_ev t ht.small ht.names ns (by omega)) ?_))
  have hbb : ∀ b : Bool, (b == b) = true := fun b => by cases b <;> rfl
  refine Ev.ite_pos (hbb _) ?_
  cases hb : (planV t ns).2
  · refine Ev.ite_neg (by simp) ?_
    rw [planV_no hb]
    exact Ev.ret _
  · have he : planV t ns = ((planV t ns).1, true) := by rw [← hb]
    obtain ⟨h1, h2⟩ := planned_ev ht ns hn he
    exact Ev.ite_pos rfl (Ev.bind h1 (Ev.ite_pos rfl h2))
end Go.Proofs.Ytfmbebgpbgcpeaa.PPl
