/- Data and blocks by their shapes; blocks handed over to a callee and back. -/
import Derived.Test.YtcjfheidmlcbfaaGreatDoorSV4
set_option linter.unusedVariables false
set_option linter.unusedSimpArgs false
set_option linter.unusedSectionVars false
namespace Go.Proofs.YtcjfheidmlcbfaaGreatDoor.V
open Go.RowKit

/-! ### A slice of an element, taken out of its row and put back -/

theorem RdU.split {w : World} : ∀ (t : Ty) (x : t.den) (us : List Value) (F : Foot) (o : Nat) (u : Ty) (l : List u.den), RdU w t x us F → getF t x o = some ⟨u, l⟩ →
    ∃ v F1 F2, us[o]? = some v ∧ (∀ g p, F1 g p → F g p) ∧ (∀ g p, F2 g p → F g p) ∧ (∀ g p, F1 g p → F2 g p → False) ∧ RdU w (.sl u) l [v] F1 ∧ RdH w t x us F2 o := by
  intro t
  induction t with
  | int k => intro x us F o u l _ h; cases h
  | bool => intro x us F o u l _ h; cases h
  | str => intro x us F o u l _ h; cases h
  | sl t ih =>
    intro x us F o u l hr h
    cases o with
    | succ o => cases h
    | zero =>
      simp only [getF, Option.some.injEq] at h
      cases h
      have h1 := hr.one
      obtain ⟨v, rfl, hv⟩ := hr
      exact ⟨v, F, fun _ _ => False, rfl, fun _ _ h => h, fun _ _ h => h.elim, fun _ _ _ h => h, ⟨v, rfl, hv⟩, rfl, v, rfl, h1 v (by simp)⟩
  | pair a b iha ihb =>
    intro x us F o u l hr h
    obtain ⟨Fa, Fb, h1, h2, h3, ha, hb⟩ := hr
    simp only [getF] at h
    cases e : Nat.blt o a.width
    · rw [e] at h
      have hge : a.width ≤ o := by
        rcases Nat.lt_or_ge o a.width with q | q
        · rw [show Nat.blt o a.width = true from Nat.ble_eq_true_of_le q] at e; cases e
        · exact q
      obtain ⟨v, F1, F2, k1, k2, k3, k4, k5, k6⟩ := ihb _ _ _ _ _ _ hb h
      refine ⟨v, F1, fun g p => Fa g p ∨ F2 g p, ?_, fun g p h => h2 g p (k2 g p h), fun g p h => h.elim (h1 g p) fun h => h2 g p (k3 g p h), fun g p q q' => q'.elim (fun q' => h3 g p q' (k2 g p q)) (k4 g p q), k5, Fa, F2, fun g p h => .inl h, fun g p h => .inr h, fun g p q q' => h3 g p q (k3 g p q'), .inr ⟨hge, ha, k6⟩⟩
      rw [List.getElem?_drop] at k1
      rw [← k1]; congr 1; omega
    · rw [e] at h
      have hlt := Nat.le_of_ble_eq_true e
      obtain ⟨v, F1, F2, k1, k2, k3, k4, k5, k6⟩ := iha _ _ _ _ _ _ ha h
      refine ⟨v, F1, fun g p => F2 g p ∨ Fb g p, ?_, fun g p h => h1 g p (k2 g p h), fun g p h => h.elim (fun h => h1 g p (k3 g p h)) (h2 g p), fun g p q q' => q'.elim (k4 g p q) fun q' => h3 g p (k2 g p q) q', k5, F2, Fb, fun g p h => .inl h, fun g p h => .inr h, fun g p q q' => h3 g p (k3 g p q) q', .inl ⟨hlt, k6, hb⟩⟩
      rw [List.getElem?_take] at k1
      split at k1
      · exact k1
      · cases k1

theorem RdH.fill {w : World} : ∀ (t : Ty) (x : t.den) (us : List Value) (F F1 F2 : Foot) (o : Nat) (u : Ty) (l : List u.den) (v : Value) (x' : t.den), RdH w t x us F2 o → us[o]? = some v → RdU w (.sl u) l [v] F1 → (∀ g p, F1 g p → F g p) → (∀ g p, F2 g p → F g p) → (∀ g p, F1 g p → F2 g p → False) → setF t x o u l = some x' → RdU w t x' us F := by
  intro t
  induction t with
  | int k => intro x us F F1 F2 o u l v x' h; exact h.elim
  | bool => intro x us F F1 F2 o u l v x' h; exact h.elim
  | str => intro x us F F1 F2 o u l v x' h; exact h.elim
  | sl t ih =>
    intro x us F F1 F2 o u l v x' h hv hu s1 s2 s3 hs
    obtain ⟨rfl, v', rfl, _⟩ := h
    simp only [List.getElem?_cons_zero, Option.some.injEq] at hv
    subst hv
    simp only [setF] at hs
    split at hs
    case isFalse => cases hs
    rename_i e
    subst e
    cases hs
    exact RdU.sub (t := .sl u) hu s1
  | pair a b iha ihb =>
    intro x us F F1 F2 o u l v x' h hv hu s1 s2 s3 hs
    obtain ⟨Fa, Fb, h1, h2, h3, h⟩ := h
    simp only [setF] at hs
    rcases h with ⟨hlt, ha, hb⟩ | ⟨hge, ha, hb⟩
    · rw [show Nat.blt o a.width = true from Nat.ble_eq_true_of_le hlt] at hs
      simp only [cond_true] at hs
      split at hs
      case h_2 => cases hs
      rename_i y hy
      cases hs
      refine ⟨fun g p => F1 g p ∨ Fa g p, Fb, fun g p h => h.elim (s1 g p) fun h => s2 g p (h1 g p h), fun g p h => s2 g p (h2 g p h), fun g p q q' => q.elim (fun q => s3 g p q (h2 g p q')) fun q => h3 g p q q', iha _ _ _ F1 Fa o u l v y ha ?_ hu (fun g p h => .inl h) (fun g p h => .inr h) (fun g p q q' => s3 g p q (h1 g p q')) hy, hb⟩
      rw [List.getElem?_take_of_lt hlt]; exact hv
    · have e : Nat.blt o a.width = false := by
        cases e : Nat.blt o a.width
        · rfl
        · have := Nat.le_of_ble_eq_true e; omega
      rw [e] at hs
      simp only [cond_false] at hs
      split at hs
      case h_2 => cases hs
      rename_i y hy
      cases hs
      refine ⟨Fa, fun g p => F1 g p ∨ Fb g p, fun g p h => s2 g p (h1 g p h), fun g p h => h.elim (s1 g p) fun h => s2 g p (h2 g p h), fun g p q q' => q'.elim (fun q' => s3 g p q' (h1 g p q)) fun q' => h3 g p q q', ha, ihb _ _ _ F1 Fb (o - a.width) u l v y hb ?_ hu (fun g p h => .inl h) (fun g p h => .inr h) (fun g p q q' => s3 g p q (h2 g p q')) hy⟩
      rw [List.getElem?_drop, show a.width + (o - a.width) = o by omega]; exact hv

section
variable {P : Program} {R : Type} {C : Cx} {r : R}

theorem HeapR.detach (hH : HeapR C) {b i o ver : Nat} {t : Ty} {l : List t.den} {v : Value} (hb : C.H[b]? = some (.arr t l .un ver none)) (hc : CellR C (.nst b i o ver) v) {u : Ty} {l' : List u.den} (hg : getF t (l.getD i t.zero) o = some ⟨u, l'⟩) :
    ∃ C', C'.H = C.H.set b (.arr t l .un ver (some (i, o))) ++ [.arr u l' .un 0 none] ∧ C'.w = C.w ∧ C'.S = C.S ∧ C.le C' ∧ HeapR C' ∧ Frm C C' ∧ C'.ρ C.H.length = v ∧ CellR C' (.own C.H.length) v ∧ CellR C' (.nst b i o ver) v := by
  have hlive := live_arr hb
  have hlt := live_lt hlive
  obtain ⟨_, hsh, hvn, hrow⟩ := hH.blk b _ hb
  have hvb := hvn rfl
  have hc0 := hc
  obtain ⟨h1v, _, h3⟩ := hc
  obtain ⟨_, h5⟩ := h3 ver hvb
  obtain ⟨t', g, off, n, cap, q1, q2, q3, q4, q5⟩ := h5 rfl
  rw [hsh] at q1
  cases q1
  rcases hrow with ⟨_, A, hA⟩ | ⟨g0, off0, cap0, hroom, G, hn, hgx⟩
  · rw [q3] at hA; cases hA; omega
  have hval := hroom.val
  rw [q3] at hval
  obtain ⟨⟨rfl, rfl⟩, rfl, rfl⟩ : (g = g0 ∧ off = off0) ∧ n = l.length ∧ cap = cap0 := by simpa using hval
  have hget : l[i]? = some (l.getD i t.zero) := by rw [List.getD_eq_getElem?_getD, List.getElem?_eq_getElem q4]; rfl
  obtain ⟨us, hat, hrd⟩ := hgx i _ hget
  obtain ⟨v', F1, F2, k1, k2, k3, k4, k5, k6⟩ := RdU.split _ _ _ _ _ _ _ hrd hg
  have := hat o v' k1
  rw [q5] at this
  cases this
  let C' : Cx := { C with H := C.H.set b (.arr t l .un ver (some (i, o))) ++ [.arr u l' .un 0 none], ρ := fun j => if j = C.H.length then v else C.ρ j, fp := fun j => if j = C.H.length then F1 else if j = b then (fun g p => C.fp b g p ∧ ¬ F1 g p) else C.fp j, sh := fun j => if j = C.H.length then some u else C.sh j, vn := fun j => if j = C.H.length then some 0 else C.vn j }
  have hbl : b ≠ C.H.length := by omega
  have hx' : ∀ j x, C'.H[j]? = some x → (j = b ∧ x = .arr t l .un ver (some (i, o))) ∨ (j = C.H.length ∧ x = .arr u l' .un 0 none) ∨ (j ≠ b ∧ j < C.H.length ∧ C.H[j]? = some x) := by
    intro j x hx
    simp only [C'] at hx
    rw [List.getElem?_append] at hx
    split at hx
    · rename_i h
      rw [List.length_set] at h
      by_cases e : b = j
      · subst e
        rw [List.getElem?_set_self hlt] at hx
        cases hx
        exact .inl ⟨rfl, rfl⟩
      · rw [List.getElem?_set_ne e] at hx
        exact .inr (.inr ⟨fun e' => e e'.symm, h, hx⟩)
    · rename_i h
      rw [List.length_set] at h hx
      have hj : j - C.H.length = 0 := by
        have := (List.getElem?_eq_some_iff.1 hx).1
        simp at this
        omega
      rw [hj] at hx
      simp at hx
      exact .inr (.inl ⟨by omega, hx.symm⟩)
  have hF1 : ∀ g p, F1 g p → C.fp b g p := fun g p h => hn.sub i g p (k2 g p h)
  have hold : ∀ j, j < C.H.length → j ≠ b → C'.H[j]? = C.H[j]? := by
    intro j hj hne
    simp only [C']
    rw [List.getElem?_append_left (by rw [List.length_set]; exact hj), List.getElem?_set_ne fun e => hne e.symm]
  have hne1 : C'.H[C.H.length]? = some (.arr u l' .un 0 none) := by
    simp only [C']
    rw [List.getElem?_append_right (by simp)]
    simp
  have hne2 : C'.H[b]? = some (.arr t l .un ver (some (i, o))) := by
    simp only [C']
    rw [List.getElem?_append_left (by rw [List.length_set]; exact hlt), List.getElem?_set_self hlt]
  obtain ⟨r1, r2, r3⟩ := hH.next (C' := C') (F := fun _ _ => False) (fun j => live C j ∧ j ≠ b) rfl rfl (.refl _ _) (fun _ _ h => h.elim) (fun _ _ h => h) (fun _ _ h => .inl h) hH.st (by simp [C']) (fun j hj => by simp [C', Nat.ne_of_lt hj]) (fun j hj hk => by
      have hj' : j ≠ C.H.length := by omega
      have : C'.vn j = C.vn j := by simp [C', hj']
      rw [this]
      exact vn_refl C j) (fun j v' hk hv' => by
      by_cases e : j = C.H.length
      · subst e
        simp only [C', if_true, Option.some.injEq] at hv'
        subst hv'
        exact ⟨u, l', none, hne1⟩
      · have : C'.vn j = C.vn j := by simp [C', e]
        rw [this] at hv'
        obtain ⟨t1, l1, h1, e1⟩ := hH.vl j v' hv'
        by_cases e2 : j = b
        · subst e2
          rw [hb] at e1
          cases e1
          exact ⟨t, l, some (i, o), hne2⟩
        · exact absurd ⟨live_arr e1, e2⟩ hk) (fun j hj => by
      have hjl := live_lt hj.1
      have e : j ≠ C.H.length := by omega
      exact ⟨hj.1, hold j hjl hj.2, by simp [C', e], fun g p => by simp [C', e, hj.2]⟩) (fun hle j x hx hd hk => by
      rcases hx' j x hx with ⟨rfl, rfl⟩ | ⟨rfl, rfl⟩ | ⟨h1, h2, h3⟩
      · refine ⟨rfl, by simpa [C', hbl] using hsh, fun _ => by simpa [C', hbl] using hvb, rfl, g, off, cap, fun j' => if j' = i then F2 else G j', ?_, ⟨fun j' g' p hG => ?_, fun j' p hG z1 z2 => ?_, fun j1 j2 g' p hG hG' => ?_⟩, fun j' xj hxj => ?_⟩
        · refine ⟨by simpa [C', hbl] using hroom.val, hroom.cur, hroom.len, hroom.most, fun p z1 z2 => ?_⟩
          simp only [C', hbl, if_false, if_true]
          exact ⟨hroom.foot p z1 z2, fun hf => hn.out i p (k2 _ p hf) z1 z2⟩
        · simp only [C', hbl, if_false, if_true]
          split at hG
          · rename_i e
            subst e
            exact ⟨hn.sub _ g' p (k3 g' p hG), fun hf => k4 g' p hf hG⟩
          · rename_i e
            exact ⟨hn.sub _ g' p hG, fun hf => e (hn.inj _ _ g' p hG (k2 g' p hf))⟩
        · split at hG
          · exact hn.out i p (k3 g p hG) z1 z2
          · exact hn.out j' p hG z1 z2
        · split at hG <;> split at hG'
          · omega
          · rename_i e1 e2; exact (e1.trans (hn.inj _ _ g' p (k3 g' p hG) hG'))
          · rename_i e1 e2; exact ((hn.inj _ _ g' p hG (k3 g' p hG')).trans e2.symm)
          · exact hn.inj _ _ g' p hG hG'
        · obtain ⟨us', z1, z2⟩ := hgx j' xj hxj
          refine ⟨us', z1, fun e => by simp only [e, if_false]; exact z2, fun e => ?_⟩
          subst e
          simp only [if_true]
          rw [hget] at hxj
          cases hxj
          have hul := RdU.length _ _ _ _ z2
          have hul2 := RdU.length _ _ _ _ hrd
          have : us' = us := by
            apply List.ext_getElem?
            intro m
            by_cases hm : m < t.width
            · have a1 := z1 m _ (List.getElem?_eq_getElem (by omega : m < us'.length))
              have a2 := hat m _ (List.getElem?_eq_getElem (by omega : m < us.length))
              rw [List.getElem?_eq_getElem (by omega : m < us'.length), List.getElem?_eq_getElem (by omega : m < us.length), ← a1, ← a2]
            · rw [List.getElem?_eq_none (by omega), List.getElem?_eq_none (by omega)]
          rw [this]
          exact k6
      · refine ⟨rfl, by simp [C'], fun _ => by simp [C'], ?_⟩
        obtain ⟨v1, e1, h1⟩ := k5
        cases e1
        show RowR C' C.H.length u l' .un
        unfold RowR
        have hρ : C'.ρ C.H.length = v := by simp [C']
        have hfp : C'.fp C.H.length = F1 := by simp [C']
        rw [hρ, hfp]
        rcases h1 with h1 | ⟨g', off', cap', G', a1, a2, a3⟩
        · exact .inl h1
        · exact .inr ⟨g', off', cap', a1, G', by rw [hfp]; exact a2, a3⟩
      · exact absurd ⟨⟨x, h3, hd⟩, h1⟩ hk) (fun j g' p hl hk hf => by
      obtain ⟨x, hx, hd⟩ := hl
      have key : C.fp b g' p → ¬ C.S g' p ∧ g' < C.w.heap.size ∧ ((∃ b0, live C b0 ∧ ¬ (live C b0 ∧ b0 ≠ b) ∧ C.fp b0 g' p) ∨ C.w.heap.size ≤ g') := fun h => by
        obtain ⟨a1, a2, a3⟩ := hH.own b g' p hlive h
        exact ⟨a1, a3, .inl ⟨b, hlive, fun h => h.2 rfl, h⟩⟩
      rcases hx' j x hx with ⟨rfl, rfl⟩ | ⟨rfl, rfl⟩ | ⟨h1, h2, h3⟩
      · simp only [C', hbl, if_false, if_true] at hf
        exact key hf.1
      · simp only [C', if_true] at hf
        exact key (hF1 g' p hf)
      · exact absurd ⟨⟨x, h3, hd⟩, h1⟩ hk) (fun j1 j2 g' p hl hl' hk hk' hf hf' => by
      obtain ⟨x, hx, hd⟩ := hl
      obtain ⟨y, hy, hd'⟩ := hl'
      rcases hx' j1 x hx with ⟨rfl, rfl⟩ | ⟨rfl, rfl⟩ | ⟨h1, h2, h3⟩
      · rcases hx' j2 y hy with ⟨rfl, rfl⟩ | ⟨rfl, rfl⟩ | ⟨h1', h2', h3'⟩
        · rfl
        · simp only [C', hbl, if_false, if_true] at hf hf'
          exact absurd hf' hf.2
        · exact absurd ⟨⟨y, h3', hd'⟩, h1'⟩ hk'
      · rcases hx' j2 y hy with ⟨rfl, rfl⟩ | ⟨rfl, rfl⟩ | ⟨h1', h2', h3'⟩
        · simp only [C', hbl, if_false, if_true] at hf hf'
          exact absurd hf hf'.2
        · rfl
        · exact absurd ⟨⟨y, h3', hd'⟩, h1'⟩ hk'
      · exact absurd ⟨⟨x, h3, hd⟩, h1⟩ hk)
  have hρ : C'.ρ C.H.length = v := by simp [C']
  exact ⟨C', rfl, rfl, rfl, r1, r2, r3, hρ, ⟨h1v, by simp [C'], hρ.symm⟩, CellR.mono r1 hc0⟩

theorem HeapR.attach (hH : HeapR C) {b k i o ver vk : Nat} {t u : Ty} {l : List t.den} {l' : List u.den} (hb : C.H[b]? = some (.arr t l .un ver (some (i, o)))) (hk : C.H[k]? = some (.arr u l' .un vk none)) (hc : CellR C (.nst b i o ver) (C.ρ k)) {x' : t.den} (hs : setF t (l.getD i t.zero) o u l' = some x') :
    ∃ C', C'.H = (C.H.set b (.arr t (l.set i x') .un ver none)).set k .dead ∧ C'.w = C.w ∧ C.le C' ∧ HeapR C' ∧ Frm C C' := by
  have hlive := live_arr hb
  have hlt := live_lt hlive
  have hlivek := live_arr hk
  have hltk := live_lt hlivek
  have hne : k ≠ b := by intro e; subst e; rw [hb] at hk; cases hk
  obtain ⟨_, hsh, hvn, hrow⟩ := hH.blk b _ hb
  obtain ⟨_, hshk, hvnk, hrowk⟩ := hH.blk k _ hk
  have hvb := hvn rfl
  obtain ⟨h1v, _, h3⟩ := hc
  obtain ⟨_, h5⟩ := h3 ver hvb
  obtain ⟨t', g, off, n, cap, q1, q2, q3, q4, q5⟩ := h5 rfl
  rw [hsh] at q1
  cases q1
  obtain ⟨_, g0, off0, cap0, G, hroom, hn, hgx⟩ := hrow
  have hval := hroom.val
  rw [q3] at hval
  obtain ⟨⟨rfl, rfl⟩, rfl, rfl⟩ : (g = g0 ∧ off = off0) ∧ n = l.length ∧ cap = cap0 := by simpa using hval
  have hget : l[i]? = some (l.getD i t.zero) := by rw [List.getD_eq_getElem?_getD, List.getElem?_eq_getElem q4]; rfl
  obtain ⟨us, hat, _, hrh⟩ := hgx i _ hget
  have hrh := hrh rfl
  have hul := hrh.length
  have ho : us[o]? = some (C.ρ k) := by
    have hlt' := slAt_lt _ _ q2
    have := hat o _ (List.getElem?_eq_getElem (by omega : o < us.length))
    rw [q5] at this
    rw [List.getElem?_eq_getElem (by omega : o < us.length)]
    exact this.symm
  have hU : RdU C.w (.sl u) l' [C.ρ k] (C.fp k) := ⟨_, rfl, by
    rcases hrowk with h | ⟨g1, off1, cap1, hr, G1, hn1, hx1⟩
    · exact .inl h
    · exact .inr ⟨g1, off1, cap1, G1, hr, hn1, hx1⟩⟩
  have hdis : ∀ g p, C.fp k g p → C.fp b g p → False := fun g p h h' => hne (hH.inj k b g p hlivek hlive h h')
  have hnew := RdH.fill _ _ _ (fun g p => C.fp k g p ∨ G i g p) (C.fp k) (G i) o u l' _ x' hrh ho hU (fun _ _ h => .inl h) (fun _ _ h => .inr h) (fun g p h h' => hdis g p h (hn.sub i g p h')) hs
  let C' : Cx := { C with H := (C.H.set b (.arr t (l.set i x') .un ver none)).set k .dead, fp := fun j => if j = b then (fun g p => C.fp b g p ∨ C.fp k g p) else C.fp j, vn := fun j => if j = k then none else C.vn j }
  have hx' : ∀ j x, C'.H[j]? = some x → x ≠ .dead → (j = b ∧ x = .arr t (l.set i x') .un ver none) ∨ (j ≠ b ∧ j ≠ k ∧ C.H[j]? = some x) := by
    intro j x hx hd
    simp only [C'] at hx
    by_cases e : k = j
    · subst e
      rw [List.getElem?_set_self (by simpa using hltk)] at hx
      cases hx
      exact absurd rfl hd
    · rw [List.getElem?_set_ne e] at hx
      by_cases e2 : b = j
      · subst e2
        rw [List.getElem?_set_self hlt] at hx
        cases hx
        exact .inl ⟨rfl, rfl⟩
      · rw [List.getElem?_set_ne e2] at hx
        exact .inr ⟨fun e' => e2 e'.symm, fun e' => e e'.symm, hx⟩
  have hb' : C'.H[b]? = some (.arr t (l.set i x') .un ver none) := by
    simp only [C']
    rw [List.getElem?_set_ne hne, List.getElem?_set_self hlt]
  have := hH.step (C' := C') (F := fun _ _ => False) b (fun j => j = k) rfl rfl (.refl _ _) (fun _ _ h => h.elim) (fun _ _ h => h) (fun _ _ h => .inl h) hH.st (by simp [C']) (fun _ _ => ⟨rfl, rfl⟩) (fun j hj hn' => by
      by_cases e : j = k
      · simp [C', e]
      · simp only [C', e, if_false]
        refine hH.vnone fun ⟨x, hx, hd⟩ => hn' ⟨x, ?_, hd⟩
        simp only [C']
        rw [List.getElem?_set_ne (fun e' : k = j => e e'.symm), List.getElem?_set_ne (fun e' : b = j => hj e'.symm)]
        exact hx) (fun _ => by
      have e : b ≠ k := fun e => hne e.symm
      have : C'.vn b = C.vn b := by simp [C', e]
      rw [this]
      exact vn_refl C b) (fun v hv => by
      have e : b ≠ k := fun e => hne e.symm
      have : C'.vn b = C.vn b := by simp [C', e]
      rw [this, hvb] at hv
      cases hv
      exact ⟨t, l.set i x', none, hb'⟩) (fun j x hx hd => by
      rcases hx' j x hx hd with ⟨h, _⟩ | ⟨h1, h2, h3⟩
      · exact .inl h
      · exact .inr ⟨h3, h2, h1, by simp [C', h2], fun g p => by simp [C', h1]⟩) (fun g' p _ hf => by
      simp only [C', if_true] at hf
      rcases hf with hf | hf
      · obtain ⟨a1, a2, a3⟩ := hH.own b g' p hlive hf
        exact ⟨a1, a3, .inl ⟨b, .inr rfl, hlive, hf⟩⟩
      · obtain ⟨a1, a2, a3⟩ := hH.own k g' p hlivek hf
        exact ⟨a1, a3, .inl ⟨k, .inl rfl, hlivek, hf⟩⟩) (fun hle x hx hd => by
      rw [hb'] at hx
      cases hx
      refine ⟨rfl, hsh, fun _ => by show (if b = k then none else C.vn b) = some ver; rw [if_neg fun e : b = k => hne e.symm]; exact hvb, .inr ⟨g, off, cap, ⟨by rw [List.length_set]; exact hroom.val, hroom.cur, by rw [List.length_set]; exact hroom.len, hroom.most, fun p z1 z2 => by simp only [C', if_true]; exact .inl (hroom.foot p z1 z2)⟩, fun j => if j = i then (fun g p => C.fp k g p ∨ G i g p) else G j, ⟨fun j g' p hG => ?_, fun j p hG z1 z2 => ?_, fun j1 j2 g' p hG hG' => ?_⟩, fun j x hx => ?_⟩⟩
      · simp only [C', if_true]
        split at hG
        · exact hG.elim .inr fun h => .inl (hn.sub i g' p h)
        · exact .inl (hn.sub j g' p hG)
      · split at hG
        · exact hG.elim (fun h => hdis _ p h (hroom.foot p z1 z2)) fun h => hn.out i p h z1 z2
        · exact hn.out j p hG z1 z2
      · have key : ∀ j, (if j = i then (fun g p => C.fp k g p ∨ G i g p) else G j) g' p → G j g' p ∨ (j = i ∧ C.fp k g' p) := by
          intro j h
          split at h
          · rename_i e
            subst e
            exact h.elim (fun h => .inr ⟨rfl, h⟩) .inl
          · exact .inl h
        rcases key j1 hG with h | ⟨h, h'⟩ <;> rcases key j2 hG' with z | ⟨z, z'⟩
        · exact hn.inj j1 j2 g' p h z
        · exact (hdis g' p z' (hn.sub j1 g' p h)).elim
        · exact (hdis g' p h' (hn.sub j2 g' p z)).elim
        · rw [h, z]
      · by_cases e : j = i
        · subst e
          rw [List.getElem?_set_self q4] at hx
          cases hx
          exact ⟨us, hat, by simp only [if_true]; exact hnew⟩
        · rw [List.getElem?_set_ne fun e' => e e'.symm] at hx
          obtain ⟨us', z1, z2, _⟩ := hgx j x hx
          exact ⟨us', z1, by simp only [e, if_false]; exact z2 e⟩)
  exact ⟨C', rfl, rfl, this.1, this.2.1, this.2.2⟩
end
end Go.Proofs.YtcjfheidmlcbfaaGreatDoor.V
