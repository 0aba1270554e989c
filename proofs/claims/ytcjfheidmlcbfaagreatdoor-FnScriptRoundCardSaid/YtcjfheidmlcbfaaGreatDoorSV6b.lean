/- Rows held weaker; cuts of rows. -/
import Derived.Test.YtcjfheidmlcbfaaGreatDoorSV6
set_option linter.unusedVariables false
set_option linter.unusedSimpArgs false
set_option linter.unusedSectionVars false
namespace Go.Proofs.YtcjfheidmlcbfaaGreatDoor.V
open Go.RowKit

section
variable {P : Program} {R : Type} {C : Cx} {r : R}

theorem HeapR.dem1 (hH : HeapR C) {b : Nat} {t : Ty} {l : List t.den} {m m' : Md} {v : Nat} (hb : C.H[b]? = some (.arr t l m v none)) (hw : (m = .un ∧ m' ≠ .un) ∨ (m = .fr ∧ m' = .sh)) :
    ∃ C', C'.H = C.H.set b (.arr t l m' v none) ∧ C.le C' ∧ HeapR C' ∧ Frm C C' ∧ C'.w = C.w ∧ C'.ρ = C.ρ ∧ C'.sh = C.sh := by
  have hlive := live_arr hb
  have hlt := live_lt hlive
  obtain ⟨h0, hsh, hvn, hrow⟩ := hH.blk b _ hb
  obtain ⟨xs, ho, hrel⟩ := row_xs hH hb
  have hrm := ho.rm
  have hm' : m' ≠ .un := by
    rcases hw with ⟨_, h⟩ | ⟨_, h⟩
    · exact h
    · rw [h]; simp
  let C' : Cx := { C with S := fun g p => C.S g p ∨ (C.fp b g p ∧ ¬ rmOf (C.ρ b) t.width g p), H := C.H.set b (.arr t l m' v none), fp := fun j => if j = b then rmOf (C.ρ b) t.width else C.fp j, vn := fun j => if j = b then none else C.vn j }
  have hx' : ∀ j x, C'.H[j]? = some x → j = b ∧ x = .arr t l m' v none ∨ j ≠ b ∧ C.H[j]? = some x := by
    intro j x hx
    by_cases e : b = j
    · subst e
      simp only [C', List.getElem?_set_self hlt, Option.some.injEq] at hx
      exact .inl ⟨rfl, hx.symm⟩
    · simp only [C', List.getElem?_set_ne e] at hx
      exact .inr ⟨fun e' => e e'.symm, hx⟩
  have := hH.step (C' := C') (F := fun _ _ => False) b (fun _ => False) rfl rfl (.refl _ _) (fun _ _ h => h.elim) (fun _ _ h => .inl h) (fun g p h => by
      rcases h with h | h
      · exact .inl h
      · exact .inr (.inl ⟨b, .inr rfl, hlive, h.1⟩)) (fun g p h => by
      rcases h with h | h
      · exact hH.st g p h
      · exact (hH.own b g p hlive h.1).2.2) (by simp [C']) (fun _ _ => ⟨rfl, rfl⟩) (fun j hj hn => by
      simp only [C', hj, if_false]
      refine hH.vnone fun ⟨x, hx, hd⟩ => hn ⟨x, ?_, hd⟩
      simp only [C', List.getElem?_set_ne (fun e : b = j => hj e.symm)]
      exact hx) (fun _ => .inl (by simp [C'])) (fun v hv => by simp [C'] at hv) (fun j x hx hd => by
      rcases hx' j x hx with ⟨h, _⟩ | ⟨h1, h2⟩
      · exact .inl h
      · exact .inr ⟨h2, fun h => h, h1, by simp only [C', h1, if_false], fun g p => by simp only [C', h1, if_false]⟩) (fun g p _ hf => by
      simp only [C', if_true] at hf
      obtain ⟨k1, k2, k3⟩ := hH.own b g p hlive (hrm g p hf)
      exact ⟨fun hs => hs.elim k1 fun hs => hs.2 hf, k3, .inl ⟨b, .inr rfl, hlive, hrm g p hf⟩⟩) (fun hle x hx hd => by
      rcases hx' b x hx with ⟨_, rfl⟩ | ⟨h1, _⟩
      case inr => exact absurd rfl h1
      refine ⟨h0, hsh, fun e => absurd e hm', ?_⟩
      rcases hrow with hrow | ⟨g, off, cap, hr, hels⟩
      · exact .inl hrow
      · refine .inr ⟨g, off, cap, ⟨hr.val, hr.cur, hr.len, hr.most, fun p q1 q2 => ?_⟩, ?_⟩
        · simp only [C', if_true]
          rw [hr.val]
          exact ⟨rfl, q1, q2⟩
        · have old : ∀ i x, l[i]? = some x → ∃ us, AtW C'.w g (off + i * t.width) us ∧ Rd C'.w (C'.Sf (!m.isSh)) t x us := by
            intro i x hx
            cases m with
            | un =>
              obtain ⟨G, hn, hgx⟩ := hels
              obtain ⟨us, h1, h2⟩ := hgx i x hx
              refine ⟨us, h1, RdU.rd _ _ _ _ (fun g' p hG => ⟨.inr ⟨hn.sub i g' p hG, fun hr' => ?_⟩, fun _ => (hH.own b g' p hlive (hn.sub i g' p hG)).2.1⟩) h2⟩
              rw [hr.val] at hr'
              obtain ⟨rfl, q1, q2⟩ := hr'
              exact hn.out i p hG q1 q2
            | fr => obtain ⟨us, h1, h2⟩ := hels i x hx; exact ⟨us, h1, Rd.mono (hle.Sf _) (fun _ _ _ _ h => h) _ _ _ h2⟩
            | sh => obtain ⟨us, h1, h2⟩ := hels i x hx; exact ⟨us, h1, Rd.mono (hle.Sf _) (fun _ _ _ _ h => h) _ _ _ h2⟩
          cases m' with
          | un => exact absurd rfl hm'
          | fr =>
            intro i x hx
            obtain ⟨us, h1, h2⟩ := old i x hx
            have : m.isSh = false := by
              rcases hw with ⟨e, _⟩ | ⟨_, e⟩
              · rw [e]; rfl
              · cases e
            rw [this] at h2
            exact ⟨us, h1, h2⟩
          | sh =>
            intro i x hx
            obtain ⟨us, h1, h2⟩ := old i x hx
            exact ⟨us, h1, Rd.mono (fun g p hs => ⟨hs.1, fun e => by cases e⟩) (fun _ _ _ _ h => h) _ _ _ h2⟩)
  exact ⟨C', rfl, this.1, this.2.1, this.2.2, rfl, rfl, rfl⟩

theorem getF_enc (f : Bool) : ∀ (t : Ty) (x : t.den) (o : Nat) (u : Ty) (l : List u.den), getF t x o = some ⟨u, l⟩ → (enc f t x)[o]? = some (.sl f u l) := by
  intro t
  induction t with
  | int k => intro x o u l h; cases h
  | bool => intro x o u l h; cases h
  | str => intro x o u l h; cases h
  | sl t ih =>
    intro x o u l h
    cases o with
    | succ o => cases h
    | zero => simp only [getF, Option.some.injEq] at h; cases h; rfl
  | pair a b iha ihb =>
    intro x o u l h
    simp only [getF] at h
    simp only [enc]
    have hl := enc_length (f := f) a x.1
    cases e : Nat.blt o a.width
    · rw [e] at h
      have hge : a.width ≤ o := by
        rcases Nat.lt_or_ge o a.width with q | q
        · rw [show Nat.blt o a.width = true from Nat.ble_eq_true_of_le q] at e; cases e
        · exact q
      rw [List.getElem?_append_right (by omega), hl]
      exact ihb _ _ _ _ h
    · rw [e] at h
      have hlt := Nat.le_of_ble_eq_true e
      rw [List.getElem?_append_left (by omega)]
      exact iha _ _ _ _ h
/-- A slice of an element becomes data, its row being read only from then on. -/
theorem HeapR.nstData (hH : HeapR C) {b i o ver : Nat} {t : Ty} {l : List t.den} {v : Value} (hb : C.H[b]? = some (.arr t l .un ver none)) (hc : CellR C (.nst b i o ver) v) {u : Ty} {l' : List u.den} (hg : getF t (l.getD i t.zero) o = some ⟨u, l'⟩) :
    ∃ C', C'.H = C.H.set b (.arr t l .fr ver none) ∧ C'.w = C.w ∧ C.le C' ∧ HeapR C' ∧ Frm C C' ∧ CellR C' (.sl true u l') v := by
  obtain ⟨_, hsh, hvn, _⟩ := hH.blk b _ hb
  obtain ⟨_, _, h3⟩ := hc
  obtain ⟨_, h5⟩ := h3 ver (hvn rfl)
  obtain ⟨t', g, off, n, cap, q1, q2, q3, q4, q5⟩ := h5 rfl
  rw [hsh] at q1
  cases q1
  obtain ⟨C', d1, d2, d3, d4, d5, d6, d7⟩ := hH.dem1 (m' := .fr) hb (.inl ⟨rfl, by intro e; cases e⟩)
  refine ⟨C', d1, d5, d2, d3, d4, ?_⟩
  have hlt := (List.getElem?_eq_some_iff.1 hb).1
  have hb' : C'.H[b]? = some (.arr t l .fr ver none) := by rw [d1, List.getElem?_set_self hlt]
  obtain ⟨_, _, _, hrow⟩ := d3.blk b _ hb'
  rcases hrow with ⟨e, A, hA⟩ | ⟨g0, off0, cap0, hroom, hels⟩
  · rw [d6, q3] at hA
    cases hA
    omega
  have hval := hroom.val
  rw [d6, q3] at hval
  obtain ⟨⟨rfl, rfl⟩, rfl, rfl⟩ : (g = g0 ∧ off = off0) ∧ n = l.length ∧ cap = cap0 := by simpa using hval
  obtain ⟨us, hat, hrd⟩ := hels i (l.getD i t.zero) (by rw [List.getD_eq_getElem?_getD, List.getElem?_eq_getElem q4]; rfl)
  obtain ⟨v', k1, k2⟩ := (enc_r (C := C') (f := true) t _ _ hrd).get (getF_enc true t _ _ _ _ hg)
  have := hat o v' k1
  rw [d5, q5] at this
  cases this
  exact k2

theorem sliceO_b {T : Nat → Option TI} (hT : TOK P T) {s : St} {nt : Nat} {a : Act} (hH : HeapR C) (hh : C.H = s.heap) (ht : TR C nt s.tmps a) {t : Nat} {x : Operand} {lo hi : Option Operand} {dst : Option Tmp} {type : TypeId} {pos : String} {after : Array Edge} {guard : Option (Nat × Bool)} {k : AV → List Blk → Option R}
    (h : sliceO T s t (s.ev x) (lo.map s.ev) (hi.map s.ev) k = some r) : GoodB P C r k a ⟨dst, .slice t x lo hi none, type, pos, after, guard⟩ := by
  have same : ∀ (h : opP T s (.slice t x lo hi none) (fun v => k v s.heap) = some r), GoodB P C r k a ⟨dst, .slice t x lo hi none, type, pos, after, guard⟩ := fun h => by
    rw [← hh] at h
    obtain ⟨v, av, h1, h2, h3⟩ := opP_r (o := ⟨dst, .slice t x lo hi none, type, pos, after, guard⟩) hT hH hh ht h
    exact .val (C' := C) h1 (.refl C) hH (.refl C) (.refl _ _) h2 (h3 C.w fun _ _ => rfl)
  unfold sliceO at h
  split at h
  · rename_i b hx
    split at h
    case h_2 => cases h
    rename_i y l m ver hb
    rw [← hh] at hb h
    have hc := ev_r ht x
    rw [hx] at hc
    obtain ⟨_, _, hv⟩ := (hc : CellR C (.own b) _)
    obtain ⟨k1, k2, k3, k4⟩ := hH.freeze hb rfl
    rw [← hv] at k4
    obtain ⟨v, av, h1, h2, h3⟩ := sliceK_r (P := P) (p := .c (.sl (!m.isSh) y l)) (v := a.eval x) (vlo := lo.map a.eval) (vhi := hi.map a.eval) hT k4 (by cases lo with | none => trivial | some z => exact (ev_r ht z).mono k1) (by cases hi with | none => trivial | some z => exact (ev_r ht z).mono k1) h
    exact .val h1 k1 k2 k3 (.refl _ _) h2 (by have := h3 C.w fun _ _ => rfl; simp [execOp, this])
  · rename_i b i o ver hx
    split at h
    · rename_i hn
      refine same ?_
      simp only [opP, hx, hn]
      exact h
    · rename_i hi' hn
      split at h
      case h_2 => cases h
      rename_i y l ver' hb
      cases hv : Nat.beq ver' ver
      · rw [hv] at h; cases h
      have := Nat.eq_of_beq_eq_true hv
      subst this
      rw [hv] at h
      simp only [cond_true] at h
      split at h
      case h_2 => cases h
      rename_i u l' hg
      rw [← hh] at hb h
      have hc := ev_r ht x
      rw [hx] at hc
      obtain ⟨C', d1, d5, d2, d3, d4, k2⟩ := hH.nstData hb hc hg
      rw [← d1, ← hn] at h
      obtain ⟨v, av, h1, h2, h3⟩ := sliceK_r (P := P) (p := .c (.sl true u l')) (v := a.eval x) (vlo := lo.map a.eval) (vhi := hi.map a.eval) hT k2 (by cases lo with | none => trivial | some z => exact (ev_r ht z).mono d2) (by cases hi with | none => trivial | some z => exact (ev_r ht z).mono d2) h
      exact .val (C' := C') h1 d2 d3 d4 (by rw [d5]; exact .refl _ _) h2 (by have := h3 C.w (by rw [d5]; exact fun _ _ => rfl); rw [d5]; simp [execOp, this])
  · exact same h
end
end Go.Proofs.YtcjfheidmlcbfaaGreatDoor.V
