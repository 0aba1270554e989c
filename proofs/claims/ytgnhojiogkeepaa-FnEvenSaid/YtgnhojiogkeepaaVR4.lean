/- slices.Replace at []impl.Slot: the contract in the interpreter's terms. -/
import Derived.Test.YtgnhojiogkeepaaVR3
set_option linter.unusedVariables false
set_option linter.unusedSimpArgs false
set_option linter.unusedSectionVars false
namespace Go.Proofs.Ytgnhojiogkeepaa.V
open Go Go.Proofs Go.RowKit

abbrev TSlot : Ty := .pair (.int .i64) (.pair (.int .i64) (.int .i64))

/-- What slices.Replace comes to. -/
def repl (l : List TSlot.den) (i j : Int) (v : List TSlot.den) : Option (List TSlot.den) :=
  if 0 ≤ i ∧ i < j ∧ j ≤ (l.length : Int) ∧ 0 < v.length ∧ i + (v.length : Int) ≠ j ∧ (i.toNat + (v.length + (l.length - j.toNat))) * 24 ≤ 140737488355328 then some (l.take i.toNat ++ (v ++ l.drop j.toNat)) else none

def replC : FnD := { f := 64, sh := false, ps := [.vc (.c (.own 0)), .c (.int .i64), .c (.int .i64), .c (.sl TSlot)], pb := [.arr TSlot .un], vc := .c (.own 1), bs := [.dead, .arr TSlot .un], R := List TSlot.den, fn := fun _ x y => repl y.1 x.2.1 x.2.2.1 x.2.2.2.1, out := fun y => ((), ((), (y, ()))), inn := fun d => d.2.2.1, inv := fun _ => rfl }

/-- Cells of a slice's elements, one behind the other, each of S. -/
theorem lay_at {w : World} {S : Foot} {y : Ty} {g : Nat} (l : List y.den) (off : Nat) (hall : ∀ i x, l[i]? = some x → ∃ us, At w S g (off + i * y.width) us ∧ Rd w S y x us) :
    ∃ news : List Value, news.length = l.length * y.width ∧ (∀ k u, news[k]? = some u → w.cell? (at_ g (off + k)) = some u ∧ S g (off + k)) ∧ ∀ i x, l[i]? = some x → Rd w S y x (win news y.width i) := by
  obtain ⟨news, h1, h2, h3⟩ := lay_rows l off hall
  refine ⟨news, h1, fun k u hk => ⟨h2 k u hk, ?_⟩, h3⟩
  have hlt := (List.getElem?_eq_some_iff.1 hk).1
  have hw := y.width_pos
  have hi : k / y.width < l.length := by rw [h1] at hlt; exact Nat.div_lt_of_lt_mul (by rw [Nat.mul_comm]; exact hlt)
  obtain ⟨us, a1, a2⟩ := hall (k / y.width) _ (List.getElem?_eq_getElem hi)
  have hul := a2.length
  have hm : k % y.width < us.length := by rw [hul]; exact Nat.mod_lt _ hw
  have := (a1 (k % y.width) _ (List.getElem?_eq_getElem hm)).1
  rw [Nat.add_assoc, Nat.mul_comm, Nat.div_add_mod] at this
  exact this

theorem win_take {xs : List Value} {wd n k : Nat} (h : k < n) : win (xs.take (n * wd)) wd k = win xs wd k := by
  have h1 : (k + 1) * wd ≤ n * wd := Nat.mul_le_mul_right _ (by omega)
  rw [Nat.add_mul, Nat.one_mul] at h1
  unfold win
  rw [List.drop_take, List.take_take, Nat.min_eq_left (by omega)]
theorem win_drop {xs : List Value} {wd n k : Nat} : win (xs.drop (n * wd)) wd k = win xs wd (n + k) := by
  unfold win
  rw [List.drop_drop, Nat.add_mul]

theorem RelL.rdF {C : Cx} {t : Ty} {l : List t.den} {xs : List Value} {F Rm : Foot} (h : RelL C .un t l xs F Rm) {k : Nat} {x : t.den} (hk : l[k]? = some x) : Rd C.w F t x (win xs t.width k) := by
  obtain ⟨G, h1, _, h3⟩ := h
  exact RdU.rd _ _ _ (G k) (fun g p hg => (h1 k g p hg).1) (h3 k x hk)

theorem replC_ok : replC.OK Try.prog := by
  intro k x y z hz
  obtain ⟨x0, x1, x2, x3, x4⟩ := x
  obtain ⟨l, y1⟩ := y
  change repl l x1 x2 x3 = some z at hz
  unfold repl at hz
  split at hz
  case isFalse => cases hz
  rename_i hcond
  cases hz
  obtain ⟨c1, c2, c3, c4, c5, c6⟩ := hcond
  refine ⟨fun _ _ => by kernel_rfl, fun C us hH hB hHe hal => ?_⟩
  have hHe : C.H = [.arr TSlot l .un 0 none] := hHe
  have hb : C.H[0]? = some (.arr TSlot l .un 0 none) := by rw [hHe]; rfl
  obtain ⟨i, rfl⟩ : ∃ i : Nat, x1 = i := ⟨x1.toNat, (Int.toNat_of_nonneg c1).symm⟩
  obtain ⟨j, rfl⟩ : ∃ j : Nat, x2 = j := ⟨x2.toNat, (Int.toNat_of_nonneg (Int.le_of_lt (Int.lt_of_le_of_lt c1 c2))).symm⟩
  simp only [Int.toNat_natCast] at c6 ⊢
  have hal : AL C [.c (.own 0), .c (.int .i64 i), .c (.int .i64 j), .c (.sl false TSlot x3)] us.toList := hal
  obtain ⟨us⟩ := us
  match us, hal with
  | [u0, u1, u2, u3], hal =>
  obtain ⟨a0, a1, a2, a3, _⟩ := hal
  obtain ⟨_, _, hu0⟩ := a0
  obtain rfl : u1 = .int .i64 i := a1
  obtain rfl : u2 = .int .i64 j := a2
  obtain ⟨A, vc, hv3, hvc, hne⟩ := (a3 : Rd C.w (C.Sf false) (.sl TSlot) x3 [u3])
  obtain rfl : u3 = .slice A x3.length vc := by simpa using hv3
  obtain ⟨g', off', rfl, hall⟩ := hne (by intro h; rw [h] at c4; simp at c4)
  obtain ⟨vs, v1, v2, v3⟩ := lay_at x3 off' hall
  have v1' := v1
  have v1 : vs.length = x3.length * 3 := v1
  obtain ⟨xs, hown, hrel⟩ := row_xs hH hb
  have hlive := live_arr hb
  have hxl : xs.length = l.length * 3 := hown.length
  have h1x : ∀ v ∈ xs, v.oneCell' = true := win_one hxl (fun k x hk => hrel.rdF hk)
  have h1v : ∀ v ∈ vs, v.oneCell' = true := win_one v1 v3
  rcases hown with ⟨h0, _⟩ | ⟨g, off, cap, hr, hat, _⟩
  · omega
  have hval := hr.val
  obtain ⟨cur, et, hg, hcap⟩ := hr.cur
  rw [← hu0] at hval
  subst hval
  have hin : RepIn g off l.length cap i j x3.length g' off' vc cur et xs vs C.w :=
    ⟨hg, Has.of_at hg hat, hxl, hcap, hr.len, hr.most, v1, fun k u hk => ⟨(v2 k u hk).1, fun hh => by
      obtain ⟨e, p1, p2⟩ := hh
      have hs := (v2 k u hk).2
      rw [e] at hs
      exact (hH.own 0 g _ hlive (hr.foot _ p1 p2)).1 hs.1⟩, h1x, h1v, by omega, by omega, c4, hvc, by omega, c6⟩
  have key := rep_calls hin
  refine Calls.mono key fun e w' he => ?_
  obtain ⟨v', rfl, hv1, hchg, ho⟩ := he
  have hrm : ∀ g2 p, rmOf (.slice (some (at_ g off)) i cap) 3 g2 p → C.fp 0 g2 p := fun g2 p hh => by
    obtain ⟨rfl, p1, p2⟩ := hh
    exact hr.foot p p1 p2
  have hlt : (l.take i).length = i := by rw [List.length_take]; omega
  have hld : (l.drop j).length = l.length - j := List.length_drop
  have hx : OwnV C.w (C.fp 0) (.slice (some (at_ g off)) i cap) (l.take i).length TSlot.width (xs.take (i * 3)) := by
    rw [hlt]
    refine .inr ⟨g, off, cap, ⟨rfl, ⟨cur, et, hg, hcap⟩, by have := hr.len; omega, hr.most, hr.foot⟩, fun k u hk => ?_, ?_⟩
    · rw [List.getElem?_take] at hk
      split at hk
      · exact hat k u hk
      · cases hk
    · show _ = i * 3
      rw [List.length_take]; omega
  have hrel1 : RelL C .un TSlot (l.take i) (xs.take (i * 3)) (C.fp 0) (rmOf (.slice (some (at_ g off)) i cap) TSlot.width) :=
    ⟨fun _ _ _ => False, fun _ _ _ hh => hh.elim, fun _ _ _ _ hh => hh.elim, fun k x hk => by
      have hki := (List.getElem?_eq_some_iff.1 hk).1
      rw [hlt] at hki
      rw [List.getElem?_take_of_lt hki] at hk
      have := hrel.rdF hk
      rw [← win_take (n := i) hki] at this
      exact Rd.rdU _ _ _ rfl this⟩
  have hrel2 : RelL C .un TSlot (x3 ++ l.drop j) (vs ++ xs.drop (j * 3)) (fun g p => ∃ b, (none : Option Nat) = some b ∧ live C b ∧ C.fp b g p) (fun _ _ => False) :=
    ⟨fun _ _ _ => False, fun _ _ _ hh => hh.elim, fun _ _ _ _ hh => hh.elim, fun k x hk => by
      rw [List.getElem?_append] at hk
      split at hk
      · rename_i hki
        rw [win_left v1' hki]
        exact Rd.rdU _ _ _ rfl (v3 k x hk)
      · rename_i hki
        rw [win_right v1' (by omega)]
        rw [List.getElem?_drop] at hk
        have := hrel.rdF hk
        rw [← win_drop] at this
        exact Rd.rdU _ _ _ rfl this⟩
  have hnl : (vs ++ xs.drop (j * 3)).length = (x3 ++ l.drop j).length * TSlot.width := by
    show _ = _ * 3
    rw [List.length_append, List.length_append, List.length_drop, hld]; omega
  obtain ⟨C', e1, e2, e3, e4, e5, e6⟩ := hH.app (b0 := some 0) (q := none) (v0 := .slice (some (at_ g off)) i cap) (H1 := [.dead]) (fun g p hh => ⟨0, rfl, hlive, hh⟩) hx hrel1 hnl hrel2 (fun b hb' hq => by cases hq) hchg
    (by rw [hlt, List.length_append, hld]; exact ho) hv1 (by rw [hHe]; rfl) (fun q x hq hd => by
      cases q with
      | zero => simp at hq; exact absurd hq.symm hd
      | succ q => simp at hq)
  have hfb : C'.H.all freshB = true := by rw [e1]; rfl
  have hHl : C.H.length = 1 := by rw [hHe]; rfl
  rw [hHl] at e6
  refine ⟨v', C'.frs, rfl, e2, e1, ⟨e3.B, e3.X, e2 ▸ e5.chg, fun g p hh => .inr ?_, e3.len, e3.blk⟩, e4.frs hfb, freshA_r rfl e6⟩
  have := hh.2
  unfold Cx.Own at *
  rw [e3.B, e3.X] at this
  exact this
end Go.Proofs.Ytgnhojiogkeepaa.V
