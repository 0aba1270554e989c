/- strings.Builder's methods are what the interpreter takes them for. -/
import Derived.Test.YtcjfheidmlcbfaaGreatDoorSVB
set_option linter.unusedVariables false
set_option linter.unusedSimpArgs false
set_option linter.unusedSectionVars false
namespace Go.Proofs.YtcjfheidmlcbfaaGreatDoor.V
open Go Go.Proofs Go.RowKit Go.Shelf

theorem strCells_app (s x : ByteArray) : Lib.strCells (s ++ x) = Lib.strCells s ++ Lib.strCells x := by
  unfold Lib.strCells
  rw [← List.map_append]
  congr 1
theorem size_list (s : ByteArray) : s.data.toList.length = s.size := (Lib.size_eq s).symm
/-- The row behind a builder, in the block's words and in the walk's. -/
def BldRow (C : Cx) (b g u : Nat) (v : Value) (s : ByteArray) : Prop :=
  (s.size = 0 ∧ v = .slice none 0 0) ∨ ∃ g2 cap cur, g2 ≠ g ∧ C.B ≤ g2 ∧ v = .slice (some (at_ g2 0)) s.size cap ∧ C.w.heap[g2]? = some (Obj.cells cur u (0, 0)) ∧ s.size ≤ cap ∧ cap ≤ maxLen ∧ cur.size = cap ∧ (∀ i (h : i < s.data.toList.length), cur[i]? = some (.int .u8 ((s.data.toList[i]'h).toNat : Int))) ∧ ∀ q, C.fp b g2 q
theorem BldRow.brow {C : Cx} {b g u : Nat} {v : Value} {s : ByteArray} (h : BldRow C b g u v s) : BRow C.w u v (Lib.strCells s) ∧ v.ownBlock ≠ some g ∧ (∀ g2, v.ownBlock = some g2 → C.B ≤ g2) ∧ ∀ g2 q, v.ownBlock = some g2 → C.fp b g2 q := by
  have hsl := Lib.strCells_length s
  rcases h with ⟨h0, rfl⟩ | ⟨g2, cap, cur, h1, h2, rfl, h4, h5, h6, h7, h8, h9⟩
  · exact ⟨.inl ⟨List.eq_nil_of_length_eq_zero (by rw [hsl]; exact h0), rfl⟩, by simp [Value.ownBlock], fun g2 e => by simp [Value.ownBlock] at e, fun g2 q e => by simp [Value.ownBlock] at e⟩
  · refine ⟨.inr ⟨g2, cap, cur, by rw [hsl], h4, by rw [hsl]; exact h5, h6, h7, ?_⟩, ?_, ?_, ?_⟩
    · apply List.ext_getElem?
      intro i
      rw [hsl]
      by_cases hi : i < s.size
      · rw [List.getElem?_take_of_lt hi]
        have hl : i < s.data.toList.length := by rw [size_list]; exact hi
        have := h8 i hl
        rw [← Array.getElem?_toList] at this
        rw [this]
        unfold Lib.strCells
        rw [List.getElem?_map, List.getElem?_eq_getElem hl]
        rfl
      · rw [List.getElem?_eq_none (by rw [List.length_take]; omega), List.getElem?_eq_none (by rw [hsl]; omega)]
    · intro e
      simp [Value.ownBlock] at e
      exact h1 e
    · intro g' e
      simp [Value.ownBlock] at e
      subst e; exact h2
    · intro g' q e
      simp [Value.ownBlock] at e
      subst e; exact h9 q
theorem BRow.bld {C : Cx} {b g u : Nat} {v : Value} {s : ByteArray} (h : BRow C.w u v (Lib.strCells s)) (h1 : v.ownBlock ≠ some g) (h2 : ∀ g2, v.ownBlock = some g2 → C.B ≤ g2) (h3 : ∀ g2 q, v.ownBlock = some g2 → C.fp b g2 q) : BldRow C b g u v s := by
  have hsl := Lib.strCells_length s
  rcases h with ⟨k1, rfl⟩ | ⟨g2, cap, cur, rfl, k2, k3, k4, k5, k6⟩
  · exact .inl ⟨by rw [← hsl, k1]; rfl, rfl⟩
  · rw [hsl] at k3 k6
    refine .inr ⟨g2, cap, cur, fun e => h1 (by rw [e]; rfl), h2 g2 rfl, by rw [hsl], k2, k3, k4, k5, fun i hi => ?_, fun q => h3 g2 q rfl⟩
    have hi' : i < s.size := by rw [← size_list]; exact hi
    have this : (cur.toList.take s.size)[i]? = (Lib.strCells s)[i]? := by rw [k6]
    rw [List.getElem?_take_of_lt hi'] at this
    rw [← Array.getElem?_toList, this]
    unfold Lib.strCells
    rw [List.getElem?_map, List.getElem?_eq_getElem hi]
    rfl

def bw : Bw := { ws := 36, st := 37, t := 111, u := 5 }

theorem write_step {C : Cx} (hH : HeapR C) {b : Nat} {s x : ByteArray} (hb : C.H[b]? = some (.bld 111 5 s)) (hlen : s.size + x.size ≤ 140737488355328) {g : Nat} {off : Nat} (hρ0 : C.ρ b = .pointer (some (at_ g off))) :
    Calls Tryz.prog 36 #[.pointer (some (at_ g (off + 0))), .string x] C.w fun e w' => ∃ u C', e = .returned u ∧ C'.w = w' ∧ C'.H = C.H.set b (.bld 111 5 (s ++ x)) ∧ C.le C' ∧ HeapR C' ∧ Frm C C' := by
  obtain ⟨hsh, g', p, v, hBg, hρ, hg, hp, hfp, hrow⟩ := hH.blk b _ hb
  rw [hρ0] at hρ
  obtain ⟨rfl, rfl⟩ : g = g' ∧ off = 0 := by simpa [at_] using hρ
  have hrow : BldRow C b g 5 v s := hrow
  obtain ⟨r1, r2, r3, r4⟩ := hrow.brow
  have hlive : live C b := live_of hb (by simp)
  have hlt := live_lt hlive
  have hglt : g < C.w.heap.size := (Array.getElem?_eq_some_iff.1 hg).1
  refine (ws_walk g p v (Lib.strCells s) x C.w hg hp r1 r2 (by rw [Lib.strCells_length]; exact hlen)).mono fun e w' he => ?_
  obtain ⟨u, w1, w2, v', rfl, hw1, hr2, ha, rfl⟩ := he
  rw [← strCells_app] at hr2
  have hg1 : w1.heap[g]? = some (Obj.cells #[.pointer (some ⟨g, 0, none⟩), v] 111 (0, 0)) := by
    rcases hw1 with rfl | ⟨rfl, rfl⟩
    · exact setRow_heap C.w g _ _ _ _ hg
    · exact hg
  let F : Foot := fun g' _ => g' = g ∨ v.ownBlock = some g'
  have c1 : Chg C.w w1 F := by
    rcases hw1 with rfl | ⟨rfl, rfl⟩
    · exact Chg.setRow hg (by simp) (fun q hq => absurd (.inl rfl) hq)
    · exact .refl _ _
  have c2 : Chg w1 w2 F := by
    rcases ha with ⟨rfl, _⟩ | ⟨g2, cap, cur, cur', e1, e2, e3, rfl, _⟩ | ⟨o, n, cap, rfl, _⟩
    · exact .refl _ _
    · exact Chg.setRow e2 e3 (fun q hq => absurd (.inr e1) hq)
    · exact Chg.of_below ((Below.drew (Below.refl w1.heap.size w1)).alloc (Nat.le_refl _) o) F
  have hg2 : w2.heap[g]? = some (Obj.cells #[.pointer (some ⟨g, 0, none⟩), v] 111 (0, 0)) := by
    rcases ha with ⟨rfl, _⟩ | ⟨g2, cap, cur, cur', e1, e2, e3, rfl, _⟩ | ⟨o, n, cap, rfl, _⟩
    · exact hg1
    · rw [setRow_other _ _ _ _ (fun e => r2 (by rw [e1, e]))]
      exact hg1
    · exact (heap_alloc_old w1.drew o (Array.getElem?_eq_some_iff.1 hg1).1).trans hg1
  have c3 : Chg w2 (w2.setRow g #[.pointer (some ⟨g, 0, none⟩), v']) F := Chg.setRow hg2 (by simp) (fun q hq => absurd (.inl rfl) hq)
  have hchg : Chg C.w (w2.setRow g #[.pointer (some ⟨g, 0, none⟩), v']) F := (c1.trans c2).trans c3
  have hs1 : w1.heap.size = C.w.heap.size := by
    rcases hw1 with rfl | ⟨rfl, _⟩
    · simp
    · rfl
  -- where the new row lies
  have hv' : ∀ g2, v'.ownBlock = some g2 → (v.ownBlock = some g2 ∨ g2 = C.w.heap.size) ∧ g2 ≠ g ∧ g2 < w2.heap.size := by
    intro g2 e
    rcases ha with ⟨rfl, rfl⟩ | ⟨g3, cap, cur, cur', e1, e2, e3, rfl, n, rfl⟩ | ⟨o, n, cap, rfl, rfl⟩
    · refine ⟨.inl e, fun e' => r2 (by rw [e, e']), ?_⟩
      rcases hr2 with ⟨_, rfl⟩ | ⟨g4, _, _, rfl, k, _⟩
      · simp [Value.ownBlock] at e
      · have : g4 = g2 := by simpa [Value.ownBlock] using e
        subst this
        exact (Array.getElem?_eq_some_iff.1 k).1
    · have : g3 = g2 := by simpa [Value.ownBlock] using e
      subst this
      exact ⟨.inl e1, fun e' => r2 (by rw [e1, e']), by simpa using (Array.getElem?_eq_some_iff.1 e2).1⟩
    · have : w1.heap.size = g2 := by simpa [Value.ownBlock] using e
      subst this
      exact ⟨.inr hs1, by omega, by simp⟩
  let C' : Cx := { C with w := w2.setRow g #[.pointer (some ⟨g, 0, none⟩), v'], H := C.H.set b (.bld 111 5 (s ++ x)), fp := fun i => if i = b then (fun g' _ => g' = g ∨ v'.ownBlock = some g') else C.fp i }
  have hvb : C.vn b = none := by
    cases hv : C.vn b with
    | none => rfl
    | some v => obtain ⟨t, l', h, e⟩ := hH.vl b v hv; rw [hb] at e; cases e
  obtain ⟨k1, k2, k3⟩ := hH.step (C' := C') (F := F) b (fun _ => False) rfl rfl hchg (fun g' q hf => ⟨b, .inr rfl, hlive, by rcases hf with rfl | hf; exact hfp q; exact r4 g' q hf⟩) (fun _ _ h => h) (fun _ _ h => .inl h) (fun g' q h => Nat.lt_of_lt_of_le (hH.st g' q h) hchg.size) (by simp [C']) (fun i hi => ⟨rfl, rfl⟩)
    (fun i hi hn => hH.vnone fun ⟨y, hy, hd⟩ => hn ⟨y, by show (C.H.set b _)[i]? = some y; rw [List.getElem?_set_ne (fun e => hi e.symm)]; exact hy, hd⟩) (fun _ => .inl hvb) (fun v hv => by rw [show C'.vn b = C.vn b from rfl, hvb] at hv; cases hv)
    (fun i y hy hd => by
      by_cases e : i = b
      · exact .inl e
      · have hy : (C.H.set b _)[i]? = some y := hy
        rw [List.getElem?_set_ne (fun e' => e e'.symm)] at hy
        exact .inr ⟨hy, fun h => h, e, rfl, fun g' q => by show (if i = b then _ else C.fp i) g' q ↔ _; rw [if_neg e]⟩)
    (fun g' q _ hf => by
      have hf : (if b = b then (fun g' (_ : Nat) => g' = g ∨ v'.ownBlock = some g') else C.fp b) g' q := hf
      rw [if_pos rfl] at hf
      rcases hf with rfl | hf
      · obtain ⟨o1, o2, o3⟩ := hH.own b g' q hlive (hfp q)
        exact ⟨o1, Nat.lt_of_lt_of_le o3 hchg.size, .inl ⟨b, .inr rfl, hlive, hfp q⟩⟩
      · obtain ⟨a1, a2, a3⟩ := hv' g' hf
        refine ⟨?_, by simpa [C'] using a3, ?_⟩
        · rcases a1 with a1 | a1
          · exact (hH.own b g' q hlive (r4 g' q a1)).1
          · intro hS; have := hH.st g' q hS; omega
        · rcases a1 with a1 | a1
          · exact .inl ⟨b, .inr rfl, hlive, r4 g' q a1⟩
          · exact .inr (by omega))
    (fun hle y hy hd => by
      have hy : (C.H.set b (.bld 111 5 (s ++ x)))[b]? = some y := hy
      rw [List.getElem?_set_self hlt] at hy
      cases hy
      have hrow' : BldRow C' b g 5 v' (s ++ x) := by
        refine BRow.bld ?_ (fun e => (hv' g e).2.1 rfl) (fun g2 e => ?_) (fun g2 q e => ?_)
        · show BRow (w2.setRow g #[.pointer (some ⟨g, 0, none⟩), v']) 5 v' _
          rcases hr2 with hr2 | ⟨g2, cap, cur, e1, e2, e3⟩
          · exact .inl hr2
          · refine .inr ⟨g2, cap, cur, e1, ?_, e3⟩
            rw [setRow_other _ _ _ _ (hv' g2 (by rw [e1]; rfl)).2.1]
            exact e2
        · rcases (hv' g2 e).1 with h | h
          · exact r3 g2 h
          · have := hH.base; show C.B ≤ g2; omega
        · show (if b = b then (fun g' (_ : Nat) => g' = g ∨ v'.ownBlock = some g') else C.fp b) g2 q
          rw [if_pos rfl]; exact .inr e
      exact ⟨hsh, g, _, v', hBg, hρ0, setRow_heap w2 g _ _ _ _ hg2, .inr rfl, fun q => by show (if b = b then (fun g' (_ : Nat) => g' = g ∨ v'.ownBlock = some g') else C.fp b) g q; rw [if_pos rfl]; exact .inl rfl, hrow'⟩)
  exact ⟨_, C', rfl, rfl, rfl, k1, k2, k3⟩

theorem string_step {C : Cx} (hH : HeapR C) {b : Nat} {s : ByteArray} (hb : C.H[b]? = some (.bld 111 5 s)) {g : Nat} {off : Nat} (hρ0 : C.ρ b = .pointer (some (at_ g off))) :
    Calls Tryz.prog 37 #[.pointer (some (at_ g (off + 0)))] C.w fun e w' => ∃ u C', e = .returned u ∧ C'.w = w' ∧ C'.H = C.H.map (fun _ => .dead) ∧ C.le C' ∧ HeapR C' ∧ Frm C C' ∧ u = .string s := by
  obtain ⟨hsh, g', p, v, hBg, hρ, hg, hp, hfp, hrow⟩ := hH.blk b _ hb
  rw [hρ0] at hρ
  obtain ⟨rfl, rfl⟩ : g = g' ∧ off = 0 := by simpa [at_] using hρ
  have hrow : BldRow C b g 5 v s := hrow
  obtain ⟨r1, r2, r3, r4⟩ := hrow.brow
  refine (st_walk C.B g p v s C.w hH.base hg r1 r3).mono fun e w' he => ?_
  obtain ⟨rfl, hbel, hcell⟩ := he
  have hdead : ∀ (i : Nat) (y : Blk), (C.H.map fun _ => Blk.dead)[i]? = some y → y = .dead := by
    intro i y hy
    rw [List.getElem?_map] at hy
    cases hc : C.H[i]? with
    | none => rw [hc] at hy; cases hy
    | some z => rw [hc] at hy; simpa using hy.symm
  refine ⟨_, { C with w := w', H := C.H.map fun _ => .dead, vn := fun _ => none }, rfl, rfl, rfl, ⟨rfl, rfl, fun _ _ h => h, fun g' q u hS hc => (hcell g' q (hH.st g' q hS)).trans hc, by simp, fun _ _ => ⟨rfl, rfl⟩, fun _ _ => .inl rfl⟩, ?_, ⟨rfl, ⟨hbel.os, hbel.tape, hbel.output, hbel.size, fun g' o hB ho => .inl ((hbel.block g' hB).trans ho), fun g' q hg' _ => hcell g' q hg'⟩, fun _ _ h => .inl h⟩, rfl⟩
  refine ⟨Nat.le_trans hH.base hbel.size, fun g' q h => Nat.lt_of_lt_of_le (hH.st g' q h) hbel.size, fun i y hy => ?_, fun i g' q hl _ => ?_, fun i j g' q hl _ _ _ => ?_, fun i v hv => (by cases hv), fun q hq => ?_⟩
  · rw [hdead i y hy]; trivial
  · obtain ⟨y, hy, hd⟩ := hl; exact absurd (hdead i y hy) hd
  · obtain ⟨y, hy, hd⟩ := hl; exact absurd (hdead i y hy) hd
  · obtain ⟨h1, h2⟩ := hH.gl q hq
    refine ⟨?_, h2⟩
    have hqB : q.1 < C.B := Nat.lt_of_not_le fun h => h2 0 (.inl h)
    obtain ⟨l, ty, fr, hl, h⟩ := h1
    exact ⟨l, ty, fr, hl, by rw [show ({ C with w := w', H := C.H.map fun _ => .dead, vn := fun _ => none } : Cx).w = w' from rfl, hbel.block _ hqB]; exact h⟩

theorem bldOK : BldOK Tryz.prog (some bw) := by
  intro R f H args k r hr
  have h0 : bldK (some bw) f H args k none = some r := hr
  clear hr
  simp only [bldK] at h0
  cases h1 : Nat.beq f bw.ws
  · simp only [h1, cond_false] at h0
    cases h2 : Nat.beq f bw.st
    · simp only [h2, cond_false] at h0; cases h0
    · simp only [h2, cond_true] at h0
      have e := Nat.eq_of_beq_eq_true h2
      subst e
      split at h0
      case h_2 => cases h0
      rename_i b
      split at h0
      case h_2 => cases h0
      rename_i t u s hb
      obtain ⟨e1, h0⟩ := beq_cond h0
      obtain ⟨e2, h0⟩ := beq_cond h0
      subst e1; subst e2
      refine ⟨fun _ _ => by kernel_rfl, _, _, h0, fun C us hH hh hal => ?_⟩
      obtain ⟨us⟩ := us
      match us, hal with
      | [u0], hal =>
      obtain ⟨⟨_, hbl, g, off, hρ, rfl⟩, _⟩ := hal
      rw [← hh] at hb
      refine (string_step hH hb hρ).mono fun e w' he => ?_
      obtain ⟨u, C', rfl, a1, a2, a3, a4, a5, rfl⟩ := he
      exact ⟨_, C', rfl, a1, by rw [a2, hh], a3, a4, a5, rfl⟩
  · simp only [h1, cond_true] at h0
    have e := Nat.eq_of_beq_eq_true h1
    subst e
    split at h0
    case h_2 => cases h0
    rename_i b x
    split at h0
    case h_2 => cases h0
    rename_i t u s hb
    obtain ⟨e1, h0⟩ := beq_cond h0
    obtain ⟨e2, h0⟩ := beq_cond h0
    subst e1; subst e2
    split at h0
    case isFalse => cases h0
    rename_i hlen
    refine ⟨fun _ _ => by kernel_rfl, _, _, h0, fun C us hH hh hal => ?_⟩
    obtain ⟨us⟩ := us
    match us, hal with
    | [u0, u1], hal =>
    obtain ⟨⟨_, hbl, g, off, hρ, rfl⟩, hu1, _⟩ := hal
    obtain rfl : u1 = .string x := hu1
    rw [← hh] at hb
    refine (write_step hH hb hlen hρ).mono fun e w' he => ?_
    obtain ⟨u, C', rfl, a1, a2, a3, a4, a5⟩ := he
    exact ⟨_, C', rfl, a1, a2.trans (by rw [hh]; rfl), a3, a4, a5, trivial⟩
end Go.Proofs.YtcjfheidmlcbfaaGreatDoor.V
