/- A printed script reads back as the commands that it was printed from: the printed law answers true. -/
import Derived.Test.YtcjfheidmlcbfaaGreatDoorSD30
import Derived.Test.YtcjfheidmlcbfaaGreatDoorST8
import Derived.Test.YtcjfheidmlcbfaaGreatDoorST9
set_option linter.unusedVariables false
set_option linter.unusedSimpArgs false
set_option linter.unusedSectionVars false
namespace Go.Proofs.YtcjfheidmlcbfaaGreatDoor.PSr
open Go Go.RowKit Go.Proofs.YtcjfheidmlcbfaaGreatDoor.V Go.Proofs.YtcjfheidmlcbfaaGreatDoor.C

/-! ### What is written -/
theorem digits_in : ∀ u : Nat, ∀ b ∈ Lib.decDigits u, 48 ≤ b.toNat ∧ b.toNat ≤ 57 := by
  intro u
  induction u using Nat.strongRecOn with
  | _ u ih =>
    intro b hb
    by_cases h : u < 10
    · rw [Lib.decDigits_one h, List.mem_singleton] at hb
      rw [hb, dig_nat u h]; omega
    · rw [Lib.decDigits, dif_neg h, List.mem_append] at hb
      rcases hb with hb | hb
      · exact ih (u / 10) (by omega) b hb
      · rw [List.mem_singleton] at hb
        have hm : u % 10 < 10 := Nat.mod_lt _ (by omega)
        rw [hb, dig_nat _ hm]; omega
theorem itoa_not (v : Int) (h : 0 ≤ v) (c : UInt8) (hc : c.toNat < 48) : c ∉ Lib.itoa v := by
  unfold Lib.itoa
  rw [if_neg (by omega)]
  intro hm
  have := digits_in _ c hm
  omega
theorem parts_ok : ∀ (mem : Int) (P : List S71) (n i : Nat), partsFrom mem P n i = true → ∀ j, i ≤ j → j < i + n → nameB (P.getD j z71).f0 = true ∧ namesNe P j = true
  | mem, P, 0, i, _, j, h0, h1 => by omega
  | mem, P, n + 1, i, h, j, h0, h1 => by
    rw [partsFrom] at h
    simp only [Bool.and_eq_true] at h
    by_cases e : j = i
    · subst e
      have := h.1
      simp only [partOkB, Bool.and_eq_true] at this
      exact ⟨this.1, h.2.1⟩
    · exact parts_ok mem P n (i + 1) h.2.2 j (by omega) (by omega)
theorem named_at {t : S33} (h : soundB t = true) {j : Nat} (hj : j < t.f7.length) : nameB (t.f7.getD j z71).f0 = true ∧ namedV t (t.f7.getD j z71).f0 = (j : Int) := by
  simp only [soundB, specPartsB, Bool.and_eq_true] at h
  obtain ⟨h1, h2⟩ := parts_ok _ _ _ _ h.2.1.2.1 j (by omega) (by omega)
  refine ⟨h1, ?_⟩
  unfold namedV
  rcases idxOf_find (fun q : S71 => decide (q.f0 = (t.f7.getD j z71).f0)) z71 t.f7 0 with ⟨_, g⟩ | ⟨m, hm, he, hp, hno⟩
  · have := List.any_eq_false.1 g _ (getD_mem (z := z71) hj)
    exact absurd (decide_eq_true rfl) this
  · have hmj : m = j := by
      by_cases c1 : m < j
      · unfold namesNe at h2
        rw [List.all_eq_true] at h2
        have hmem : t.f7.getD m z71 ∈ t.f7.take j := by
          have : (t.f7.take j).getD m z71 = t.f7.getD m z71 := by
            rw [List.getD_eq_getElem?_getD, List.getElem?_take_of_lt c1, ← List.getD_eq_getElem?_getD]
          rw [← this]
          exact getD_mem (by rw [List.length_take]; omega)
        have := h2 _ hmem
        rw [hp] at this
        cases this
      · by_cases c2 : j < m
        · have := hno j c2
          rw [decide_eq_false_iff_not] at this
          exact absurd rfl this
        · omega
    subst hmj
    rw [Nat.zero_add] at he
    exact he
theorem name_not {l : List UInt8} (h : nameB (ba l) = true) (c : UInt8) (hc : c.toNat < 97) : c ∉ l := by
  intro hm
  obtain ⟨i, hi, rfl⟩ := List.getElem_of_mem hm
  simp only [nameB, labelB, Bool.and_eq_true] at h
  have := List.all_eq_true.1 h.1.1 i (List.mem_range.2 (by rw [ba_size]; exact hi))
  unfold lowB at this
  rw [decide_eq_true_eq, bt_ba l i hi] at this
  omega

/-! ### A line -/
theorem e32 : ByteArray.mk #[32] = ba [32] := rfl
theorem e10 : ByteArray.mk #[10] = ba [10] := rfl
theorem eRun : runT = ba [114, 117, 110] := rfl
theorem eIn : inT = ba [105, 110, 112, 117, 116] := rfl
theorem eRe : reT = ba [114, 101, 115, 116, 97, 114, 116, 32] := rfl
theorem wRun : ba [114, 117, 110] = runW := rfl
theorem wIn : ba [105, 110, 112, 117, 116] = inW := rfl
theorem wRe : ba [114, 101, 115, 116, 97, 114, 116] = reW := rfl
theorem cmd_line {t : S33} (hs : soundB t = true) (c : SC) (hc : CmdOk c) {s : ByteArray} (h : cmdV t c = some s) : ∃ L : List UInt8, s = ba (L ++ [10]) ∧ (10 : UInt8) ∉ L ∧ lnV t (ba L) = (c, 0) := by
  have hl := (sound_nam hs).len
  obtain ⟨c0, c1, c2⟩ := c
  have hc : 0 ≤ c2 ∧ c2 ≤ 4294967295 := hc
  unfold cmdV at h
  split at h
  · rename_i k0
    split at h
    · rename_i i1
      have i1 := in_iff.1 i1
      split at h
      · rename_i k2
        have k0 : c0 = 0 := k0
        have k2 : c2 = 0 := k2
        have i1 : 0 ≤ c1 ∧ c1 ≤ 50000 := i1
        subst k0 k2
        cases h
        have b32 := itoa_not c1 i1.1 32 (by decide)
        have b10 := itoa_not c1 i1.1 10 (by decide)
        refine ⟨[114, 117, 110] ++ 32 :: Lib.itoa c1, ?_, ?_, ?_⟩
        · unfold lineV addN
          simp only [List.foldl_cons, List.foldl_nil, e32, e10, eRun, ba_app]
          congr 1 <;> simp
        · simp only [List.mem_append, List.mem_cons, List.not_mem_nil, or_false, not_or]
          exact ⟨by decide, by decide, b10⟩
        · show readV t _ = _
          rw [list_ba, spl_app _ _ _ (by decide), spl_free _ _ b32]
          unfold readV wd
          simp only [List.map_cons, List.map_nil, List.getD_cons_zero, List.getD_cons_succ, wRun, if_true, List.length_cons, List.length_nil]
          rw [if_pos (by decide), decR_itoa c1 50000 (by omega) (by omega) (by omega) (by omega)]
          unfold runV
          rw [if_pos rfl, if_neg (by show ¬ c1 < 0; omega)]
      · cases h
    · cases h
  · split at h
    · rename_i k0
      split at h
      · rename_i i1
        have j1 : 0 ≤ c1 ∧ c1 ≤ 7 := in_iff.1 i1
        have k0 : c0 = 1 := k0
        subst k0
        cases h
        have hw : wrap64 c2 = c2 := wrap_of (by omega) (by omega)
        have b32 := itoa_not c1 j1.1 32 (by decide)
        have b10 := itoa_not c1 j1.1 10 (by decide)
        have d32 := itoa_not c2 hc.1 32 (by decide)
        have d10 := itoa_not c2 hc.1 10 (by decide)
        refine ⟨[105, 110, 112, 117, 116] ++ 32 :: (Lib.itoa c1 ++ 32 :: Lib.itoa c2), ?_, ?_, ?_⟩
        · unfold lineV addN
          simp only [List.foldl_cons, List.foldl_nil, e32, e10, eIn, ba_app, hw]
          congr 1 <;> simp
        · simp only [List.mem_append, List.mem_cons, List.not_mem_nil, or_false, not_or]
          exact ⟨by decide, by decide, b10, by decide, d10⟩
        · show readV t _ = _
          rw [list_ba, spl_app _ _ _ (by decide), spl_app _ _ _ b32, spl_free _ _ d32]
          unfold readV wd
          simp only [List.map_cons, List.map_nil, List.getD_cons_zero, List.getD_cons_succ, wIn, List.length_cons, List.length_nil]
          rw [if_neg (fun e => rnNi e.symm), if_pos trivial, if_pos (by decide), decR_itoa c1 7 (by omega) (by omega) (by omega) (by omega), decR_itoa c2 4294967295 (by omega) (by omega) (by omega) (by omega)]
          unfold inV
          rw [if_pos rfl, if_pos rfl, if_neg (by show ¬ c1 < 0; omega), if_neg (by show ¬ c2 < 0; omega)]
          show (((1, c1, IntKind.wrap .u32 c2) : SC), (0 : Int)) = ((1, c1, c2), 0)
          rw [wrap_u32, Int.emod_eq_of_lt (by omega) (by omega)]
      · cases h
    · split at h
      · rename_i k0
        split at h
        · rename_i i1
          split at h
          · rename_i k2
            have k0 : c0 = 2 := k0
            have k2 : c2 = 0 := k2
            subst k0 k2
            have i1 := in_iff.1 i1
            rw [wrap_of (by omega) (by omega)] at i1
            have i1 : 0 ≤ c1 ∧ c1 ≤ (t.f7.length : Int) - 1 := i1
            obtain ⟨j, rfl⟩ : ∃ j : Nat, c1 = (j : Int) := ⟨c1.toNat, by omega⟩
            cases h
            obtain ⟨n1, n2⟩ := named_at hs (j := j) (by omega)
            have hr : (rd_T71 t.f7 (j : Int)).f0 = (t.f7.getD j z71).f0 := rfl
            obtain ⟨l, hl'⟩ : ∃ l, (t.f7.getD j z71).f0 = ba l := ⟨_, (ba_list _).symm⟩
            rw [hl'] at n1 n2
            have b32 := name_not n1 32 (by decide)
            have b10 := name_not n1 10 (by decide)
            refine ⟨[114, 101, 115, 116, 97, 114, 116] ++ 32 :: l, ?_, ?_, ?_⟩
            · show nmV t (j : Int) = _
              unfold nmV
              rw [hr, hl', eRe, e10, ba_app, ba_app]
              congr 1 <;> simp
            · simp only [List.mem_append, List.mem_cons, List.not_mem_nil, or_false, not_or]
              exact ⟨by decide, by decide, b10⟩
            · show readV t _ = _
              rw [list_ba, spl_app _ _ _ (by decide), spl_free _ _ b32]
              unfold readV wd
              simp only [List.map_cons, List.map_nil, List.getD_cons_zero, List.getD_cons_succ, wRe, List.length_cons, List.length_nil]
              rw [if_neg (fun e => rnNr e.symm), if_neg (fun e => inNr e.symm), if_pos trivial, if_pos (by decide), n2]
              unfold reV
              rw [if_neg (by omega)]
          · cases h
        · cases h
      · cases h

/-! ### A script -/
abbrev flat (LS : List (List UInt8)) : List UInt8 := LS.flatMap (· ++ [10])
theorem script_lines {t : S33} (hs : soundB t = true) : ∀ (l : List SC) (acc s : ByteArray), (∀ c ∈ l, CmdOk c) → scrV t l acc = (s, true) →
    ∃ LS : List (List UInt8), s = acc ++ ba (flat LS) ∧ (∀ L ∈ LS, (10 : UInt8) ∉ L) ∧ LS.map (fun L => lnV t (ba L)) = l.map (fun c => (c, (0 : Int))) ∧ (flat LS).length ≤ 60 * l.length
  | [], acc, s, _, h => by
    rw [scrV] at h
    simp only [Prod.mk.injEq, and_true] at h
    refine ⟨[], ?_, fun L hL => (by cases hL), rfl, by simp [flat]⟩
    rw [← h]
    apply ByteArray.ext
    simp [flat, ba]
  | c :: l, acc, s, hc, h => by
    rw [scrV] at h
    cases hv : cmdV t c with
    | none => rw [hv] at h; cases h
    | some x =>
      rw [hv] at h
      obtain ⟨LS, h1, h2, h3, h4⟩ := script_lines hs l (acc ++ x) s (fun d hd => hc d (List.mem_cons_of_mem _ hd)) h
      obtain ⟨L, g1, g2, g3⟩ := cmd_line hs c (hc c (List.mem_cons_self)) hv
      have g4 := (cmdV_size (sound_nam hs) hv).2
      refine ⟨L :: LS, ?_, ?_, ?_, ?_⟩
      · rw [h1, g1, ← app_assoc, ba_app]
        simp [flat]
      · intro M hM
        rcases List.mem_cons.1 hM with rfl | hM
        · exact g2
        · exact h2 M hM
      · rw [List.map_cons, List.map_cons, h3, g3]
      · rw [g1, ba_size] at g4
        simp only [flat, List.flatMap_cons, List.length_append, List.length_cons, List.length_nil] at h4 g4 ⊢
        omega
theorem spl_flat : ∀ LS : List (List UInt8), (∀ L ∈ LS, (10 : UInt8) ∉ L) → spl 10 (flat LS) = LS ++ [[]]
  | [], _ => rfl
  | L :: LS, h => by
    have e : flat (L :: LS) = L ++ 10 :: flat LS := by simp [flat]
    rw [e, spl_app _ _ _ (h L (List.mem_cons_self)), spl_flat LS fun M hM => h M (List.mem_cons_of_mem _ hM)]
    rfl
theorem finT_flat (LS : List (List UInt8)) (h : ∀ L ∈ LS, (10 : UInt8) ∉ L) (hl : (flat LS).length ≤ 20000) (h6 : LS.length ≤ 300) : finT (flat LS) = (LS.map ba, true) := by
  have ok : okT (flat LS) := by
    refine ⟨hl, ?_⟩
    rcases List.eq_nil_or_concat LS with rfl | ⟨A, L, e⟩
    · exact .inl rfl
    · right
      try simp only [List.concat_eq_append] at e
      subst e
      obtain ⟨M, hM⟩ : ∃ M, flat (A ++ [L]) = M ++ [10] := ⟨flat A ++ L, by simp [flat]⟩
      rw [hM]
      have e : (((M ++ [10] : List UInt8).length : Int) - 1) = (M.length : Int) := by simp
      rw [e, bt_ba (M ++ [10]) M.length (by simp)]
      simp
  unfold finT
  rw [if_pos ok]
  have e : linesV (flat LS) = LS.map ba := by
    unfold linesV
    rw [spl_flat LS h, List.dropLast_concat]
  rw [e]
  unfold finL
  rw [if_neg (by rw [List.length_map]; omega)]
theorem parV_back (t : S33) (N : Nat) : ∀ (LS : List (List UInt8)) (l acc : List SC), LS.map (fun L => lnV t (ba L)) = l.map (fun c => (c, (0 : Int))) → acc.length + l.length ≤ 300 → parV t N (LS.map ba) acc = (acc ++ l, 0, 0)
  | [], [], acc, _, _ => by simp [parV]
  | [], c :: l, acc, h, _ => by simp at h
  | L :: LS, [], acc, h, _ => by simp at h
  | L :: LS, c :: l, acc, h, hl => by
    rw [List.map_cons, List.map_cons, List.cons.injEq] at h
    obtain ⟨h1, h2⟩ := h
    rw [List.length_cons] at hl
    rw [List.map_cons, parV, h1, if_pos rfl, if_neg (by omega), parV_back t N LS l _ h2 (by simp; omega)]
    simp
theorem back {t : S33} {l : List SC} (hc : ∀ c ∈ l, CmdOk c) {s : ByteArray} (h : prV t l = (s, true)) : parseT t s = (l, 0, 0) := by
  unfold prV at h
  split at h
  · rename_i hs
    split at h
    · cases h
    · rename_i g
      obtain ⟨LS, h1, h2, h3, h4⟩ := script_lines hs l noT s hc h
      have e : noT ++ ba (flat LS) = ba (flat LS) := by
        apply ByteArray.ext
        simp [noT, ByteArray.data_append]
      rw [e] at h1
      have hlen : LS.length = l.length := by have := congrArg List.length h3; simpa using this
      unfold parseT
      rw [if_pos hs, h1, list_ba, finT_flat LS h2 (by omega) (by omega)]
      rw [if_pos rfl, parV_back t _ LS l [] h3 (by simp; omega)]
      rfl
  · cases h
theorem scrV_no (t : S33) : ∀ (l : List SC) (acc : ByteArray), (scrV t l acc).2 = false → (scrV t l acc).1 = noT
  | [], acc, h => by rw [scrV] at h; cases h
  | c :: l, acc, h => by
    rw [scrV] at h ⊢
    cases hv : cmdV t c with
    | none => rfl
    | some x => rw [hv] at h; exact scrV_no t l _ h
theorem prV_no {t : S33} {l : List SC} (h : (prV t l).2 = false) : (prV t l).1 = noT := by
  unfold prV at h ⊢
  split
  · rename_i hs
    rw [if_pos hs] at h
    split
    · rfl
    · rename_i g
      rw [if_neg g] at h
      exact scrV_no t l _ h
  · rfl
theorem pure_FnScriptRound : ∀ (x0 : List Int), Fits (.sl (.int .u8)) x0 → ∃ k, laws_FnScriptRound.c.fn k (x0, ()) () = some true := by
  intro code hf
  refine Ev.get (g := fun k => laws_FnScriptRound.f k code) ?_
  unfold laws_FnScriptRound.f
  simp only [laws_big.f, Option.bind_some, decide_eq_true_eq, lenZ_eq]
  refine Ev.ite_both (fun _ => Ev.ret _) fun h => ?_
  obtain ⟨⟨t, l⟩, hd, hq⟩ := drawPrint_out code (by omega)
  obtain ⟨hs, hnm, hl⟩ := hq
  have hs : Small t := hs
  have hl : Cmds l 330 := hl
  have hlen := hl.len
  refine Ev.bind hd (Ev.bind (specPr t hs hnm l) (Ev.bind (implPr t hs hnm l) ?_))
  refine Ev.ite_pos (beq_self_eq_true _) (Ev.ite_pos rfl (Ev.ite_both (fun ok => ?_) fun no => ?_))
  · have hb : parseT t (prV t l).1 = (l, 0, 0) := back hl.ok (Prod.ext rfl ok)
    refine Ev.bind ((implPs t hs hnm (prV t l).1).cast hb) (Ev.ite_pos rfl (Ev.ite_pos rfl (Ev.ite_pos rfl ?_)))
    have := Ev.all l z85 (fun _ => true) (fun k i => laws_FnScriptRound.l28 k i l l) true (fun _ => Ev.step (by simp only [laws_FnScriptRound.l28]; exact Ev.ite_neg (by omega) (Ev.ret _))) (fun i hi v hv => Ev.step (by
      simp only [laws_FnScriptRound.l28, wrap_succ hi (by omega), if_true, Bool.true_and]
      exact Ev.ite_pos (lt_in hi) (Ev.ite_pos ge_0 (Ev.ite_pos (lt_in hi) (Ev.ite_pos ge_0 (Ev.ite_pos (lt_in hi) hv)))))) (fun _ _ h => by cases h)
    exact Ev.cast this (by simp [List.all_eq_true])
  · have := prV_no (t := t) (l := l) (by simpa using no)
    exact (Ev.ret _).cast (by rw [this]; exact decide_eq_true rfl)
end Go.Proofs.YtcjfheidmlcbfaaGreatDoor.PSr
