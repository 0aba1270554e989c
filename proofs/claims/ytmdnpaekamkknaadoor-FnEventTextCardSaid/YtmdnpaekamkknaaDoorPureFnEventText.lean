/- The text of a drawn event comes back as it: the printed law answers true. -/
import Derived.Test.YtmdnpaekamkknaaDoorT7
set_option linter.unusedVariables false
set_option linter.unusedSimpArgs false
set_option linter.unusedSectionVars false
namespace Go.Proofs.YtmdnpaekamkknaaDoor.PEo
open Go Go.RowKit Go.Proofs.YtmdnpaekamkknaaDoor.V Go.Proofs.YtmdnpaekamkknaaDoor.C

/-! ### What is written holds no blank -/
theorem digits_free : ∀ u : Nat, (32 : UInt8) ∉ Lib.decDigits u := by
  intro u
  induction u using Nat.strongRecOn with
  | _ u ih =>
    have hd : ∀ d, d < 10 → (32 : UInt8) ≠ UInt8.ofNat (48 + d) := fun d h e => by
      have := congrArg UInt8.toNat e
      rw [dig_nat d h] at this
      have h32 : (32 : UInt8).toNat = 32 := rfl
      omega
    by_cases h : u < 10
    · rw [Lib.decDigits_one h]
      simp only [List.mem_singleton]
      exact hd u h
    · rw [Lib.decDigits, dif_neg h, List.mem_append]
      rintro (h' | h')
      · exact ih (u / 10) (by omega) h'
      · simp only [List.mem_singleton] at h'
        exact hd _ (Nat.mod_lt _ (by omega)) h'
theorem itoa_free (v : Int) : (32 : UInt8) ∉ Lib.itoa v := by
  unfold Lib.itoa
  split
  · intro h
    rcases List.mem_cons.1 h with h | h
    · cases h
    · exact digits_free _ h
  · exact digits_free _
theorem HD_free (x : Nat) : ∀ j, (32 : UInt8) ∉ HD x j
  | 0 => by simp [HD]
  | j + 1 => by
    have key : ∀ d : Fin 16, (32 : UInt8) ≠ hexd d.1 := by decide +kernel
    intro h
    rcases List.mem_cons.1 h with h | h
    · exact key ⟨x / 16 ^ j % 16, Nat.mod_lt _ (by omega)⟩ h
    · exact HD_free x j h
theorem names_in : ∀ m : Fin 33, opNameF (m.1 : Int) = some (opNs.getD m.1 ByteArray.empty) ∧ opV (opNs.getD m.1 ByteArray.empty) = m.1 ∧ (opNs.getD m.1 ByteArray.empty).data.toList.contains 32 = false ∧ opNs.getD m.1 ByteArray.empty ≠ ByteArray.mk #[] := by
  have h : ∀ m : Fin 33, (decide (opNameF (m.1 : Int) = some (opNs.getD m.1 ByteArray.empty)) && decide (opV (opNs.getD m.1 ByteArray.empty) = m.1) && decide ((opNs.getD m.1 ByteArray.empty).data.toList.contains 32 = false) && decide (opNs.getD m.1 ByteArray.empty ≠ ByteArray.mk #[])) = true := by decide +kernel
  intro m
  have := h m
  simp only [Bool.and_eq_true, decide_eq_true_eq] at this
  exact ⟨this.1.1.1, this.1.1.2, this.1.2, this.2⟩
theorem dash : opV (ByteArray.mk #[45]) = -1 := by decide +kernel
theorem hv_HDs (x : Nat) : ∀ j acc, hv acc (HD x j) = some (acc * 16 ^ j + x % 16 ^ j)
  | 0, acc => by simp [HD, hv, Nat.mod_one]
  | j + 1, acc => by
    have hdd := hdig_B ⟨x / 16 ^ j % 16, Nat.mod_lt _ (by omega)⟩
    simp only at hdd
    rw [HD, hv, hdd]
    show hv (acc * 16 + x / 16 ^ j % 16) (HD x j) = _
    rw [hv_HDs x j]
    congr 1
    have h1 : x % 16 ^ (j + 1) = x % 16 ^ j + 16 ^ j * (x / 16 ^ j % 16) := by rw [Nat.pow_succ, Nat.mod_mul]
    rw [h1, Nat.pow_succ, Nat.add_mul, Nat.mul_comm (x / 16 ^ j % 16) (16 ^ j), Nat.mul_assoc, Nat.mul_comm 16 (16 ^ j)]
    omega
theorem hexR_HD (x : Nat) (h : x < 4294967296) : hexR (ba (HD x 8)) = ((x : Int), true) := by
  unfold hexR
  rw [if_pos (by rw [ba_size, HD_len]), list_ba, hv_HDs]
  have : x % 16 ^ 8 = x := Nat.mod_eq_of_lt h
  rw [this]
  simp

/-- What is written for an op. -/
theorem op_word (n : Int) (h0 : -2 ≤ n) (h1 : n ≤ 99) : ∃ o w, spec_OpName.f n = some o ∧ impl_OpName.f n = some o ∧ o.size ≤ 5 ∧ (if o = ByteArray.mk #[] then ByteArray.mk #[45] else o) = ba w ∧ (32 : UInt8) ∉ w ∧ ((0 ≤ n ∧ n ≤ 32 ∧ opV (ba w) = n) ∨ (¬ (0 ≤ n ∧ n ≤ 32) ∧ ba w = ByteArray.mk #[45])) := by
  obtain ⟨o, o1, o2, o3⟩ := opName_both n
  by_cases h : 0 ≤ n ∧ n ≤ 32
  · obtain ⟨m, rfl⟩ := Int.eq_ofNat_of_zero_le h.1
    obtain ⟨k1, k2, k3, k4⟩ := names_in ⟨m, by omega⟩
    simp only at k1 k2 k3 k4
    rw [k1] at o2
    cases o2
    refine ⟨_, (opNs.getD m ByteArray.empty).data.toList, o1, k1, o3, ?_, ?_, .inl ⟨h.1, h.2, ?_⟩⟩
    · rw [if_neg k4, ba_list]
    · intro hm
      rw [List.contains_iff_mem.2 hm] at k3
      cases k3
    · rw [ba_list]; exact k2
  · have e : o = ByteArray.mk #[] := by
      unfold opNameF at o2
      split at o2
      · rename_i h0
        rw [if_neg (fun h1 => h ⟨h0, h1⟩)] at o2; exact (Option.some.inj o2).symm
      · exact (Option.some.inj o2).symm
    subst e
    exact ⟨_, [45], o1, o2, o3, by rw [if_pos rfl]; rfl, by decide, .inr ⟨h, rfl⟩⟩

theorem spl_txt (a b h o c d g : List UInt8) (ha : (32 : UInt8) ∉ a) (hb : (32 : UInt8) ∉ b) (hh : (32 : UInt8) ∉ h) (ho : (32 : UInt8) ∉ o) (hc : (32 : UInt8) ∉ c) (hd : (32 : UInt8) ∉ d) (hg : (32 : UInt8) ∉ g) :
    spl 32 (txt (ba o) (ba a) (ba b) (ba h) (ba c) (ba d) (ba g)).data.toList = [a, b, h, o, c, d, g] := by
  have e32 : (ByteArray.mk #[32]) = ba [32] := rfl
  have e : txt (ba o) (ba a) (ba b) (ba h) (ba c) (ba d) (ba g) = ba (a ++ 32 :: (b ++ 32 :: (h ++ 32 :: (o ++ 32 :: (c ++ 32 :: (d ++ 32 :: g)))))) := by
    unfold txt
    simp only [e32, ba_app]
    simp
  rw [e, list_ba, spl_app _ _ _ ha, spl_app _ _ _ hb, spl_app _ _ _ hh, spl_app _ _ _ ho, spl_app _ _ _ hc, spl_app _ _ _ hd, spl_free _ _ hg]

/-- What the words of a written event read as. -/
theorem evI_txt (a b c d : Int) (x z : Nat) (w : List UInt8) (hx : x < 4294967296) (hz : z < 4294967296) :
    evI [ba (Lib.itoa a), ba (Lib.itoa b), ba (HD x 8), ba w, ba (Lib.itoa c), ba (Lib.itoa d), ba (HD z 8)] =
      (if (numsI [] [ba (Lib.itoa a), ba (Lib.itoa b), ba (Lib.itoa c), ba (Lib.itoa d)]).2 = true then (if opV (ba w) < 0 then (if ba w = ByteArray.mk #[45] then (evR (numsI [] [ba (Lib.itoa a), ba (Lib.itoa b), ba (Lib.itoa c), ba (Lib.itoa d)]).1 x (opV (ba w)) z, true) else (zEv, false)) else (evR (numsI [] [ba (Lib.itoa a), ba (Lib.itoa b), ba (Lib.itoa c), ba (Lib.itoa d)]).1 x (opV (ba w)) z, true)) else (zEv, false)) := by
  unfold evI
  rw [if_pos (show [ba (Lib.itoa a), ba (Lib.itoa b), ba (HD x 8), ba w, ba (Lib.itoa c), ba (Lib.itoa d), ba (HD z 8)].length = 7 from rfl)]
  simp only [List.getD_cons_zero, List.getD_cons_succ, hexR_HD x hx, hexR_HD z hz, if_true]
theorem nums_out (a b c d : Int) (h : (numsI [] [ba (Lib.itoa a), ba (Lib.itoa b), ba (Lib.itoa c), ba (Lib.itoa d)]).2 = true) (hb : ∀ v, v = a ∨ v = b ∨ v = c ∨ v = d → -9223372036854775808 ≤ v ∧ v ≤ 9223372036854775807) :
    ∀ v, v = a ∨ v = b ∨ v = c ∨ v = d → -1000000 ≤ v ∧ v ≤ 1000000 := by
  obtain ⟨q0, hq⟩ := nums_same [ba (Lib.itoa a), ba (Lib.itoa b), ba (Lib.itoa c), ba (Lib.itoa d)] []
  have hd := (hq (q0.trans h)).2.2
  intro v hv
  have hm : ba (Lib.itoa v) ∈ [ba (Lib.itoa a), ba (Lib.itoa b), ba (Lib.itoa c), ba (Lib.itoa d)] := by
    rcases hv with rfl | rfl | rfl | rfl <;> simp
  have h1 := hd _ hm
  obtain ⟨l1, l2⟩ := hb v hv
  rcases decR_cases (ba (Lib.itoa v)) 1000000 (by omega) (by omega) with ⟨u, u0, u1, e, _⟩ | ⟨_, e⟩
  · have e := congrArg Lib.atoiAll (ba_inj e)
    rw [atoi_itoa v l1 l2, atoi_itoa u (by omega) (by omega)] at e
    cases e
    exact ⟨u0, u1⟩
  · rw [e] at h1; cases h1
theorem nums_in (a b c d : Int) (ha : -1000000 ≤ a ∧ a ≤ 1000000) (hb : -1000000 ≤ b ∧ b ≤ 1000000) (hc : -1000000 ≤ c ∧ c ≤ 1000000) (hd : -1000000 ≤ d ∧ d ≤ 1000000) :
    numsI [] [ba (Lib.itoa a), ba (Lib.itoa b), ba (Lib.itoa c), ba (Lib.itoa d)] = ([a, b, c, d], true) := by
  simp [numsI, decR_itoa a 1000000 ha.1 ha.2 (by omega) (by omega), decR_itoa b 1000000 hb.1 hb.2 (by omega) (by omega), decR_itoa c 1000000 hc.1 hc.2 (by omega) (by omega), decR_itoa d 1000000 hd.1 hd.2 (by omega) (by omega)]

theorem text_both (e : SEv) (q : EvQ e) : ∃ w, (32 : UInt8) ∉ w ∧ ((0 ≤ e.f3 ∧ e.f3 ≤ 32 ∧ opV (ba w) = e.f3) ∨ (¬ (0 ≤ e.f3 ∧ e.f3 ≤ 32) ∧ ba w = ByteArray.mk #[45])) ∧
    Ev (fun k => spec_EventText.f k e) (txt (ba w) (ba (Lib.itoa e.f0)) (ba (Lib.itoa e.f1)) (ba (HD e.f2.toNat 8)) (ba (Lib.itoa e.f4)) (ba (Lib.itoa e.f5)) (ba (HD e.f6.toNat 8))) ∧
    Ev (fun k => impl_EventText.f k e) (txt (ba w) (ba (Lib.itoa e.f0)) (ba (Lib.itoa e.f1)) (ba (HD e.f2.toNat 8)) (ba (Lib.itoa e.f4)) (ba (Lib.itoa e.f5)) (ba (HD e.f6.toNat 8))) ∧
    (txt (ba w) (ba (Lib.itoa e.f0)) (ba (Lib.itoa e.f1)) (ba (HD e.f2.toNat 8)) (ba (Lib.itoa e.f4)) (ba (Lib.itoa e.f5)) (ba (HD e.f6.toNat 8))).size ≤ 1000 := by
  obtain ⟨f0, f1, f2, f3, f4, f5, f6⟩ := q
  obtain ⟨o, w, o1, o2, o3, o4, o5, o6⟩ := op_word e.f3 f3.1 f3.2
  obtain ⟨K0, d0⟩ := dec_ev e.f0 (by omega) (by omega)
  obtain ⟨K1, d1⟩ := dec_ev e.f1 (by omega) (by omega)
  obtain ⟨K4, d4⟩ := dec_ev e.f4 (by omega) (by omega)
  obtain ⟨K5, d5⟩ := dec_ev e.f5 (by omega) (by omega)
  obtain ⟨K2, d2⟩ := hexS_ev e.f2 f2.1 f2.2
  obtain ⟨K6, d6⟩ := hexS_ev e.f6 f6.1 f6.2
  obtain ⟨L2, e2⟩ := hexI_ev e.f2 f2.1 f2.2
  obtain ⟨L6, e6⟩ := hexI_ev e.f6 f6.1 f6.2
  have i0 := itoa_some e.f0 (by omega) (by omega)
  have i1 := itoa_some e.f1 (by omega) (by omega)
  have i4 := itoa_some e.f4 (by omega) (by omega)
  have i5 := itoa_some e.f5 (by omega) (by omega)
  have hs : ∀ x : Nat, (ba (HD x 8)).size ≤ 30 := fun x => by rw [ba_size, HD_len]; omega
  refine ⟨w, o5, o6, ⟨K0 + K1 + K4 + K5 + K2 + K6, fun k hk => ?_⟩, ⟨L2 + L6, fun k hk => ?_⟩, ?_⟩
  · have := spec_text k e o1 (d0 k (by omega)) (d1 k (by omega)) (d2 k (by omega)) (d4 k (by omega)) (d5 k (by omega)) (d6 k (by omega)) (by omega) (by omega) (by omega) (hs _) (by omega) (by omega) (hs _)
    show spec_EventText.f k e = _
    rw [this, o4]
  · have := impl_text k e o2 i0.1 i1.1 (e2 k (by omega)) i4.1 i5.1 (e6 k (by omega)) (by omega) (by omega) (by omega) (hs _) (by omega) (by omega) (hs _)
    show impl_EventText.f k e = _
    unfold impl_EventText.f
    rw [this, o4]
    rfl
  · have hw : (ba w).size ≤ 5 := by
      rw [← o4]
      split
      · decide
      · exact o3
    have h2 := hs e.f2.toNat
    have h6 := hs e.f6.toNat
    unfold txt
    simp only [ByteArray.size_append, sz32]
    omega

theorem pure_FnEventText (code : List Int) (hf : Fits (.sl (.int .u8)) code) : ∃ k, laws_FnEventText.c.fn k (code, ()) () = some true := by
  refine Ev.get (g := fun k => laws_FnEventText.f k code) ?_
  unfold laws_FnEventText.f laws_big.f
  simp only [Option.bind_some, decide_eq_true_eq]
  refine Ev.ite_both (fun _ => Ev.ret _) fun hbig => ?_
  obtain ⟨e, he, q⟩ := draw_out code (by omega)
  obtain ⟨w, w1, w2, hs, hi, hz⟩ := text_both e q
  refine Ev.bind he (Ev.bind hi ?_)
  refine Ev.bind (eventI_ev _ (by omega)) (Ev.bind hs ?_)
  obtain ⟨f0, f1, f2, f3, f4, f5, f6⟩ := q
  rw [spl_txt _ _ _ _ _ _ _ (itoa_free _) (itoa_free _) (HD_free _ _) w1 (itoa_free _) (itoa_free _) (HD_free _ _)]
  simp only [List.map_cons, List.map_nil]
  rw [evI_txt _ _ _ _ _ _ _ (by omega) (by omega)]
  refine Ev.ite_pos trivial ?_
  have hbnd : ∀ v, v = e.f0 ∨ v = e.f1 ∨ v = e.f4 ∨ v = e.f5 → -9223372036854775808 ≤ v ∧ v ≤ 9223372036854775807 := by
    rintro v (rfl | rfl | rfl | rfl) <;> omega
  -- a dash, or a name
  rcases w2 with ⟨n0, n1, n2⟩ | ⟨n0, n2⟩
  · refine Ev.ite_neg (by omega) (Ev.ite_neg (by omega) ?_)
    have hop : ¬ e.f3 < 0 := by omega
    simp only [n2, if_neg hop]
    by_cases hr : (-1000000 ≤ e.f0 ∧ e.f0 ≤ 1000000) ∧ e.f4 ≤ 1000000
    · rw [nums_in e.f0 e.f1 e.f4 e.f5 hr.1 (by omega) (by omega) (by omega)]
      simp only [if_true]
      refine Ev.ite_neg (by omega) (Ev.ite_neg (by omega) (Ev.ite_neg (by omega) ?_))
      refine (Ev.ret _).cast ?_
      have x2 : ((e.f2.toNat : Nat) : Int) = e.f2 := by omega
      have x6 : ((e.f6.toNat : Nat) : Int) = e.f6 := by omega
      rw [x2, x6]
      simp [evR]
    · have hno : ¬ (numsI [] [ba (Lib.itoa e.f0), ba (Lib.itoa e.f1), ba (Lib.itoa e.f4), ba (Lib.itoa e.f5)]).2 = true := fun h => by
        have := nums_out _ _ _ _ h hbnd
        have h0 := this e.f0 (.inl rfl)
        have h4 := this e.f4 (.inr (.inr (.inl rfl)))
        omega
      simp only [if_neg hno]
      refine Ev.ite_both (fun _ => (Ev.ret _).cast rfl) fun a => Ev.ite_both (fun _ => (Ev.ret _).cast rfl) fun b => Ev.ite_both (fun _ => (Ev.ret _).cast rfl) fun c => ?_
      omega
  · have hop : opV (ba w) = -1 := by rw [n2]; exact dash
    have hop' : opV (ba w) < 0 := by omega
    simp only [if_pos hop', if_pos n2, hop]
    by_cases hq : (numsI [] [ba (Lib.itoa e.f0), ba (Lib.itoa e.f1), ba (Lib.itoa e.f4), ba (Lib.itoa e.f5)]).2 = true
    · have hin := nums_out _ _ _ _ hq hbnd
      have h0 := hin e.f0 (.inl rfl)
      have h4 := hin e.f4 (.inr (.inr (.inl rfl)))
      rw [nums_in e.f0 e.f1 e.f4 e.f5 h0 (by omega) h4 (by omega)]
      simp only [if_true]
      refine Ev.ite_both (fun _ => (Ev.ret _).cast rfl) fun a => Ev.ite_both (fun _ => (Ev.ret _).cast rfl) fun b => ?_
      refine Ev.ite_neg (by omega) (Ev.ite_neg (by omega) (Ev.ite_neg (by omega) ?_))
      refine (Ev.ret _).cast ?_
      have x2 : ((e.f2.toNat : Nat) : Int) = e.f2 := by omega
      have x6 : ((e.f6.toNat : Nat) : Int) = e.f6 := by omega
      have x3 : (-1 : Int) = e.f3 := by omega
      rw [x2, x6, x3]
      simp [evR]
    · simp only [if_neg hq]
      refine Ev.ite_both (fun _ => (Ev.ret _).cast rfl) fun a => Ev.ite_both (fun _ => (Ev.ret _).cast rfl) fun b => Ev.ite_both (fun _ => (Ev.ret _).cast rfl) fun c => Ev.ite_both (fun _ => (Ev.ret _).cast rfl) fun d => Ev.ite_both (fun _ => (Ev.ret _).cast rfl) fun g => ?_
      exfalso
      apply hq
      rw [nums_in e.f0 e.f1 e.f4 e.f5 (by omega) (by omega) (by omega) (by omega)]
end Go.Proofs.YtmdnpaekamkknaaDoor.PEo
