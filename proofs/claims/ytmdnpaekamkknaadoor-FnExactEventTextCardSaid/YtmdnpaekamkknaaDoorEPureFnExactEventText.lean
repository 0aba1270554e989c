/- Plain Lean over the printed functions: both models write the same text of an event; and so the law's function answers true. -/
import Derived.Test.YtmdnpaekamkknaaDoorET2
import Derived.Lib.ItoaLen
set_option linter.unusedVariables false
set_option linter.unusedSimpArgs false
set_option linter.unusedSectionVars false
namespace Go.Proofs.YtmdnpaekamkknaaDoor.PEt
open Go Go.RowKit Go.Proofs.YtmdnpaekamkknaaDoor.V Go.Proofs.YtmdnpaekamkknaaDoor.C

theorem itoa_some (n : Int) (h0 : -9223372036854775808 ≤ n) (h1 : n ≤ 9223372036854775807) : impl_DecText.f n = some (ba (Lib.itoa n)) ∧ (ba (Lib.itoa n)).size ≤ 21 := by
  refine ⟨?_, by rw [ba_size]; exact Lib.itoa_length_le n h0 h1⟩
  unfold impl_DecText.f strconv_Itoa.f itoaF
  rw [if_pos h0, if_pos h1]
  rfl
def sp : ByteArray := ByteArray.mk #[32]
def txt (o a b h c d g : ByteArray) : ByteArray := (((((((((((a ++ ByteArray.mk #[32]) ++ b) ++ ByteArray.mk #[32]) ++ h) ++ ByteArray.mk #[32]) ++ o) ++ ByteArray.mk #[32]) ++ c) ++ ByteArray.mk #[32]) ++ d) ++ ByteArray.mk #[32]) ++ g
theorem sz32 : (ByteArray.mk #[32]).size = 1 := rfl
theorem sz45 : (ByteArray.mk #[45]).size = 1 := rfl
set_option maxHeartbeats 1000000 in
theorem spec_text (k : Nat) (e : S26) {o a b h c d g : ByteArray} (ho : spec_OpName.f e.f3 = some o) (ha : spec_DecText.f k e.f0 = some a) (hb : spec_DecText.f k e.f1 = some b) (hh : spec_HexWord.f k e.f2 = some h) (hc : spec_DecText.f k e.f4 = some c) (hd : spec_DecText.f k e.f5 = some d) (hg : spec_HexWord.f k e.f6 = some g)
    (so : o.size ≤ 30) (sa : a.size ≤ 30) (sb : b.size ≤ 30) (sh : h.size ≤ 30) (sc : c.size ≤ 30) (sd : d.size ≤ 30) (sg : g.size ≤ 30) : spec_EventText.f k e = some (txt (if o = ByteArray.mk #[] then ByteArray.mk #[45] else o) a b h c d g) := by
  unfold spec_EventText.f
  rw [ho]
  by_cases hz : o = ByteArray.mk #[]
  · simp only [Option.bind_some, if_pos hz, ha, hb, hh, hc, hd, hg]
    repeat rw [if_pos (by simp only [ByteArray.size_append, sz32, sz45]; omega)]
    rfl
  · simp only [Option.bind_some, if_neg hz, ha, hb, hh, hc, hd, hg]
    repeat rw [if_pos (by simp only [ByteArray.size_append, sz32, sz45]; omega)]
    rfl
set_option maxHeartbeats 1000000 in
theorem impl_text (k : Nat) (e : S26) {o a b h c d g : ByteArray} (ho : impl_OpName.f e.f3 = some o) (ha : impl_DecText.f e.f0 = some a) (hb : impl_DecText.f e.f1 = some b) (hh : impl_hexWord.f k e.f2 = some h) (hc : impl_DecText.f e.f4 = some c) (hd : impl_DecText.f e.f5 = some d) (hg : impl_hexWord.f k e.f6 = some g)
    (so : o.size ≤ 30) (sa : a.size ≤ 30) (sb : b.size ≤ 30) (sh : h.size ≤ 30) (sc : c.size ≤ 30) (sd : d.size ≤ 30) (sg : g.size ≤ 30) : impl_eventText.f k e = some (txt (if o = ByteArray.mk #[] then ByteArray.mk #[45] else o) a b h c d g) := by
  unfold impl_eventText.f
  rw [ho]
  by_cases hz : o = ByteArray.mk #[]
  · simp only [Option.bind_some, if_pos hz, ha, hb, hh, hc, hd, hg]
    repeat rw [if_pos (by simp only [ByteArray.size_append, sz32, sz45]; omega)]
    rfl
  · simp only [Option.bind_some, if_neg hz, ha, hb, hh, hc, hd, hg]
    repeat rw [if_pos (by simp only [ByteArray.size_append, sz32, sz45]; omega)]
    rfl
theorem i64 {n : Int} (h : (Lit.int .i64 n).wf = true) : -9223372036854775808 ≤ n ∧ n ≤ 9223372036854775807 := by
  simp only [Lit.wf, Bool.and_eq_true, decide_eq_true_eq] at h
  have e1 : IntKind.i64.min = -9223372036854775808 := rfl
  have e2 : IntKind.i64.max = 9223372036854775807 := rfl
  omega
theorem u32 {n : Int} (h : (Lit.int .u32 n).wf = true) : 0 ≤ n ∧ n < 4294967296 := by
  simp only [Lit.wf, Bool.and_eq_true, decide_eq_true_eq] at h
  have e1 : IntKind.u32.min = 0 := rfl
  have e2 : IntKind.u32.max = 4294967295 := rfl
  omega
theorem pure_FnExactEventText : ∀ (x0 : T24.den), Fits T24 x0 → ∃ k, laws_FnExactEventText.c.fn k (x0, ()) () = some true := by
  intro x hf
  obtain ⟨x0, x1, x2, x3, x4, x5, x6⟩ := x
  obtain ⟨f0, f1, f2, f3, f4, f5, f6⟩ := hf
  have f0 := i64 f0; have f1 := i64 f1; have f2 := u32 f2; have f4 := i64 f4; have f5 := i64 f5; have f6 := u32 f6
  obtain ⟨o, o1, o2, o3⟩ := opName_both x3
  obtain ⟨K0, d0⟩ := dec_ev x0 f0.1 f0.2
  obtain ⟨K1, d1⟩ := dec_ev x1 f1.1 f1.2
  obtain ⟨K4, d4⟩ := dec_ev x4 f4.1 f4.2
  obtain ⟨K5, d5⟩ := dec_ev x5 f5.1 f5.2
  obtain ⟨K2, d2⟩ := hexS_ev x2 f2.1 f2.2
  obtain ⟨K6, d6⟩ := hexS_ev x6 f6.1 f6.2
  obtain ⟨L2, e2⟩ := hexI_ev x2 f2.1 f2.2
  obtain ⟨L6, e6⟩ := hexI_ev x6 f6.1 f6.2
  have i0 := itoa_some x0 f0.1 f0.2
  have i1 := itoa_some x1 f1.1 f1.2
  have i4 := itoa_some x4 f4.1 f4.2
  have i5 := itoa_some x5 f5.1 f5.2
  have hs : ∀ x : Nat, (ba (HD x 8)).size ≤ 30 := fun x => by rw [ba_size, HD_len]; omega
  let k := K0 + K1 + K4 + K5 + K2 + K6 + L2 + L6
  refine ⟨k, ?_⟩
  show laws_FnExactEventText.f k (x0, x1, x2, x3, x4, x5, x6) = some true
  have hsp := spec_text k (x0, x1, x2, x3, x4, x5, x6) o1 (d0 k (by omega)) (d1 k (by omega)) (d2 k (by omega)) (d4 k (by omega)) (d5 k (by omega)) (d6 k (by omega)) (by omega) (by omega) (by omega) (hs _) (by omega) (by omega) (hs _)
  have him := impl_text k (x0, x1, x2, x3, x4, x5, x6) o2 i0.1 i1.1 (e2 k (by omega)) i4.1 i5.1 (e6 k (by omega)) (by omega) (by omega) (by omega) (hs _) (by omega) (by omega) (hs _)
  unfold laws_FnExactEventText.f laws_toEvent.f
  simp only [Option.bind_some]
  have hsp' : spec_EventText.f k (x0, x1, x2, x3, x4, x5, x6) = _ := hsp
  unfold impl_EventText.f
  erw [hsp, Option.bind_some, him]
  simp
end Go.Proofs.YtmdnpaekamkknaaDoor.PEt
