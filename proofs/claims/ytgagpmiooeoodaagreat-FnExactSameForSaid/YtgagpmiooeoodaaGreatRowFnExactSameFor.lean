/- For every argument FnExactSameFor returns true, and each argument reads behind the call as it read before. No condition. -/
import Derived.Test.YtgagpmiooeoodaaGreatRows
import Derived.Test.YtgagpmiooeoodaaGreatV12
import Derived.Test.YtgagpmiooeoodaaGreatQTwox5
import Derived.Test.YtgagpmiooeoodaaGreatPureFnExactSameFor
import Derived.WalkKit
import Derived.ProofKit
import Derived.OpenShut
import Derived.ShutString
import Derived.ChangeOld
import Derived.Below
import Derived.SizedLaws
namespace Go.Proofs.YtgagpmiooeoodaaGreat.fnExactSameFor
open Go.ChangeShapes Go.WideShapes Go.ChangeAt Go.RowKit Go.Proofs.YtgagpmiooeoodaaGreat.V Go.Proofs.YtgagpmiooeoodaaGreat.PTwo
set_option linter.unusedVariables false
theorem own : ownKnob Tryz.prog.godebug = none := by kernel_rfl
theorem laidOut : laidOutB Tryz.prog = true := by kernel_rfl
set_option maxRecDepth 100000 in
theorem lifted (os : Os) (started : os.Started) (H : Type) (enc : TypeId × Value → H) :
    ReturnsInHanded {} Tryz.checked os 11 .any (Rows.fnExactSameForSpec.pre6 enc Tryz.prog Tryz.f11 Rows.fnExactSameForRow.domain false) (Rows.fnExactSameForSpec.post enc Tryz.prog Tryz.f11 false true false false) := by
  refine returnsInHanded_of_change_sized (C := Tryz.checked) own started (by kernel_rfl) Tryz.func11
    (ChangeSpec.witness6 (enc := enc) (C := Tryz.checked) false ⟨#[], #[.agg #[.int .i64 0, .int .i64 0, .int .i64 0, .int .i64 0, .int .i64 0, .int .i64 0, .int .i64 0, .int .i64 0, .int .i64 0, .int .i64 0, .int .i64 0, .int .i64 0, .int .i64 0, .int .i64 0, .int .i64 0, .slice none 0 0, .slice none 0 0, .slice none 0 0, .slice none 0 0], .int .i64 0, .slice none 0 0, .slice none 0 0, .slice none 0 0, .slice none 0 0], []⟩ 8 (by kernel_rfl) (by kernel_rfl) (by kernel_rfl) (by kernel_rfl)) ?_
  intro W base args ds gs before hval0 hW hcnd hsz0 _
  have hval : ∀ (j : Nat) t v, Tryz.f11.params[j]? = some t → args[j]? = some v → Value.okWide Tryz.prog W .any base t v := hval0
  have hW' := hW
  obtain ⟨p, q, hA0, hV, rfl, hfz, hnd⟩ := hW
  have hA : DataW.TrodAll enc Tryz.prog W 0 (fun _ => true) true Tryz.f11.params.toList args.toList ds p := hA0
  rw [Tryz.params11] at hA hval
  obtain ⟨v0, vs0, d0, ds0, p0, q0, hargs, rfl, rfl, h0, r0⟩ := trodAll_cons hA
  obtain ⟨v1, vs1, d1, ds1, p1, q1, rfl, rfl, rfl, h1, r1⟩ := trodAll_cons r0
  obtain ⟨v2, vs2, d2, ds2, p2, q2, rfl, rfl, rfl, h2, r2⟩ := trodAll_cons r1
  obtain ⟨v3, vs3, d3, ds3, p3, q3, rfl, rfl, rfl, h3, r3⟩ := trodAll_cons r2
  obtain ⟨v4, vs4, d4, ds4, p4, q4, rfl, rfl, rfl, h4, r4⟩ := trodAll_cons r3
  obtain ⟨v5, vs5, d5, ds5, p5, q5, rfl, rfl, rfl, h5, r5⟩ := trodAll_cons r4
  obtain ⟨rfl, rfl, rfl⟩ := trodAll_nil r5
  obtain rfl : args = #[v0, v1, v2, v3, v4, v5] := by cases args; simp_all
  obtain ⟨rfl, rfl⟩ := trodVars_none hV
  have k0 := h0
  have lt0 : ∀ x ∈ p0, x.block < W.heap.size := by obtain ⟨m, hm⟩ := k0; exact DataW.trod_lt m _ _ _ hm
  obtain ⟨x0, hR0, g0⟩ := opened (d := T31) 60 (by kernel_rfl) h0
  have a0 := arg_struct Tryz.underlying31 (hval 0 31 v0 rfl rfl) hR0
  have k1 := h1
  have lt1 : ∀ x ∈ p1, x.block < W.heap.size := by obtain ⟨m, hm⟩ := k1; exact DataW.trod_lt m _ _ _ hm
  obtain ⟨x1, hR1, g1⟩ := opened (d := (.int .i64)) 60 (by kernel_rfl) h1
  obtain ⟨z1a, rfl⟩ := okWide_int Tryz.underlying3 (hval 1 3 v1 rfl rfl)
  have a1 := arg_one rfl rfl hR1
  have k2 := h2
  have lt2 : ∀ x ∈ p2, x.block < W.heap.size := by obtain ⟨m, hm⟩ := k2; exact DataW.trod_lt m _ _ _ hm
  obtain ⟨x2, hR2, g2⟩ := opened (d := (.sl (.sl (.sl (.int .u8))))) 60 (by kernel_rfl) h2
  obtain ⟨z2a, z2b, z2c, rfl⟩ := okWide_slice Tryz.underlying49 (hval 2 49 v2 rfl rfl)
  have a2 := arg_one rfl rfl hR2
  have k3 := h3
  have lt3 : ∀ x ∈ p3, x.block < W.heap.size := by obtain ⟨m, hm⟩ := k3; exact DataW.trod_lt m _ _ _ hm
  obtain ⟨x3, hR3, g3⟩ := opened (d := (.sl T146)) 60 (by kernel_rfl) h3
  obtain ⟨z3a, z3b, z3c, rfl⟩ := okWide_slice Tryz.underlying79 (hval 3 79 v3 rfl rfl)
  have a3 := arg_one rfl rfl hR3
  have k4 := h4
  have lt4 : ∀ x ∈ p4, x.block < W.heap.size := by obtain ⟨m, hm⟩ := k4; exact DataW.trod_lt m _ _ _ hm
  obtain ⟨x4, hR4, g4⟩ := opened (d := (.sl (.sl (.sl (.int .u8))))) 60 (by kernel_rfl) h4
  obtain ⟨z4a, z4b, z4c, rfl⟩ := okWide_slice Tryz.underlying49 (hval 4 49 v4 rfl rfl)
  have a4 := arg_one rfl rfl hR4
  have k5 := h5
  have lt5 : ∀ x ∈ p5, x.block < W.heap.size := by obtain ⟨m, hm⟩ := k5; exact DataW.trod_lt m _ _ _ hm
  obtain ⟨x5, hR5, g5⟩ := opened (d := (.sl T146)) 60 (by kernel_rfl) h5
  obtain ⟨z5a, z5b, z5c, rfl⟩ := okWide_slice Tryz.underlying79 (hval 5 79 v5 rfl rfl)
  have a5 := arg_one rfl rfl hR5
  obtain ⟨k, hp⟩ := pure_FnExactSameFor x0 x1 x2 x3 x4 x5 g0 g1 g2 g3 g4 g5
  clear hA0 hval0 hsz0
  refine ((laws_FnExactSameFor.ok k (x0, x1, x2, x3, x4, x5, ()) () true hp).2 (rowCx W) #[v0, _, _, _, _, _] (rowCx_r W) rfl rfl (al_cons a0 (al_cons a1 (al_cons a2 (al_cons a3 (al_cons a4 (al_cons a5 al_nil))))))).mono fun e W' he => ?_
  obtain ⟨u, C1, rfl, rfl, _, hcon, _, hu⟩ := he
  have bel := row_below hcon
  obtain rfl : u = .bool true := hu
  exact ⟨_, rfl, _, _, _, [], _, [], hW', trodAll_mk1 (shut_bool Tryz.underlying4 _), (trodAll_cons_mk (Below.trod laidOut (by kernel_rfl) (of_decide_eq_true (by kernel_rfl)) k0 bel lt0) (trodAll_cons_mk (Below.trod laidOut (by kernel_rfl) (of_decide_eq_true (by kernel_rfl)) k1 bel lt1) (trodAll_cons_mk (Below.trod laidOut (by kernel_rfl) (of_decide_eq_true (by kernel_rfl)) k2 bel lt2) (trodAll_cons_mk (Below.trod laidOut (by kernel_rfl) (of_decide_eq_true (by kernel_rfl)) k3 bel lt3) (trodAll_cons_mk (Below.trod laidOut (by kernel_rfl) (of_decide_eq_true (by kernel_rfl)) k4 bel lt4) (trodAll_cons_mk (Below.trod laidOut (by kernel_rfl) (of_decide_eq_true (by kernel_rfl)) k5 bel lt5) trodAll_mk0)))))), rfl, bel.frame _, fun h => by cases h⟩
theorem andI {a b : Bool} (h : a = true) (h' : b = true) : (a && b) = true := by rw [h, h']; rfl
set_option maxRecDepth 100000 in
set_option maxHeartbeats 4000000 in
theorem facts : joinedFacts Tryz.pinned.checked.prog 11 Tryz.f11 Rows.fnExactSameForSpec Rows.fnExactSameForRow = true := by
  unfold joinedFacts
  refine (andI (andI (andI (andI (andI (andI (andI (andI (andI (andI (andI (andI (andI (andI (andI (andI (andI (andI (andI (andI (andI (andI (andI (andI (andI (andI (andI (andI (andI (andI (andI ?_ ?_) ?_) ?_) ?_) ?_) ?_) ?_) ?_) ?_) ?_) ?_) ?_) ?_) ?_) ?_) ?_) ?_) ?_) ?_) ?_) ?_) ?_) ?_) ?_) ?_) ?_) ?_) ?_) ?_) ?_) ?_)
  all_goals (as_aux_lemma => kernel_rfl)
theorem over : Rows.fnExactSameForRow.holds Tryz.pinned (OpenSpec.ofChange Rows.fnExactSameForSpec) :=
  OpenClaim.holds_of_wide 11 Tryz.f11 rfl rfl rfl rfl rfl rfl rfl ⟨rfl, rfl, rfl, rfl, rfl⟩ rfl rfl rfl rfl rfl (by kernel_rfl) Tryz.func11 facts
    (of_decide_eq_true (by kernel_rfl)) (by unfold Func.isWrapper; first | (rw [if_pos (by decide +kernel)]; kernel_rfl) | (rw [if_neg (by decide +kernel)]; exact ⟨rfl, rfl⟩))
    (fun os started H enc _ => lifted os started H enc)
theorem proved : Rows.FnExactSameForSaid := over
end Go.Proofs.YtgagpmiooeoodaaGreat.fnExactSameFor
namespace Go.Proofs.YtgagpmiooeoodaaGreat
/-- The row, under a short name, for the claim. -/
theorem fnExactSameFor_holds : Rows.FnExactSameForSaid := fnExactSameFor.proved
#print axioms fnExactSameFor_holds
end Go.Proofs.YtgagpmiooeoodaaGreat
