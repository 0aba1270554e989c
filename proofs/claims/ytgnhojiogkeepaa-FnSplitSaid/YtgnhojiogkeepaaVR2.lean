/- slices.Replace at []impl.Slot, walked: in place and in a new row. -/
import Derived.Test.YtgnhojiogkeepaaChecked
import Derived.Test.YtgnhojiogkeepaaVR1
import Derived.Deep.QuietTactic
import Derived.BigQuiet
import Derived.Deep.RegionLaw
set_option linter.unusedVariables false
set_option linter.unusedSimpArgs false
set_option linter.unusedSectionVars false
namespace Go.Proofs.Ytgnhojiogkeepaa.V
open Go Go.Proofs Go.RowKit Go.Lib Go.Shelf

/-- The world is another's, a count of draws apart. -/
def Like (w' w : World) : Prop := w'.heap = w.heap ∧ w'.os = w.os ∧ w'.tape = w.tape ∧ w'.output = w.output

section
variable {g off n cap i j m g' off' vc t : Nat} {cur1 cur2 cur3 : Array Value} {w w1 : World} {x y z : Value}

set_option maxHeartbeats 400000 in
set_option maxRecDepth 100000 in
/-- There is room, more is put in than goes, some stand behind. -/
theorem walk_shift (hij : i < j) (hmp : 0 < m) (hnc : n ≤ cap) (hmx : cap ≤ 9223372036854775807) (hj : j < n) (ht : i + m + (n - j) = t) (hroom : t ≤ cap) (hgt : j < i + m)
    (hov : ∀ q lb cb, (callFunc 112 #[.slice (some ⟨g, off + (i + m) * 3, none⟩) (t - (i + m)) lb, .slice (some (at_ g' off')) m cb]).run Try.prog (w.drewN q) = .ok (.value (.bool false)) (w.drewN q))
    (hcp1 : ∀ q ty dc sc, (Builtin.copy_ #[48, 48] ty #[.slice (some ⟨g, off + (i + m) * 3, none⟩) (t - (i + m)) dc, .slice (some ⟨g, off + j * 3, none⟩) (n - j) sc]).run Try.prog (w.drewN q) = .ok x ((w.drewN q).setRow g cur1))
    (hcp2 : ∀ q ty dc, (Builtin.copy_ #[48, 48] ty #[.slice (some ⟨g, off + i * 3, none⟩) (t - i) dc, .slice (some (at_ g' off')) m vc]).run Try.prog ((w.drewN q).setRow g cur1) = .ok y ((w.drewN q).setRow g cur2)) :
    Calls Try.prog 64 #[.slice (some (at_ g off)) n cap, .int .i64 i, .int .i64 j, .slice (some (at_ g' off')) m vc] w fun e w' =>
      e = .returned (.slice (some (at_ g off)) t cap) ∧ ∃ q, w' = (w.drewN q).setRow g cur2 := by
  have hz2 : ¬ ((j : Int) = (n : Int)) := by omega
  have hz3 : ¬ ((cap : Int) < (t : Int)) := by omega
  have hz4 : ¬ ((i : Int) + (m : Int) ≤ (j : Int)) := by omega
  have hb4 : ¬ (cap = i + m) := by omega
  have hz1 : ¬ ((i : Int) = (j : Int)) := by omega
  have hw0 : wrap64 ((i : Int) + (m : Int)) = ((i + m : Nat) : Int) := by unfold wrap64; omega
  have hw1 : (i : Int) + (m : Int) + ((n - j : Nat) : Int) = (t : Int) := by omega
  have hw2 : IntKind.i64.wrap ((i : Int) + (m : Int)) = (i : Int) + (m : Int) := by rw [IntKind.wrap_i64]; omega
  have hb1 : (0 : Int) ≤ (i : Int) + (m : Int) := by omega
  have hb2 : (i : Int) + (m : Int) ≤ (t : Int) := by omega
  have hb3 : ((i : Int) + (m : Int)).toNat = i + m := by omega
  have hb5 : ¬ (cap = j) := by omega
  have hb6 : ¬ (cap = i) := by omega
  have hb7 : j ≤ n := by omega
  have hb8 : i ≤ n := by omega
  have hb9 : i ≤ t := by omega
  have hb10 : i ≤ cap := by omega
  go_enter Try.func64, Try.ntmps64
  go_wp2
  go_quiet (fail)
  try simp only [hw1]
  go_wp2_with (simp only [hov])
  go_region_law (refine step_copy_runI rfl _ _ 48 48 rfl _ _ (by simp [Act.eval, Act.put]) (by simp [Act.eval, Act.put]) (hcp1 _ _ _ _) ?_)
  go_wp2_with (at_builtin; refine wpList_copy_runI _ rfl _ _ 48 48 rfl _ _ rfl rfl (hcp2 _ _ _) ?_)
  go_ret
  exact ⟨rfl, _, rfl⟩

set_option maxHeartbeats 400000 in
set_option maxRecDepth 100000 in
/-- There is room, less is put in than goes, some stand behind. -/
theorem walk_put (hij : i < j) (hmp : 0 < m) (hnc : n ≤ cap) (hmx : cap ≤ 9223372036854775807) (hj : j < n) (ht : i + m + (n - j) = t) (hlt : i + m < j)
    (hcp1 : ∀ q ty dc, (Builtin.copy_ #[48, 48] ty #[.slice (some ⟨g, off + i * 3, none⟩) (t - i) dc, .slice (some (at_ g' off')) m vc]).run Try.prog (w.drewN q) = .ok x ((w.drewN q).setRow g cur1))
    (hcp2 : ∀ q ty dc sc, (Builtin.copy_ #[48, 48] ty #[.slice (some ⟨g, off + (i + m) * 3, none⟩) (t - (i + m)) dc, .slice (some ⟨g, off + j * 3, none⟩) (n - j) sc]).run Try.prog ((w.drewN q).setRow g cur1).drew = .ok y ((w.drewN q).setRow g cur2).drew)
    (hcl : ∀ q ty dc, (Builtin.clear_ #[48] ty #[.slice (some ⟨g, off + t * 3, none⟩) (n - t) dc]).run Try.prog ((w.drewN q).setRow g cur2).drew = .ok (.tuple #[]) ((w.drewN q).setRow g cur3).drew) :
    Calls Try.prog 64 #[.slice (some (at_ g off)) n cap, .int .i64 i, .int .i64 j, .slice (some (at_ g' off')) m vc] w fun e w' =>
      e = .returned (.slice (some (at_ g off)) t cap) ∧ Like w' (w.setRow g cur3) := by
  have hz2 : ¬ ((j : Int) = (n : Int)) := by omega
  have hz3 : ¬ ((cap : Int) < (t : Int)) := by omega
  have hz4 : (i : Int) + (m : Int) ≤ (j : Int) := by omega
  have hb4 : ¬ (cap = i + m) := by omega
  have hb11 : t ≤ n := by omega
  have hb12 : t ≤ cap := by omega
  have hb13 : ¬ (cap = t) := by omega
  have hz1 : ¬ ((i : Int) = (j : Int)) := by omega
  have hw0 : wrap64 ((i : Int) + (m : Int)) = ((i + m : Nat) : Int) := by unfold wrap64; omega
  have hw1 : (i : Int) + (m : Int) + ((n - j : Nat) : Int) = (t : Int) := by omega
  have hw2 : IntKind.i64.wrap ((i : Int) + (m : Int)) = (i : Int) + (m : Int) := by rw [IntKind.wrap_i64]; omega
  have hb1 : (0 : Int) ≤ (i : Int) + (m : Int) := by omega
  have hb2 : (i : Int) + (m : Int) ≤ (t : Int) := by omega
  have hb3 : ((i : Int) + (m : Int)).toNat = i + m := by omega
  have hb5 : ¬ (cap = j) := by omega
  have hb6 : ¬ (cap = i) := by omega
  have hb7 : j ≤ n := by omega
  have hb8 : i ≤ n := by omega
  have hb9 : i ≤ t := by omega
  have hb10 : i ≤ cap := by omega
  go_enter Try.func64, Try.ntmps64
  go_wp2
  go_quiet (fail)
  try simp only [hw1]
  go_wp2_with (at_builtin; refine wpList_copy_runI _ rfl _ _ 48 48 rfl _ _ rfl rfl (hcp1 _ _ _) ?_)
  go_region_law (refine step_copy_runI rfl _ _ 48 48 rfl _ _ (by simp [Act.eval, Act.put]) (by simp [Act.eval, Act.put]) (hcp2 _ _ _ _) ?_)
  go_wp2_with (simp only [hcl])
  go_ret
  exact ⟨rfl, rfl, rfl, rfl, rfl⟩

set_option maxHeartbeats 400000 in
set_option maxRecDepth 100000 in
/-- Nothing stands behind. -/
theorem walk_end (hij : i < j) (hmp : 0 < m) (hnc : n ≤ cap) (hmx : cap ≤ 9223372036854775807) (hj : j = n) (hgt : n < i + m) (a' : Addr) (c' : Nat)
    (hap : ∀ ty, (Builtin.append_ #[48, 48] ty #[.slice (some (at_ g off)) i cap, .slice (some (at_ g' off')) m vc]).run Try.prog w = .ok (.slice (some a') (i + m) c') w1) :
    Calls Try.prog 64 #[.slice (some (at_ g off)) n cap, .int .i64 i, .int .i64 j, .slice (some (at_ g' off')) m vc] w fun e w' =>
      e = .returned (.slice (some a') (i + m) c') ∧ w' = w1 := by
  have hz1 : ¬ ((i : Int) = (j : Int)) := by omega
  have hz2 : (j : Int) = (n : Int) := by omega
  have hb7 : j ≤ n := by omega
  have hb8 : i ≤ n := by omega
  have hb10 : i ≤ cap := by omega
  have hb11 : j ≤ cap := by omega
  have hz3 : ¬ (i + m < n) := by omega
  have hz4 : ¬ ((i : Int) + (m : Int) < (n : Int)) := by omega
  go_enter Try.func64, Try.ntmps64
  go_wp2_with (at_builtin; refine wpList_append_run _ rfl _ _ 48 48 rfl _ _ rfl rfl _ _ (hap _) ?_)
  go_ret
  exact ⟨rfl, rfl⟩

set_option maxHeartbeats 400000 in
set_option maxRecDepth 100000 in
/-- Nothing stands behind, less is put in than goes. -/
theorem walk_endc (hij : i < j) (hmp : 0 < m) (hnc : n ≤ cap) (hmx : cap ≤ 9223372036854775807) (hj : j = n) (hlt : i + m < n)
    (hap : ∀ ty, (Builtin.append_ #[48, 48] ty #[.slice (some (at_ g off)) i cap, .slice (some (at_ g' off')) m vc]).run Try.prog w = .ok (.slice (some (at_ g off)) (i + m) cap) (w.setRow g cur1))
    (hcl : ∀ ty dc, (Builtin.clear_ #[48] ty #[.slice (some ⟨g, off + (i + m) * 3, none⟩) (n - (i + m)) dc]).run Try.prog (w.setRow g cur1) = .ok (.tuple #[]) (w.setRow g cur2)) :
    Calls Try.prog 64 #[.slice (some (at_ g off)) n cap, .int .i64 i, .int .i64 j, .slice (some (at_ g' off')) m vc] w fun e w' =>
      e = .returned (.slice (some (at_ g off)) (i + m) cap) ∧ w' = w.setRow g cur2 := by
  have hz1 : ¬ ((i : Int) = (j : Int)) := by omega
  have hz2 : (j : Int) = (n : Int) := by omega
  have hb1 : (0 : Int) ≤ (i : Int) + (m : Int) := by omega
  have hb2 : (i : Int) + (m : Int) ≤ (n : Int) := by omega
  have hb3 : ((i : Int) + (m : Int)).toNat = i + m := by omega
  have hb4 : ¬ (cap = i + m) := by omega
  have hb7 : j ≤ n := by omega
  have hb8 : i ≤ n := by omega
  have hb10 : i ≤ cap := by omega
  have hb11 : j ≤ cap := by omega
  have hb12 : i + m ≤ n := by omega
  have hz4 : (i : Int) + (m : Int) < (n : Int) := by omega
  go_enter Try.func64, Try.ntmps64
  go_wp2_with (first | (at_builtin; refine wpList_append_run _ rfl _ _ 48 48 rfl _ _ rfl rfl _ _ (hap _) ?_) | simp only [hcl])
  go_ret
  exact ⟨rfl, rfl⟩

set_option maxHeartbeats 400000 in
set_option maxRecDepth 100000 in
/-- There is no room. -/
theorem walk_grow (hij : i < j) (hmp : 0 < m) (hnc : n ≤ cap) (hmx : cap ≤ 9223372036854775807) (hj : j < n) (ht : i + m + (n - j) = t) (hroom : cap < t) (htm : t ≤ 9223372036854775807) (hgt : j < i + m) (G : Nat) (c : Nat → Nat) (W1 W2 W3 : Nat → World)
    (hap : ∀ q ty, (Builtin.append_ #[48, 3] ty #[.slice (some (at_ g off)) i cap, .int .i64 ((t : Int) - (i : Int))]).run Try.prog (w.drewN q) = .ok (.slice (some ⟨G, 0, none⟩) t (c q)) (W1 q)) (hc : ∀ q, t ≤ c q)
    (hcp1 : ∀ q ty dc, (Builtin.copy_ #[48, 48] ty #[.slice (some ⟨G, i * 3, none⟩) (t - i) dc, .slice (some (at_ g' off')) m vc]).run Try.prog (W1 q) = .ok x (W2 q))
    (hcp2 : ∀ q ty dc sc, (Builtin.copy_ #[48, 48] ty #[.slice (some ⟨G, (i + m) * 3, none⟩) (t - (i + m)) dc, .slice (some ⟨g, off + j * 3, none⟩) (n - j) sc]).run Try.prog (W2 q).drew = .ok y (W3 q)) :
    Calls Try.prog 64 #[.slice (some (at_ g off)) n cap, .int .i64 i, .int .i64 j, .slice (some (at_ g' off')) m vc] w fun e w' =>
      ∃ q, e = .returned (.slice (some ⟨G, 0, none⟩) t (c q)) ∧ w' = W3 q := by
  have hz1 : ¬ ((i : Int) = (j : Int)) := by omega
  have hw0 : wrap64 ((i : Int) + (m : Int)) = ((i + m : Nat) : Int) := by unfold wrap64; omega
  have hw1 : (i : Int) + (m : Int) + ((n - j : Nat) : Int) = (t : Int) := by omega
  have hw2 : IntKind.i64.wrap ((i : Int) + (m : Int)) = (i : Int) + (m : Int) := by rw [IntKind.wrap_i64]; omega
  have hb1 : (0 : Int) ≤ (i : Int) + (m : Int) := by omega
  have hb2 : (i : Int) + (m : Int) ≤ (t : Int) := by omega
  have hb3 : ((i : Int) + (m : Int)).toNat = i + m := by omega
  have hb5 : ¬ (cap = j) := by omega
  have hb6 : ¬ (cap = i) := by omega
  have hb7 : j ≤ n := by omega
  have hb8 : i ≤ n := by omega
  have hb9 : i ≤ t := by omega
  have hb10 : i ≤ cap := by omega
  have hz2 : ¬ ((j : Int) = (n : Int)) := by omega
  have hz3 : (cap : Int) < (t : Int) := by omega
  have hcq : ∀ q, ¬ (c q = i) := fun q => by have := hc q; omega
  have hcq2 : ∀ q, ¬ (c q = i + m) := fun q => by have := hc q; omega
  go_enter Try.func64, Try.ntmps64
  go_wp2
  go_quiet (fail)
  try simp only [hw1]
  go_wp2_with (first | (at_builtin; refine wpList_append_run _ rfl _ _ 48 3 rfl _ _ rfl rfl _ _ (hap _ _) ?_) | (at_builtin; refine wpList_copy_runI _ rfl _ _ 48 48 rfl _ _ rfl rfl (hcp1 _ _ _) ?_))
  trace_state
  go_region_law (refine step_copy_runI rfl _ _ 48 48 rfl _ _ (by simp [Act.eval, Act.put]) (by simp [Act.eval, Act.put]) (hcp2 _ _ _ _) ?_)
  go_wp2
  go_ret
  exact ⟨_, rfl, rfl⟩

end
end Go.Proofs.Ytgnhojiogkeepaa.V
