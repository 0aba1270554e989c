/- Plain Lean: the words of a line: strings.Split at a blank and the reference's own loop cut alike. -/
import Derived.Test.YtcjfheidmlcbfaaGreatDoorST1
set_option linter.unusedVariables false
set_option linter.unusedSimpArgs false
set_option linter.unusedSectionVars false
namespace Go.Proofs.YtcjfheidmlcbfaaGreatDoor.PSr
open Go Go.RowKit Go.Proofs.YtcjfheidmlcbfaaGreatDoor.V Go.Proofs.YtcjfheidmlcbfaaGreatDoor.C

theorem ba_list (s : ByteArray) : ba s.data.toList = s := by cases s; simp [ba]
theorem list_ba (l : List UInt8) : (ba l).data.toList = l := by simp [ba]
theorem ba_inj {a b : List UInt8} (h : ba a = ba b) : a = b := by
  have := congrArg (fun s : ByteArray => s.data.toList) h
  simpa [ba] using this
theorem ba_ext (l : List UInt8) (a b : Nat) : (ba l).extract a b = ba ((l.take b).drop a) := by
  have h := Lib.extract_data (ba l) a b
  rw [list_ba] at h
  rw [← ba_list ((ba l).extract a b), h, List.drop_take]
theorem bt_ba (l : List UInt8) (i : Nat) (h : i < l.length) : bt (ba l) (i : Int) = ((l[i]'h).toNat : Int) := by
  unfold bt
  rw [dif_pos (by rw [Int.toNat_natCast, ba_size]; exact h)]
  congr 2

def spl (c : UInt8) : List UInt8 → List (List UInt8)
  | [] => [[]]
  | b :: r => if b = c then [] :: spl c r else match spl c r with
    | w :: ws => (b :: w) :: ws
    | [] => [[b]]
theorem spl_ne (c : UInt8) (l : List UInt8) : ∃ w ws, spl c l = w :: ws := by
  induction l with
  | nil => exact ⟨_, _, rfl⟩
  | cons b r ih =>
    obtain ⟨w, ws, e⟩ := ih
    unfold spl
    split
    · exact ⟨_, _, rfl⟩
    · rw [e]; exact ⟨_, _, rfl⟩
theorem spl_sum (c : UInt8) (l : List UInt8) : ((spl c l).map fun w => w.length + 1).sum = l.length + 1 := by
  induction l with
  | nil => rfl
  | cons b r ih =>
    obtain ⟨w, ws, e⟩ := spl_ne c r
    unfold spl
    split
    · simp [ih]; omega
    · rw [e] at ih ⊢
      simp at ih ⊢
      omega
theorem spl_free (c : UInt8) : ∀ l : List UInt8, c ∉ l → spl c l = [l]
  | [], _ => rfl
  | b :: r, h => by
    rw [spl, if_neg (fun e => h (by rw [e]; exact List.mem_cons_self)), spl_free c r fun hm => h (List.mem_cons_of_mem _ hm)]
theorem spl_app (c : UInt8) : ∀ (l r : List UInt8), c ∉ l → spl c (l ++ c :: r) = l :: spl c r
  | [], r, _ => by simp [spl]
  | b :: l, r, h => by
    rw [List.cons_append, spl, if_neg (fun e => h (by rw [e]; exact List.mem_cons_self)), spl_app c l r fun hm => h (List.mem_cons_of_mem _ hm)]

theorem splitK_one (c : UInt8) : ∀ l : List UInt8, Lib.splitK [c] 0 (Lib.count l [c]) l = spl c l
  | [] => by rw [Lib.count_miss (by simp [Lib.index])]; rfl
  | b :: l => by
    have ih := splitK_one c l
    by_cases h : b = c
    · subst h
      have hix : Lib.index (b :: l) [b] = 0 := by rw [Lib.index]; simp [List.isPrefixOf]
      rw [Lib.count_cons_eq, Nat.add_comm, Lib.splitK, hix]
      simp [spl, ih]
    · have hp : ([c] : List UInt8).isPrefixOf (b :: l) = false := by simp [List.isPrefixOf, Ne.symm h]
      have hix : Lib.index (b :: l) [c] = if Lib.index l [c] == -1 then -1 else Lib.index l [c] + 1 := by rw [Lib.index, hp]; simp
      rw [Lib.count_cons_ne b c l h, spl, if_neg h, ← ih]
      cases hk : Lib.count l [c] with
      | zero => simp [Lib.splitK]
      | succ k =>
        by_cases hm : Lib.index l [c] = -1
        · rw [Lib.count_miss hm] at hk; cases hk
        · have hge := Lib.index_ge l [c]
          obtain ⟨j, hj⟩ : ∃ j : Nat, Lib.index l [c] = j := ⟨(Lib.index l [c]).toNat, by omega⟩
          have e1 : ¬ (Lib.index l [c] == -1) = true := fun e => hm (beq_iff_eq.1 e)
          have hix' : Lib.index (b :: l) [c] = ((j + 1 : Nat) : Int) := by rw [hix, if_neg e1, hj]; omega
          have e2 : ¬ (Lib.index (b :: l) [c] == -1) = true := fun e => by have := beq_iff_eq.1 e; omega
          rw [Lib.splitK, Lib.splitK, if_neg e1, if_neg e2, hix', hj]
          simp
theorem split_eq (s : ByteArray) (h : s.size < 4294967281) : splitF s (ByteArray.mk #[32]) = some ((spl 32 s.data.toList).map ba) := by
  unfold splitF
  rw [if_pos h, if_pos (by decide)]
  congr 1
  have e : ((Lib.splitB (ByteArray.mk #[32]) 0 (Lib.countB s (ByteArray.mk #[32])) s).map (·.data.toList)).map ba = Lib.splitB (ByteArray.mk #[32]) 0 (Lib.countB s (ByteArray.mk #[32])) s := by
    rw [List.map_map]
    refine (List.map_congr_left fun x _ => ba_list x).trans (List.map_id _)
  rw [← e, Lib.splitB_data]
  congr 1
  exact splitK_one 32 s.data.toList

end Go.Proofs.YtcjfheidmlcbfaaGreatDoor.PSr
