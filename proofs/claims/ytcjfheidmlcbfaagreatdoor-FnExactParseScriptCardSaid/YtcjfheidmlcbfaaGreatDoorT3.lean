/- Plain Lean: the words of a line: strings.Split at a blank and the reference's own loop cut alike. -/
import Derived.Test.YtcjfheidmlcbfaaGreatDoorT1
set_option linter.unusedVariables false
set_option linter.unusedSimpArgs false
set_option linter.unusedSectionVars false
namespace Go.Proofs.YtcjfheidmlcbfaaGreatDoor.PPa
open Go Go.RowKit Go.Proofs.YtcjfheidmlcbfaaGreatDoor.V Go.Proofs.YtcjfheidmlcbfaaGreatDoor.C

theorem ba_list (s : ByteArray) : ba s.data.toList = s := by cases s; simp [ba]
theorem list_ba (l : List UInt8) : (ba l).data.toList = l := by simp [ba]
theorem ba_inj {a b : List UInt8} (h : ba a = ba b) : a = b := by
  have := congrArg (fun s : ByteArray => s.data.toList) h
  simpa [ba] using this
theorem ba_ext (l : List UInt8) (a b : Nat) : (ba l).extract a b = ba ((l.take b).drop a) := by
  have h := Lib.extract_data (ba l) a b
  rw [list_ba] at h
  rw [← ba_list ((ba l).extract a b), h, List.drop_take]
theorem bt_ba (l : List UInt8) (i : Nat) (h : i < l.length) : bt (ba l) (i : Int) = ((l[i]'h).toNat : Int) := by
  unfold bt
  rw [dif_pos (by rw [Int.toNat_natCast, ba_size]; exact h)]
  congr 2

def spl (c : UInt8) : List UInt8 → List (List UInt8)
  | [] => [[]]
  | b :: r => if b = c then [] :: spl c r else match spl c r with
    | w :: ws => (b :: w) :: ws
    | [] => [[b]]
theorem spl_ne (c : UInt8) (l : List UInt8) : ∃ w ws, spl c l = w :: ws := by
  induction l with
  | nil => exact ⟨_, _, rfl⟩
  | cons b r ih =>
    obtain ⟨w, ws, e⟩ := ih
    unfold spl
    split
    · exact ⟨_, _, rfl⟩
    · rw [e]; exact ⟨_, _, rfl⟩
theorem spl_sum (c : UInt8) (l : List UInt8) : ((spl c l).map fun w => w.length + 1).sum = l.length + 1 := by
  induction l with
  | nil => rfl
  | cons b r ih =>
    obtain ⟨w, ws, e⟩ := spl_ne c r
    unfold spl
    split
    · simp [ih]; omega
    · rw [e] at ih ⊢
      simp at ih ⊢
      omega
theorem spl_free (c : UInt8) : ∀ l : List UInt8, c ∉ l → spl c l = [l]
  | [], _ => rfl
  | b :: r, h => by
    rw [spl, if_neg (fun e => h (by rw [e]; exact List.mem_cons_self)), spl_free c r fun hm => h (List.mem_cons_of_mem _ hm)]
theorem spl_app (c : UInt8) : ∀ (l r : List UInt8), c ∉ l → spl c (l ++ c :: r) = l :: spl c r
  | [], r, _ => by simp [spl]
  | b :: l, r, h => by
    rw [List.cons_append, spl, if_neg (fun e => h (by rw [e]; exact List.mem_cons_self)), spl_app c l r fun hm => h (List.mem_cons_of_mem _ hm)]

theorem splitK_one (c : UInt8) : ∀ l : List UInt8, Lib.splitK [c] 0 (Lib.count l [c]) l = spl c l
  | [] => by rw [Lib.count_miss (by simp [Lib.index])]; rfl
  | b :: l => by
    have ih := splitK_one c l
    by_cases h : b = c
    · subst h
      have hix : Lib.index (b :: l) [b] = 0 := by rw [Lib.index]; simp [List.isPrefixOf]
      rw [Lib.count_cons_eq, Nat.add_comm, Lib.splitK, hix]
      simp [spl, ih]
    · have hp : ([c] : List UInt8).isPrefixOf (b :: l) = false := by simp [List.isPrefixOf, Ne.symm h]
      have hix : Lib.index (b :: l) [c] = if Lib.index l [c] == -1 then -1 else Lib.index l [c] + 1 := by rw [Lib.index, hp]; simp
      rw [Lib.count_cons_ne b c l h, spl, if_neg h, ← ih]
      cases hk : Lib.count l [c] with
      | zero => simp [Lib.splitK]
      | succ k =>
        by_cases hm : Lib.index l [c] = -1
        · rw [Lib.count_miss hm] at hk; cases hk
        · have hge := Lib.index_ge l [c]
          obtain ⟨j, hj⟩ : ∃ j : Nat, Lib.index l [c] = j := ⟨(Lib.index l [c]).toNat, by omega⟩
          have e1 : ¬ (Lib.index l [c] == -1) = true := fun e => hm (beq_iff_eq.1 e)
          have hix' : Lib.index (b :: l) [c] = ((j + 1 : Nat) : Int) := by rw [hix, if_neg e1, hj]; omega
          have e2 : ¬ (Lib.index (b :: l) [c] == -1) = true := fun e => by have := beq_iff_eq.1 e; omega
          rw [Lib.splitK, Lib.splitK, if_neg e1, if_neg e2, hix', hj]
          simp
theorem split_eq (s : ByteArray) (h : s.size < 4294967281) : splitF s (ByteArray.mk #[32]) = some ((spl 32 s.data.toList).map ba) := by
  unfold splitF
  rw [if_pos h, if_pos (by decide)]
  congr 1
  have e : ((Lib.splitB (ByteArray.mk #[32]) 0 (Lib.countB s (ByteArray.mk #[32])) s).map (·.data.toList)).map ba = Lib.splitB (ByteArray.mk #[32]) 0 (Lib.countB s (ByteArray.mk #[32])) s := by
    rw [List.map_map]
    refine (List.map_congr_left fun x _ => ba_list x).trans (List.map_id _)
  rw [← e, Lib.splitB_data]
  congr 1
  exact splitK_one 32 s.data.toList

theorem splitS_loop (l : List UInt8) (hl : l.length ≤ 20000) : ∀ (m i f : Nat) (h : List ByteArray), i + m = l.length → f ≤ i → h.length ≤ i → (w : List UInt8) → (ws : List (List UInt8)) → spl 32 (l.drop i) = w :: ws →
    Ev (fun k => spec_l01Split.l8 k (ba l) (f : Int) (i : Int) h) (h ++ (((l.take i).drop f ++ w) :: ws).map ba) := by
  intro m
  induction m with
  | zero =>
    intro i f h hi hf hh w ws hs
    obtain rfl : i = l.length := by omega
    rw [List.drop_length] at hs
    cases hs
    refine Ev.step ?_
    simp only [spec_l01Split.l8, ba_size, ba_ext, Int.toNat_natCast]
    refine Ev.ite_neg (by omega) (Ev.ite_pos (by omega) (Ev.ite_pos (by omega) (Ev.ite_pos (by omega) (Ev.ite_pos (by simp; omega) ((Ev.ret _).cast ?_)))))
    simp
  | succ m ih =>
    intro i f h hi hf hh w ws hs
    have hlt : i < l.length := by omega
    have hd : l.drop i = l[i] :: l.drop (i + 1) := List.drop_eq_getElem_cons hlt
    have ht : l.take (i + 1) = l.take i ++ [l[i]] := by rw [List.take_add_one, List.getElem?_eq_getElem hlt]; rfl
    obtain ⟨w', ws', hs'⟩ := spl_ne 32 (l.drop (i + 1))
    have hw : wrap64 ((i : Int) + 1) = ((i + 1 : Nat) : Int) := by unfold wrap64; omega
    refine Ev.step ?_
    simp only [spec_l01Split.l8, ba_size, ba_ext, Int.toNat_natCast, bt_ba l i hlt, hw]
    refine Ev.ite_pos (by omega) (Ev.ite_pos (by omega) (Ev.ite_pos (by omega) (Ev.ite_both (fun h32 => ?_) fun h32 => ?_)))
    · have hc : l[i] = 32 := by
        have : l[i].toNat = 32 := by omega
        exact UInt8.toNat_inj.1 this
      rw [hd, spl, if_pos hc] at hs
      cases hs
      refine Ev.ite_pos (by omega) (Ev.ite_pos (by omega) (Ev.ite_pos (by omega) (Ev.ite_pos (by simp; omega) ?_)))
      refine (ih (i + 1) (i + 1) _ (by omega) (Nat.le_refl _) (by simp; omega) w' ws' hs').cast ?_
      have : (l.take (i + 1)).drop (i + 1) = [] := List.drop_eq_nil_of_le (by rw [List.length_take]; omega)
      rw [this, hs']
      simp
    · have hc : ¬ l[i] = 32 := fun e => h32 (by rw [e]; rfl)
      rw [hd, spl, if_neg hc, hs'] at hs
      simp only [List.cons.injEq] at hs
      obtain ⟨rfl, rfl⟩ := hs
      refine (ih (i + 1) f h (by omega) (by omega) (by omega) w' ws' hs').cast ?_
      rw [ht, List.drop_append_of_le_length (by rw [List.length_take]; omega)]
      simp
theorem splitS_ev (s : ByteArray) (h : s.size ≤ 20000) : Ev (fun k => spec_l01Split.f k s) ((spl 32 s.data.toList).map ba) := by
  obtain ⟨w, ws, e⟩ := spl_ne 32 s.data.toList
  have h' : s.data.toList.length ≤ 20000 := by rw [← Lib.size_eq]; exact h
  have := splitS_loop s.data.toList h' s.data.toList.length 0 0 [] (by omega) (Nat.le_refl _) (Nat.le_refl _) w ws (by rw [List.drop_zero]; exact e)
  rw [ba_list] at this
  refine this.cast ?_
  rw [e]
  simp
end Go.Proofs.YtcjfheidmlcbfaaGreatDoor.PPa
