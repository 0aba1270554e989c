/- Plain Lean over the printed functions: the lines of a text, the command of a line, a script read: both models tell the same. -/
import Derived.Test.YtcjfheidmlcbfaaGreatDoorSC6
import Derived.Test.YtcjfheidmlcbfaaGreatDoorST4
set_option linter.unusedVariables false
set_option linter.unusedSimpArgs false
set_option linter.unusedSectionVars false
namespace Go.Proofs.YtcjfheidmlcbfaaGreatDoor.PSr
open Go Go.RowKit Go.Proofs.YtcjfheidmlcbfaaGreatDoor.V Go.Proofs.YtcjfheidmlcbfaaGreatDoor.C

theorem sameO_selfT {α : Type} [DecidableEq α] (x : Option α) : sameO x x = x := by unfold sameO; rw [if_pos rfl]
theorem mem_le_sum {α : Type} (f : α → Nat) : ∀ {l : List α} {x : α}, x ∈ l → f x ≤ (l.map f).sum
  | y :: l, x, h => by
    rw [List.map_cons, List.sum_cons]
    rcases List.mem_cons.1 h with rfl | h
    · omega
    · have := mem_le_sum f h
      omega
theorem spl_mem {c : UInt8} {l w : List UInt8} (h : w ∈ spl c l) : w.length ≤ l.length := by
  have h1 := spl_sum c l
  have h2 : w.length + 1 ≤ ((spl c l).map fun w => w.length + 1).sum := mem_le_sum (fun w : List UInt8 => w.length + 1) h
  omega
theorem split_any (c : UInt8) (s : ByteArray) (h : s.size < 4294967281) : splitF s (ByteArray.mk #[c]) = some ((spl c s.data.toList).map ba) := by
  unfold splitF
  rw [if_pos h, if_pos (show 1 ≤ (ByteArray.mk #[c]).size from Nat.le_refl 1)]
  congr 1
  have e : ((Lib.splitB (ByteArray.mk #[c]) 0 (Lib.countB s (ByteArray.mk #[c])) s).map (·.data.toList)).map ba = Lib.splitB (ByteArray.mk #[c]) 0 (Lib.countB s (ByteArray.mk #[c])) s := by
    rw [List.map_map]
    refine (List.map_congr_left fun x _ => ba_list x).trans (List.map_id _)
  rw [← e, Lib.splitB_data]
  congr 1
  exact splitK_one c s.data.toList

/-! ### Lines -/
def linesV (l : List UInt8) : List ByteArray := ((spl 10 l).dropLast).map ba
def finL (r : List ByteArray) : List ByteArray × Bool := if (r.length : Int) > 600 then ([], false) else (r, true)
def okT (l : List UInt8) : Prop := l.length ≤ 20000 ∧ (l.length = 0 ∨ bt (ba l) ((l.length : Int) - 1) = 10)
instance (l : List UInt8) : Decidable (okT l) := inferInstanceAs (Decidable (_ ∧ _))
def finT (l : List UInt8) : List ByteArray × Bool := if okT l then finL (linesV l) else ([], false)
theorem linesI (l : List UInt8) : ∃ X, impl_linesOf.f (ba l) = some (X, (finT l).2) ∧ ((finT l).2 = true → X = (finT l).1) := by
  have hcut : l.length ≤ 20000 → ((strings_Split.f (ba l) (ByteArray.mk #[10])).bind fun t1 => (if (0 : Int) ≤ (wrap64 ((t1.length : Int) - 1)) then (if (wrap64 ((t1.length : Int) - 1)) ≤ (t1.length : Int) then (some (((t1.take (wrap64 ((t1.length : Int) - 1)).toNat).drop (0 : Int).toNat), (decide ((((t1.take (wrap64 ((t1.length : Int) - 1)).toNat).drop (0 : Int).toNat).length : Int) ≤ 600)))) else none) else none)) = some (linesV l, decide (((linesV l).length : Int) ≤ 600)) := by
    intro hl
    unfold strings_Split.f
    rw [split_any 10 (ba l) (by rw [ba_size]; omega), list_ba, Option.bind_some]
    obtain ⟨w, ws, e⟩ := spl_ne 10 l
    have hs := spl_sum 10 l
    have hn : (spl 10 l).length ≤ l.length + 1 := by
      rw [← hs]
      clear hs e
      generalize spl 10 l = L
      induction L with
      | nil => exact Nat.zero_le _
      | cons a L ih => simp only [List.length_cons, List.map_cons, List.sum_cons]; omega
    have hp : 0 < (spl 10 l).length := by rw [e]; simp
    have hw : wrap64 ((((spl 10 l).map ba).length : Int) - 1) = (((spl 10 l).length - 1 : Nat) : Int) := by rw [List.length_map, wrap_of (by omega) (by omega)]; omega
    have hx : (((spl 10 l).map ba).take ((spl 10 l).length - 1)).drop 0 = linesV l := by
      unfold linesV
      rw [List.dropLast_eq_take, List.map_take, List.drop_zero]
    simp only [hw, Int.toNat_natCast, show (0 : Int).toNat = 0 from rfl, hx]
    rw [if_pos (by omega), if_pos (by rw [List.length_map]; omega)]
  have hfin : okT l → ∃ X, some (linesV l, decide (((linesV l).length : Int) ≤ 600)) = some (X, (finT l).2) ∧ ((finT l).2 = true → X = (finT l).1) := by
    intro o
    refine ⟨linesV l, ?_, ?_⟩
    · unfold finT finL
      rw [if_pos o]
      split
      · rename_i g; rw [decide_eq_false (by omega)]
      · rename_i g; rw [decide_eq_true (by omega)]
    · unfold finT finL
      rw [if_pos o]
      split
      · intro h; cases h
      · intro _; rfl
  have hno : ¬ okT l → ∃ X, some (([] : List ByteArray), false) = some (X, (finT l).2) ∧ ((finT l).2 = true → X = (finT l).1) := by
    intro o
    refine ⟨[], ?_, ?_⟩
    · unfold finT; rw [if_neg o]
    · unfold finT; rw [if_neg o]; intro _; rfl
  unfold impl_linesOf.f
  simp only [ba_size]
  by_cases h : (l.length : Int) > 20000
  · rw [if_pos h]; exact hno fun o => by have := o.1; omega
  rw [if_neg h]
  by_cases h0 : ba l = ByteArray.mk #[]
  · have hz : l.length = 0 := by have := congrArg ByteArray.size h0; rw [ba_size] at this; exact this
    rw [if_pos h0, hcut (by omega)]
    exact hfin ⟨by omega, .inl hz⟩
  rw [if_neg h0]
  have hz : 0 < l.length := by
    rcases l with _ | ⟨a, l⟩
    · exact absurd rfl h0
    · simp
  unfold strings_HasSuffix.f stringslite_HasSuffix.f
  have hs1 : (ByteArray.mk #[10]).size = 1 := rfl
  have hw : wrap64 ((l.length : Int) - ((1 : Nat) : Int)) = ((l.length - 1 : Nat) : Int) := by rw [wrap_of (by omega) (by omega)]; omega
  simp only [ba_size, hs1, hw, Int.toNat_natCast, ba_ext, Option.bind_some]
  rw [if_pos (by omega), if_pos (by omega), if_pos (by omega), if_pos (by omega)]
  simp only [Option.bind_some, decide_eq_true_eq]
  have hx : (l.take l.length).drop (l.length - 1) = [l[l.length - 1]'(by omega)] := by
    rw [List.take_length, List.drop_eq_getElem_cons (by omega)]
    congr 1
    rw [List.drop_eq_nil_of_le (by omega)]
  have hb : bt (ba l) ((l.length : Int) - 1) = ((l[l.length - 1]'(by omega)).toNat : Int) := by
    rw [← bt_ba l (l.length - 1) (by omega)]
    congr 1
    omega
  have hi : ba ((l.take l.length).drop (l.length - 1)) = ByteArray.mk #[10] ↔ bt (ba l) ((l.length : Int) - 1) = 10 := by
    rw [hx, hb]
    constructor
    · intro e
      have := ba_inj (b := [10]) e
      simp only [List.cons.injEq, and_true] at this
      rw [this]; rfl
    · intro e
      have : l[l.length - 1]'(by omega) = 10 := UInt8.toNat_inj.1 (show _ = 10 by omega)
      rw [this]; rfl
  by_cases c : ba ((l.take l.length).drop (l.length - 1)) = ByteArray.mk #[10]
  · rw [if_pos c, hcut (by omega)]
    exact hfin ⟨by omega, .inr (hi.1 c)⟩
  · rw [if_neg c]
    exact hno fun o => by
      rcases o.2 with o | o
      · omega
      · exact c (hi.2 o)
theorem finT_len {l : List UInt8} (h : (finT l).2 = true) : (finT l).1.length ≤ 600 ∧ ∀ s ∈ (finT l).1, s.size ≤ 20000 := by
  unfold finT finL at h ⊢
  split
  · rename_i o
    rw [if_pos o] at h
    split
    · rename_i g; rw [if_pos g] at h; cases h
    · refine ⟨by show (linesV l).length ≤ 600; omega, fun s hs => ?_⟩
      obtain ⟨w, hw, rfl⟩ := List.mem_map.1 (show s ∈ linesV l from hs)
      have := spl_mem (List.dropLast_subset _ hw)
      have := o.1
      rw [ba_size]; omega
  · exact ⟨by simp, fun s hs => by cases hs⟩

/-! ### The command of a line -/
def runW : ByteArray := ByteArray.mk #[114, 117, 110]
def inW : ByteArray := ByteArray.mk #[105, 110, 112, 117, 116]
def reW : ByteArray := ByteArray.mk #[114, 101, 115, 116, 97, 114, 116]
abbrev SC := S85
def bad : SC × Int := ((0, 0, 0), 2)
def namedV (t : S33) (x : ByteArray) : Int := idxOf (fun q => decide (q.f0 = x)) t.f7 0
abbrev wd (w : List ByteArray) (i : Nat) : ByteArray := w.getD i ByteArray.empty
def runV (r : Int × Bool) : SC × Int := if r.2 = true then (if r.1 < 0 then bad else ((0, r.1, 0), 0)) else bad
def inV (r q : Int × Bool) : SC × Int := if r.2 = true then (if q.2 = true then (if r.1 < 0 then bad else (if q.1 < 0 then bad else ((1, r.1, IntKind.wrap .u32 q.1), 0))) else bad) else bad
def reV (p : Int) : SC × Int := if p < 0 then ((0, 0, 0), 3) else ((2, p, 0), 0)
def readV (t : S33) (w : List ByteArray) : SC × Int :=
  if wd w 0 = runW then (if (w.length : Int) = 2 then runV (decR (wd w 1) 50000) else bad)
  else if wd w 0 = inW then (if (w.length : Int) = 3 then inV (decR (wd w 1) 7) (decR (wd w 2) 4294967295) else bad)
  else if wd w 0 = reW then (if (w.length : Int) = 2 then reV (namedV t (wd w 1)) else bad)
  else bad
theorem rnNi : ¬ runW = inW := by decide
theorem rnNr : ¬ runW = reW := by decide
theorem inNr : ¬ inW = reW := by decide
theorem namedI_ev (t : S33) (ht : t.f7.length ≤ 1048576) (x : ByteArray) : Ev (fun k => impl_partNamed.f k t x) (namedV t x) := by
  unfold impl_partNamed.f
  exact Ev.bind (idx_parts t.f7 x ht) (Ev.ret _)
set_option maxHeartbeats 1000000 in
set_option maxHeartbeats 1000000 in
theorem readI_ev (t : S33) (ht : t.f7.length ≤ 1048576) (W : List ByteArray) (hp : 0 < W.length) (hz : ∀ w ∈ W, w.size ≤ 281474976710656) : Ev (fun k => impl_readCmd.f k t W) (readV t W) := by
  have hd : ∀ (i : Nat) (m : Int), i < W.length → impl_DecNum.f (W.getD i ByteArray.empty) m = some (decR (wd W i) m) := fun i m hi => decI_eq _ m (hz _ (getD_mem hi))
  unfold impl_readCmd.f
  have p0 : (0 : Int) < (W.length : Int) := by omega
  have e1 : (ByteArray.mk #[105, 110, 112, 117, 116]) = inW := rfl
  have e2 : (ByteArray.mk #[114, 117, 110]) = runW := rfl
  have e3 : (ByteArray.mk #[114, 101, 115, 116, 97, 114, 116]) = reW := rfl
  simp only [e1, e2, e3, if_pos p0]
  unfold readV
  by_cases c0 : wd W 0 = runW
  · have c1 : ¬ wd W 0 = inW := fun e => rnNi (c0.symm.trans e)
    have c2 : ¬ wd W 0 = reW := fun e => rnNr (c0.symm.trans e)
    simp only [if_pos c0, if_neg c1, if_neg c2]
    refine Ev.ite_both (fun h2 => ?_) fun h2 => ?_
    · simp only [hd 1 50000 (by omega), Option.bind_some]
      rw [if_pos h2]
      refine Ev.ite_pos (by omega) ?_
      unfold runV
      exact Ev.ite_both (fun a => by rw [if_pos a]; exact Ev.ite_both (fun b => by rw [if_neg (by omega)]; exact Ev.ret _) fun b => by rw [if_pos (by omega)]; exact Ev.ret _) fun a => by rw [if_neg a]; exact Ev.ret _
    · rw [if_neg h2]; exact Ev.ret _
  simp only [if_neg c0]
  by_cases c1 : wd W 0 = inW
  · have c2 : ¬ wd W 0 = reW := fun e => inNr (c1.symm.trans e)
    simp only [if_pos c1, if_neg c2]
    refine Ev.ite_both (fun h2 => ?_) fun h2 => ?_
    · simp only [hd 1 7 (by omega), hd 2 4294967295 (by omega), Option.bind_some]
      rw [if_pos h2]
      refine Ev.ite_pos (by omega) (Ev.ite_pos (by omega) ?_)
      unfold inV
      exact Ev.ite_both (fun a => by rw [if_pos a]; exact Ev.ite_both (fun b => by rw [if_pos b]; exact Ev.ite_both (fun c => by rw [if_neg (show ¬ (decR (wd W 1) 7).1 < 0 by omega)]; exact Ev.ite_both (fun d => by rw [if_neg (by omega)]; exact Ev.ret _) fun d => by rw [if_pos (by omega)]; exact Ev.ret _) fun c => by rw [if_pos (by omega)]; exact Ev.ret _) fun b => by rw [if_neg b]; exact Ev.ret _) fun a => by rw [if_neg a]; exact Ev.ret _
    · rw [if_neg h2]; exact Ev.ret _
  simp only [if_neg c1]
  refine Ev.ite_both (fun c2 => ?_) fun c2 => ?_
  · rw [if_pos c2]
    refine Ev.ite_both (fun h2 => ?_) fun h2 => ?_
    · rw [if_pos h2]
      refine Ev.ite_pos (by omega) (Ev.bind (namedI_ev t ht _) ?_)
      unfold reV
      exact Ev.ite_both (fun a => by rw [if_pos a]; exact Ev.ret _) fun a => by rw [if_neg a]; exact Ev.ret _
    · rw [if_neg h2]; exact Ev.ret _
  · rw [if_neg c2]; exact Ev.ret _

/-! ### The script -/
abbrev lnV (t : S33) (s : ByteArray) : SC × Int := readV t ((spl 32 s.data.toList).map ba)
def parV (t : S33) (N : Nat) : List ByteArray → List SC → List SC × Int × Int
  | [], acc => (acc, 0, 0)
  | s :: rest, acc => if (lnV t s).2 = 0 then (if (acc.length : Int) ≥ 300 then ([], 4, ((N - rest.length : Nat) : Int)) else parV t N rest (acc ++ [(lnV t s).1])) else ([], (lnV t s).2, ((N - rest.length : Nat) : Int))
theorem parV_len (t : S33) (N : Nat) : ∀ (l : List ByteArray) (acc : List SC), acc.length ≤ 300 → (parV t N l acc).1.length ≤ 300
  | [], acc, h => h
  | s :: rest, acc, h => by
    rw [parV]
    split
    · split
      · simp
      · exact parV_len t N rest _ (by simp; omega)
    · simp
theorem implPar {t : S33} (ht : t.f7.length ≤ 1048576) (l : List ByteArray) (hl : l.length ≤ 600) (hz : ∀ s ∈ l, s.size ≤ 20000) : Ev (fun k => impl_ParseScript.l16 k l (l.length : Int) 0 t []) (parV t l.length l []) := by
  refine Ev.list (β := List SC × Int × Int) l ByteArray.empty (fun r acc => parV t l.length r acc) (fun n acc => acc.length ≤ 300) (fun k i s => impl_ParseScript.l16 k l (l.length : Int) i t s) (fun s hs => Ev.step ?_) (fun i hi s hs ih => Ev.step ?_) l.length 0 (by omega) [] (by simp)
  · simp only [impl_ParseScript.l16]
    exact Ev.ite_neg (by omega) (Ev.ret _)
  · have hr : rd_str l (i : Int) = l.getD i ByteArray.empty := rfl
    have hn : ((l.length - (l.drop (i + 1)).length : Nat) : Int) = ((i + 1 : Nat) : Int) := by rw [List.length_drop]; omega
    have hb := hz _ (getD_mem (z := ByteArray.empty) hi)
    simp only [impl_ParseScript.l16, sameO_selfT, hr, strings_Split.f, split_any 32 _ (show (l.getD i ByteArray.empty).size < 4294967281 by omega), Option.bind_some]
    have hp : 0 < ((spl 32 (l.getD i ByteArray.empty).data.toList).map ba).length := by
      obtain ⟨w, ws, e⟩ := spl_ne 32 (l.getD i ByteArray.empty).data.toList
      rw [e]; simp
    refine Ev.ite_pos (lt_in hi) (Ev.ite_pos ge_0 (Ev.ite_pos (lt_in hi) (Ev.bind (readI_ev t ht _ hp fun w hw => ?_) (Ev.step ?_))))
    · obtain ⟨x, hx, rfl⟩ := List.mem_map.1 hw
      have := spl_mem hx
      rw [Lib.size_eq] at hb
      rw [ba_size]; omega
    simp only [impl_ParseScript.l23, wrap_succ hi (by omega)]
    rw [parV, hn]
    refine Ev.ite_both (fun c => ?_) fun c => ?_
    · rw [if_pos c]
      refine Ev.ite_both (fun g => ?_) fun g => ?_
      · rw [if_pos (by omega)]
        exact Ev.ite_neg (by decide) (Ev.ret _)
      · rw [if_neg (by omega)]
        exact Ev.ite_pos c (Ev.ite_pos (by simp; omega) (ih _ (by simp; omega)))
    · rw [if_neg c]
      exact Ev.ite_neg c (Ev.ret _)
def parseT (t : S33) (s : ByteArray) : List SC × Int × Int :=
  if soundB t = true then (if (finT s.data.toList).2 = true then parV t (finT s.data.toList).1.length (finT s.data.toList).1 [] else ([], 1, 0)) else ([], 5, 0)
theorem parseT_len (t : S33) (s : ByteArray) : (parseT t s).1.length ≤ 300 := by
  unfold parseT
  split
  · split
    · exact parV_len _ _ _ _ (by simp)
    · simp
  · simp
theorem implPs (t : S33) (hs : Small t) (hnm : ∀ p ∈ t.f7, p.f0.size ≤ 9223372036854775807) (s : ByteArray) : Ev (fun k => impl_ParseScript.f k t s) (parseT t s) := by
  obtain ⟨l, rfl⟩ : ∃ l, s = ba l := ⟨_, (ba_list s).symm⟩
  unfold impl_ParseScript.f parseT
  rw [list_ba]
  refine Ev.bind (implSound t hs hnm) (Ev.ite_both (fun h => ?_) fun h => ?_)
  · rw [if_pos h]
    obtain ⟨X, hX, hE⟩ := linesI l
    simp only [hX, Option.bind_some]
    refine Ev.ite_both (fun g => ?_) fun g => ?_
    · rw [if_pos g, hE g]
      exact implPar hs.parts _ (finT_len g).1 (finT_len g).2
    · rw [if_neg g]; exact Ev.ret _
  · rw [if_neg h]; exact Ev.ret _
end Go.Proofs.YtcjfheidmlcbfaaGreatDoor.PSr
