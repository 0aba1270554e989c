/- Plain Lean over the printed functions: both models print the same script. -/
import Derived.Test.YtcjfheidmlcbfaaGreatDoorSC6
import Derived.Test.YtcjfheidmlcbfaaGreatDoorST1
import Derived.Lib.ItoaLen
set_option linter.unusedVariables false
set_option linter.unusedSimpArgs false
set_option linter.unusedSectionVars false
namespace Go.Proofs.YtcjfheidmlcbfaaGreatDoor.PSr
open Go Go.RowKit Go.Proofs.YtcjfheidmlcbfaaGreatDoor.V Go.Proofs.YtcjfheidmlcbfaaGreatDoor.C

theorem itoa_some (n : Int) (h0 : -9223372036854775808 ≤ n) (h1 : n ≤ 9223372036854775807) : impl_DecText.f n = some (ba (Lib.itoa n)) ∧ (ba (Lib.itoa n)).size ≤ 21 := by
  refine ⟨?_, by rw [ba_size]; exact Lib.itoa_length_le n h0 h1⟩
  unfold impl_DecText.f strconv_Itoa.f itoaF
  rw [if_pos h0, if_pos h1]
  rfl
theorem wrap_rng (n : Int) : -9223372036854775808 ≤ wrap64 n ∧ wrap64 n ≤ 9223372036854775807 := by unfold wrap64; omega

/-! ### One line -/
def addN (b : ByteArray) (l : List Int) : ByteArray := l.foldl (fun b n => (b ++ ByteArray.mk #[32]) ++ ba (Lib.itoa n)) b
def lineV (b : ByteArray) (l : List Int) : ByteArray := addN b l ++ ByteArray.mk #[10]
def okN (l : List Int) : Prop := ∀ n ∈ l, -9223372036854775808 ≤ n ∧ n ≤ 9223372036854775807
theorem sz32 : (ByteArray.mk #[32]).size = 1 := rfl
theorem sz10 : (ByteArray.mk #[10]).size = 1 := rfl
theorem app_assoc (a b c : ByteArray) : a ++ (b ++ c) = (a ++ b) ++ c := by
  apply ByteArray.ext
  simp [ByteArray.data_append]
theorem addN_size : ∀ (l : List Int) (b : ByteArray), okN l → b.size ≤ (addN b l).size ∧ (addN b l).size ≤ b.size + 22 * l.length := by
  intro l
  induction l with
  | nil => intro b _; exact ⟨Nat.le_refl _, by simp [addN]⟩
  | cons n l ih =>
    intro b h
    have h1 := ih ((b ++ ByteArray.mk #[32]) ++ ba (Lib.itoa n)) (fun m hm => h m (List.mem_cons_of_mem _ hm))
    have h2 := (itoa_some n (h n (by simp)).1 (h n (by simp)).2).2
    have e : addN b (n :: l) = addN ((b ++ ByteArray.mk #[32]) ++ ba (Lib.itoa n)) l := rfl
    rw [e, List.length_cons]
    simp only [ByteArray.size_append, sz32] at h1
    omega

theorem okN_at {l : List Int} (h : okN l) {i : Nat} (hi : i < l.length) : -9223372036854775808 ≤ l.getD i 0 ∧ l.getD i 0 ≤ 9223372036854775807 := h _ (getD_mem hi)
theorem say_ev (l : List Int) (h : okN l) (hl : l.length ≤ 100) (b : ByteArray) (hb : b.size ≤ 1000) : Ev (fun k => spec_l14Say.f k b l) (lineV b l) := by
  unfold spec_l14Say.f
  refine Ev.list (β := ByteArray) l 0 (fun l b => lineV b l) (fun n b => b.size ≤ 1000 + 22 * n) (fun k i s => spec_l14Say.l4 k s l i) (fun s hs => Ev.step ?_) (fun i hi s hs ih => Ev.step ?_) l.length 0 (by omega) b (by omega)
  · simp only [spec_l14Say.l4]
    exact Ev.ite_neg (by omega) (Ev.ite_pos (by rw [sz10]; omega) (Ev.ret _))
  · have hn := okN_at h hi
    have h2 := (itoa_some _ hn.1 hn.2).2
    have hr : rd l (i : Int) = l.getD i 0 := rfl
    simp only [spec_l14Say.l4, hr, wrap_succ hi (by omega)]
    exact Ev.ite_pos (lt_in hi) (Ev.ite_pos (by rw [sz32]; omega) (Ev.ite_pos ge_0 (Ev.ite_pos (lt_in hi) (Ev.bind (dec_ev _ hn.1 hn.2) (Ev.ite_pos (by rw [ByteArray.size_append, sz32]; omega) (ih _ (by simp only [ByteArray.size_append, sz32]; omega)))))))
theorem conf_ev (l : List Int) (h : okN l) (hl : l.length ≤ 100) (b : ByteArray) (hb : b.size ≤ 1000) : Ev (fun k => impl_confLine.f k b l) (lineV b l) := by
  unfold impl_confLine.f
  refine Ev.list (β := ByteArray) l 0 (fun l b => lineV b l) (fun n b => b.size ≤ 1000 + 22 * n) (fun k i s => impl_confLine.l4 k s l (l.length : Int) i) (fun s hs => Ev.step ?_) (fun i hi s hs ih => Ev.step ?_) l.length 0 (by omega) b (by omega)
  · simp only [impl_confLine.l4]
    exact Ev.ite_neg (by omega) (Ev.ite_pos (by rw [sz10]; omega) (Ev.ret _))
  · have hn := okN_at h hi
    have h2 := itoa_some _ hn.1 hn.2
    have hr : rd l (i : Int) = l.getD i 0 := rfl
    simp only [impl_confLine.l4, hr, h2.1, Option.bind_some, wrap_succ hi (by omega), app_assoc]
    exact Ev.ite_pos (lt_in hi) (Ev.ite_pos ge_0 (Ev.ite_pos (lt_in hi) (Ev.ite_pos (by rw [sz32]; omega) (Ev.ite_pos (by simp only [ByteArray.size_append, sz32]; omega) (ih _ (by simp only [ByteArray.size_append, sz32]; omega))))))
theorem lineV_size {b : ByteArray} {l : List Int} (h : okN l) : b.size < (lineV b l).size ∧ (lineV b l).size ≤ b.size + 22 * l.length + 1 := by
  have := addN_size l b h
  unfold lineV
  rw [ByteArray.size_append, sz10]
  omega

/-! ### One command -/
def runT : ByteArray := ByteArray.mk #[114, 117, 110]
def inT : ByteArray := ByteArray.mk #[105, 110, 112, 117, 116]
def reT : ByteArray := ByteArray.mk #[114, 101, 115, 116, 97, 114, 116, 32]
def noT : ByteArray := ByteArray.mk #[]
theorem reT_s : reT.size = 8 := rfl
theorem runT_s : runT.size = 3 := rfl
theorem inT_s : inT.size = 5 := rfl
theorem noT_s : noT.size = 0 := rfl
def nmV (t : S33) (x : Int) : ByteArray := (reT ++ (rd_T71 t.f7 x).f0) ++ ByteArray.mk #[10]
def cmdV (t : S33) (c : S85) : Option ByteArray :=
  if c.f0 = 0 then (if inB c.f1 0 50000 = true then (if c.f2 = 0 then some (lineV runT [c.f1]) else none) else none)
  else if c.f0 = 1 then (if inB c.f1 0 7 = true then some (lineV inT [c.f1, wrap64 c.f2]) else none)
  else if c.f0 = 2 then (if inB c.f1 0 (wrap64 ((t.f7.length : Int) - 1)) = true then (if c.f2 = 0 then some (nmV t c.f1) else none) else none)
  else none
structure Nam (t : S33) : Prop where
  len : t.f7.length ≤ 6
  nm : ∀ p ∈ t.f7, p.f0.size ≤ 8
theorem nmV_size {t : S33} (h : Nam t) {x : Int} (h0 : 0 ≤ x) (h1 : x < (t.f7.length : Int)) : (rd_T71 t.f7 x).f0.size ≤ 8 := h.nm _ (getD_mem (by omega))
theorem cmdV_size {t : S33} (h : Nam t) {c : S85} {s : ByteArray} (hs : cmdV t c = some s) : 1 ≤ s.size ∧ s.size ≤ 60 := by
  have hl := h.len
  unfold cmdV at hs
  split at hs
  · split at hs
    · split at hs
      · rename_i h2 _
        have h2 := in_iff.1 h2
        cases hs
        have := lineV_size (b := runT) (l := [c.f1]) (by intro n hn; simp only [List.mem_cons, List.not_mem_nil, or_false] at hn; omega)
        rw [runT_s] at this; simp only [List.length_cons, List.length_nil] at this; omega
      · cases hs
    · cases hs
  · split at hs
    · split at hs
      · rename_i h2
        have h2 := in_iff.1 h2
        have h3 := wrap_rng c.f2
        cases hs
        have := lineV_size (b := inT) (l := [c.f1, wrap64 c.f2]) (by intro n hn; simp only [List.mem_cons, List.not_mem_nil, or_false] at hn; omega)
        rw [inT_s] at this; simp only [List.length_cons, List.length_nil] at this; omega
      · cases hs
    · split at hs
      · split at hs
        · split at hs
          · rename_i h2 _
            have h2 := in_iff.1 h2
            rw [wrap_of (by omega) (by omega)] at h2
            cases hs
            have := nmV_size h h2.1 (by omega)
            unfold nmV
            simp only [ByteArray.size_append, sz10, reT_s]; omega
          · cases hs
        · cases hs
      · cases hs
theorem ok1 {x : Int} {a b : Int} (h : inB x a b = true) (ha : -9223372036854775808 ≤ a) (hb : b ≤ 9223372036854775807) : okN [x] := by
  intro n hn
  have := in_iff.1 h
  simp only [List.mem_cons, List.not_mem_nil, or_false] at hn
  omega
theorem ok2 {x y : Int} {a b : Int} (h : inB x a b = true) (ha : -9223372036854775808 ≤ a) (hb : b ≤ 9223372036854775807) : okN [x, wrap64 y] := by
  intro n hn
  have := in_iff.1 h
  have h3 := wrap_rng y
  simp only [List.mem_cons, List.not_mem_nil, or_false] at hn
  omega

/-- What impl.printCmd writes where a command is no good: nothing. -/
def txtV (t : S33) (c : S85) : ByteArray := (cmdV t c).getD noT
set_option maxHeartbeats 1000000 in
theorem printCmd_ev {t : S33} (h : Nam t) (c : S85) : Ev (fun k => impl_printCmd.f k t c) (txtV t c) := by
  have hl := h.len
  unfold impl_printCmd.f impl_isCycle.f
  simp only [within_some, Option.bind_some]
  have hR : ∀ (a : Int), Ev (fun k => if inB a 0 (wrap64 ((t.f7.length : Int) - 1)) = true then (if 0 ≤ a then (if a < (t.f7.length : Int) then (if reT.size + ((rd_T71 t.f7 a).f0).size ≤ 9223372036854775807 then (if (reT ++ ((rd_T71 t.f7 a).f0)).size + (ByteArray.mk #[10]).size ≤ 9223372036854775807 then (some ((reT ++ ((rd_T71 t.f7 a).f0)) ++ (ByteArray.mk #[10]))) else none) else none) else none) else none) else (some noT)) (if inB a 0 (wrap64 ((t.f7.length : Int) - 1)) = true then nmV t a else noT) := by
    intro a
    refine Ev.ite_both (fun h2 => ?_) fun h2 => ?_
    · rw [if_pos h2]
      have h2 := in_iff.1 h2
      rw [wrap_of (by omega) (by omega)] at h2
      have := nmV_size h h2.1 (by omega)
      exact Ev.ite_pos (by omega) (Ev.ite_pos (by omega) (Ev.ite_pos (by rw [reT_s]; omega) (Ev.ite_pos (by simp only [ByteArray.size_append, sz10, reT_s]; omega) (Ev.ret _))))
    · rw [if_neg h2]; exact Ev.ret _
  have e1 : (ByteArray.mk #[]) = noT := rfl
  have e2 : (ByteArray.mk #[114, 101, 115, 116, 97, 114, 116, 32]) = reT := rfl
  have e3 : (ByteArray.mk #[105, 110, 112, 117, 116]) = inT := rfl
  have e4 : (ByteArray.mk #[114, 117, 110]) = runT := rfl
  simp only [e1, e2, e3, e4]
  unfold txtV cmdV
  refine Ev.ite_both (fun c1 => ?_) fun c1 => ?_
  · have c0 : ¬ c.f0 = 0 := by omega
    have c2 : ¬ c.f0 = 2 := by omega
    simp only [if_neg c0, if_neg c2, if_pos c1]
    refine Ev.ite_both (fun i1 => ?_) fun i1 => ?_
    · rw [if_pos i1]
      exact Ev.bind (conf_ev _ (ok2 i1 (by omega) (by omega)) (by simp) _ (by rw [inT_s]; omega)) (Ev.ret _)
    · rw [if_neg i1]
      exact Ev.ite_both (fun _ => Ev.ret _) fun _ => Ev.ret _
  · refine Ev.ite_both (fun z => ?_) fun z => ?_
    · refine Ev.ite_both (fun c0 => ?_) fun c0 => ?_
      · have c2 : ¬ c.f0 = 2 := by omega
        simp only [if_pos c0, if_neg c2, if_pos z]
        refine Ev.ite_both (fun i1 => ?_) fun i1 => ?_
        · rw [if_pos i1]
          exact Ev.bind (conf_ev _ (ok1 i1 (by omega) (by omega)) (by simp) _ (by rw [runT_s]; omega)) (Ev.ret _)
        · rw [if_neg i1]
          exact Ev.ret _
      · simp only [if_neg c0, if_neg c1, if_pos z]
        refine Ev.ite_both (fun c2 => ?_) fun c2 => ?_
        · rw [if_pos c2]
          refine (hR c.f1).cast ?_
          split <;> rfl
        · rw [if_neg c2]; exact Ev.ret _
    · refine (Ev.ret _).cast ?_
      simp only [if_neg c1, if_neg z]
      repeat' split
      all_goals rfl

/-! ### The script -/
def scrV (t : S33) : List S85 → ByteArray → ByteArray × Bool
  | [], b => (b, true)
  | c :: l, b => match cmdV t c with
    | none => (noT, false)
    | some s => scrV t l (b ++ s)
theorem empty_iff {s : ByteArray} : s = noT ↔ s.size = 0 := by
  constructor
  · rintro rfl; rfl
  · intro h
    apply ByteArray.ext
    exact Array.eq_empty_of_size_eq_zero h
theorem implScr {t : S33} (h : Nam t) (l : List S85) (hl : l.length ≤ 300) : Ev (fun k => impl_PrintScript.l10 k l (l.length : Int) 0 t ByteArray.empty) (scrV t l noT) := by
  refine Ev.list (β := ByteArray × Bool) l z85 (fun l b => scrV t l b) (fun n b => b.size ≤ 100 * n) (fun k i s => impl_PrintScript.l10 k l (l.length : Int) i t s) (fun s hs => Ev.step ?_) (fun i hi s hs ih => Ev.step ?_) l.length 0 (by omega) ByteArray.empty (by simp)
  · simp only [impl_PrintScript.l10]
    exact Ev.ite_neg (by omega) (Ev.ret _)
  · have hr : rd_T85 l (i : Int) = l.getD i z85 := rfl
    simp only [impl_PrintScript.l10, hr, wrap_succ hi (by omega)]
    refine Ev.ite_pos (lt_in hi) (Ev.ite_pos ge_0 (Ev.ite_pos (lt_in hi) (Ev.bind (printCmd_ev h _) ?_)))
    have e1 : (ByteArray.mk #[]) = noT := rfl
    simp only [e1]
    unfold txtV scrV
    cases hc : cmdV t (l.getD i z85) with
    | none => exact Ev.ite_pos rfl (Ev.ret _)
    | some c =>
      have hz := cmdV_size h hc
      refine Ev.ite_neg (fun e => ?_) (Ev.ite_pos ?_ (ih _ ?_))
      · have := empty_iff.1 (show c = noT from e); omega
      · show s.size + c.size ≤ _; omega
      · show (s ++ c).size ≤ _; rw [ByteArray.size_append]; omega
set_option maxHeartbeats 1000000 in
theorem specScr {t : S33} (h : Nam t) (l : List S85) (hl : l.length ≤ 300) : Ev (fun k => spec_PrintScript.l10 k l noT 0 t) (scrV t l noT) := by
  have hl6 := h.len
  have e1 : (ByteArray.mk #[]) = noT := rfl
  have e2 : (ByteArray.mk #[114, 101, 115, 116, 97, 114, 116, 32]) = reT := rfl
  have e3 : (ByteArray.mk #[105, 110, 112, 117, 116]) = inT := rfl
  have e4 : (ByteArray.mk #[114, 117, 110]) = runT := rfl
  refine Ev.list (β := ByteArray × Bool) l z85 (fun l b => scrV t l b) (fun n b => b.size ≤ 100 * n) (fun k i s => spec_PrintScript.l10 k l s i t) (fun s hs => Ev.step ?_) (fun i hi s hs ih => Ev.step ?_) l.length 0 (by omega) noT (by rw [noT_s]; omega)
  · simp only [spec_PrintScript.l10]
    exact Ev.ite_neg (by omega) (Ev.ret _)
  · have h17 : Ev (fun k => spec_PrintScript.l17 k) (noT, false) := Ev.step (by simp only [spec_PrintScript.l17, e1]; exact Ev.ret _)
    have hr : rd_T85 l (i : Int) = l.getD i z85 := rfl
    have h13 : ∀ c, cmdV t (l.getD i z85) = some c → Ev (fun k => spec_PrintScript.l13 k l (s ++ c) (i : Int) t) (scrV t (l.getD i z85 :: l.drop (i + 1)) s) := by
      intro c hc
      have hz := cmdV_size h hc
      refine Ev.step ?_
      simp only [spec_PrintScript.l13, wrap_succ hi (by omega)]
      rw [scrV, hc]
      exact ih _ (by rw [ByteArray.size_append]; omega)
    have hno : cmdV t (l.getD i z85) = none → scrV t (l.getD i z85 :: l.drop (i + 1)) s = (noT, false) := by
      intro hc; rw [scrV, hc]
    generalize l.getD i z85 = c at h13 hno hr
    have hR : ∀ W, (cmdV t c = some (nmV t c.f1) → c.f0 = 2 → W = scrV t (c :: l.drop (i + 1)) s) → (cmdV t c = none → W = (noT, false)) → c.f0 = 2 →
        Ev (fun k => if inB c.f1 0 (wrap64 ((t.f7.length : Int) - 1)) = true then (if c.f2 = 0 then (if s.size + reT.size ≤ 9223372036854775807 then (if 0 ≤ c.f1 then (if c.f1 < (t.f7.length : Int) then (if (s ++ reT).size + ((rd_T71 t.f7 c.f1).f0).size ≤ 9223372036854775807 then (if ((s ++ reT) ++ ((rd_T71 t.f7 c.f1).f0)).size + (ByteArray.mk #[10]).size ≤ 9223372036854775807 then (spec_PrintScript.l13 k l (((s ++ reT) ++ ((rd_T71 t.f7 c.f1).f0)) ++ (ByteArray.mk #[10])) (i : Int) t) else none) else none) else none) else none) else none) else (spec_PrintScript.l17 k)) else (spec_PrintScript.l17 k)) W := by
      intro W w1 w2 c2
      have c0 : ¬ c.f0 = 0 := by omega
      have c1 : ¬ c.f0 = 1 := by omega
      refine Ev.ite_both (fun i1 => Ev.ite_both (fun z => ?_) fun z => ?_) fun i1 => ?_
      · have hc : cmdV t c = some (nmV t c.f1) := by unfold cmdV; rw [if_neg c0, if_neg c1, if_pos c2, if_pos i1, if_pos z]
        rw [w1 hc c2]
        have h2 := in_iff.1 i1
        rw [wrap_of (by omega) (by omega)] at h2
        have hn := nmV_size h h2.1 (by omega)
        have hv := h13 _ hc
        unfold nmV at hv
        rw [app_assoc, app_assoc] at hv
        exact Ev.ite_pos (by rw [reT_s]; omega) (Ev.ite_pos (by omega) (Ev.ite_pos (by omega) (Ev.ite_pos (by rw [ByteArray.size_append, reT_s]; omega) (Ev.ite_pos (by simp only [ByteArray.size_append, reT_s, sz10]; omega) hv))))
      · exact h17.cast (w2 (by unfold cmdV; rw [if_neg c0, if_neg c1, if_pos c2, if_pos i1, if_neg z])).symm
      · exact h17.cast (w2 (by unfold cmdV; rw [if_neg c0, if_neg c1, if_pos c2, if_neg i1])).symm
    have h23 : (c.f0 = 0 → cmdV t c = none) → Ev (fun k => spec_PrintScript.l23 k l s (i : Int) t c) (scrV t (c :: l.drop (i + 1)) s) := by
      intro hc0
      refine Ev.step ?_
      simp only [spec_PrintScript.l23, l01In_some, Option.bind_some, e2, e3]
      have hT : c.f0 = 2 → Ev (fun k => if inB c.f1 0 (wrap64 ((t.f7.length : Int) - 1)) = true then _ else _) _ := fun c2 => hR _ (fun _ _ => rfl) hno c2
      refine Ev.ite_both (fun c1 => ?_) fun c1 => ?_
      · have c0 : ¬ c.f0 = 0 := by omega
        have c2 : ¬ c.f0 = 2 := by omega
        refine Ev.ite_both (fun i1 => ?_) fun i1 => ?_
        · have hc : cmdV t c = some (lineV inT [c.f1, wrap64 c.f2]) := by unfold cmdV; rw [if_neg c0, if_pos c1, if_pos i1]
          have hz := cmdV_size h hc
          exact Ev.bind (say_ev _ (ok2 i1 (by omega) (by omega)) (by simp) _ (by rw [inT_s]; omega)) (Ev.ite_pos (by omega) (h13 _ hc))
        · exact Ev.ite_neg c2 (h17.cast (hno (by unfold cmdV; rw [if_neg c0, if_pos c1, if_neg i1])).symm)
      · refine Ev.ite_both (fun c2 => hT c2) fun c2 => ?_
        refine h17.cast (hno ?_).symm
        by_cases c0 : c.f0 = 0
        · exact hc0 c0
        · unfold cmdV; rw [if_neg c0, if_neg c1, if_neg c2]
    simp only [spec_PrintScript.l10, hr, l01In_some, Option.bind_some, e4]
    refine Ev.ite_pos (lt_in hi) (Ev.ite_pos ge_0 (Ev.ite_pos (lt_in hi) (Ev.ite_both (fun c0 => Ev.ite_both (fun i1 => Ev.ite_both (fun z => ?_) fun z => ?_) fun i1 => ?_) fun c0 => ?_)))
    · have hc : cmdV t c = some (lineV runT [c.f1]) := by unfold cmdV; rw [if_pos c0, if_pos i1, if_pos z]
      have hz := cmdV_size h hc
      exact Ev.bind (say_ev _ (ok1 i1 (by omega) (by omega)) (by simp) _ (by rw [runT_s]; omega)) (Ev.ite_pos (by omega) (h13 _ hc))
    · exact h23 fun _ => by unfold cmdV; rw [if_pos c0, if_pos i1, if_neg z]
    · exact h23 fun _ => by unfold cmdV; rw [if_pos c0, if_neg i1]
    · exact h23 fun h => absurd h c0

theorem parts_names : ∀ (mem : Int) (P : List S71) (n i : Nat), partsFrom mem P n i = true → ∀ j, i ≤ j → j < i + n → (P.getD j z71).f0.size ≤ 8
  | mem, P, 0, i, _, j, h0, h1 => by omega
  | mem, P, n + 1, i, h, j, h0, h1 => by
    rw [partsFrom] at h
    simp only [Bool.and_eq_true] at h
    by_cases e : j = i
    · subst e
      have := h.1
      simp only [partOkB, nameB, Bool.and_eq_true, decide_eq_true_eq] at this
      omega
    · exact parts_names mem P n (i + 1) h.2.2 j (by omega) (by omega)
theorem sound_nam {t : S33} (h : soundB t = true) : Nam t := by
  simp only [soundB, specPartsB, Bool.and_eq_true] at h
  have h1 := in_iff.1 h.2.1.1
  refine ⟨by omega, fun p hp => ?_⟩
  obtain ⟨j, hj, rfl⟩ := List.getElem_of_mem hp
  have := parts_names _ _ _ _ h.2.1.2.1 j (by omega) (by omega)
  rwa [List.getD_eq_getElem?_getD, List.getElem?_eq_getElem hj] at this
def prV (t : S33) (l : List S85) : ByteArray × Bool := if soundB t = true then (if (l.length : Int) > 300 then (noT, false) else scrV t l noT) else (noT, false)
theorem specPr (t : S33) (hs : Small t) (hnm : ∀ p ∈ t.f7, p.f0.size ≤ 9223372036854775807) (l : List S85) : Ev (fun k => spec_PrintScript.f k t l) (prV t l) := by
  have h5 : Ev (fun k => spec_PrintScript.l5 k) (noT, false) := Ev.step (by simp only [spec_PrintScript.l5]; exact Ev.ret _)
  unfold spec_PrintScript.f prV
  refine Ev.bind (specSound t hs hnm) (Ev.ite_both (fun h => ?_) fun h => ?_)
  · rw [if_pos h]
    refine Ev.ite_both (fun g => ?_) fun g => ?_
    · rw [if_pos g]; exact h5
    · rw [if_neg g]; exact specScr (sound_nam h) l (by omega)
  · rw [if_neg h]; exact h5
theorem implPr (t : S33) (hs : Small t) (hnm : ∀ p ∈ t.f7, p.f0.size ≤ 9223372036854775807) (l : List S85) : Ev (fun k => impl_PrintScript.f k t l) (prV t l) := by
  unfold impl_PrintScript.f prV
  refine Ev.bind (implSound t hs hnm) (Ev.ite_both (fun h => ?_) fun h => ?_)
  · rw [if_pos h]
    refine Ev.ite_both (fun g => ?_) fun g => ?_
    · rw [if_pos g]; exact Ev.ret _
    · rw [if_neg g]; exact implScr (sound_nam h) l (by omega)
  · rw [if_neg h]; exact Ev.ret _

end Go.Proofs.YtcjfheidmlcbfaaGreatDoor.PSr
