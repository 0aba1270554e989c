/- Plain Lean over the printed functions: what is marked is held. -/
import Derived.Test.YtcjfheidmlcbfaaGreatDoorC2
set_option linter.unusedVariables false
set_option linter.unusedSimpArgs false
namespace Go.Proofs.YtcjfheidmlcbfaaGreatDoor.PPa
open Go Go.RowKit Go.Proofs.YtcjfheidmlcbfaaGreatDoor.V Go.Proofs.YtcjfheidmlcbfaaGreatDoor.C

def mks {α : Type} (w : α → Int) : List α → Int
  | [] => 0
  | a :: l => w a + mks w l
def mkl {α : Type} (f : Int → α → α) (w : α → Int) : Int → List α → List α
  | _, [] => []
  | x, a :: l => f x a :: mkl f w (x + w a) l
theorem mks_const {α : Type} (c : Int) : ∀ l : List α, mks (fun _ => c) l = c * (l.length : Int)
  | [] => by simp [mks]
  | a :: l => by simp only [mks, mks_const c l, List.length_cons]; rw [Int.natCast_add, Int.mul_add]; omega
theorem mks_nn {α : Type} {w : α → Int} (h : ∀ a, 0 ≤ w a) : ∀ l : List α, 0 ≤ mks w l
  | [] => Int.le_refl _
  | a :: l => by have := h a; have := mks_nn h l; simp only [mks]; omega
theorem mkl_len {α : Type} (f : Int → α → α) (w : α → Int) : ∀ (l : List α) (x : Int), (mkl f w x l).length = l.length
  | [], _ => rfl
  | a :: l, x => by simp [mkl, mkl_len f w l]
theorem get_mid {α : Type} (pre suf : List α) (a z : α) : (pre ++ a :: suf).getD ((pre.length : Nat) : Int).toNat z = a := by simp [List.getD_eq_getElem?_getD]
theorem set_mid {α : Type} (pre suf : List α) (a b : α) : (pre ++ a :: suf).set ((pre.length : Nat) : Int).toNat b = pre ++ b :: suf := by simp
theorem lt_mid {α : Type} (pre suf : List α) (a : α) : ((pre.length : Nat) : Int) < ((pre ++ a :: suf).length : Int) := by simp; omega
theorem len_mid {α : Type} {pre suf : List α} {a b : α} : (pre ++ a :: suf).length = (pre ++ b :: suf).length := by simp

/-- A loop that writes into each element. -/
theorem marks_ev {α : Type} (w : α → Int) (hw : ∀ a, 0 ≤ w a) (f : Int → α → α) (B : Int) (L : Nat → Int → Int → List α → Option (Int × List α)) (hend : ∀ x l, Ev (fun k => L k x (l.length : Int) l) (x, l))
    (hstep : ∀ pre a suf x, (pre ++ a :: suf).length ≤ 1048576 → 0 ≤ x → x + w a ≤ B → ∀ v, Ev (fun k => L k (x + w a) ((pre.length + 1 : Nat) : Int) (pre ++ f x a :: suf)) v → Ev (fun k => L k x (pre.length : Int) (pre ++ a :: suf)) v) :
    ∀ (suf pre : List α) (x : Int), (pre ++ suf).length ≤ 1048576 → 0 ≤ x → x + mks w suf ≤ B → Ev (fun k => L k x (pre.length : Int) (pre ++ suf)) (x + mks w suf, pre ++ mkl f w x suf)
  | [], pre, x, _, _, _ => by simpa [mks, mkl] using hend x pre
  | a :: suf, pre, x, hl, hx, hB => by
    have h1 := mks_nn hw suf
    have h2 := hw a
    simp only [mks] at hB
    refine hstep pre a suf x hl hx (by omega) _ ?_
    have := marks_ev w hw f B L hend hstep suf (pre ++ [f x a]) (x + w a) (by simpa using hl) (by omega) (by omega)
    simpa [mks, mkl, Int.add_assoc] using this

/-- A loop that looks whether each element is as it was written. -/
theorem held_ev {α : Type} (w : α → Int) (hw : ∀ a, 0 ≤ w a) (f : Int → α → α) (B : Int) (L : Nat → List α → Int → Int → Option Int) (hend : ∀ x l, Ev (fun k => L k l x (l.length : Int)) x)
    (hstep : ∀ pre a suf x, (pre ++ f x a :: suf).length ≤ 1048576 → 0 ≤ x → x + w a ≤ B → ∀ v, Ev (fun k => L k (pre ++ f x a :: suf) (x + w a) ((pre.length + 1 : Nat) : Int)) v → Ev (fun k => L k (pre ++ f x a :: suf) x (pre.length : Int)) v) :
    ∀ (suf pre : List α) (x : Int), (pre ++ suf).length ≤ 1048576 → 0 ≤ x → x + mks w suf ≤ B → Ev (fun k => L k (pre ++ mkl f w x suf) x (pre.length : Int)) (x + mks w suf)
  | [], pre, x, _, _, _ => by simpa [mks, mkl] using hend x pre
  | a :: suf, pre, x, hl, hx, hB => by
    have h1 := mks_nn hw suf
    have h2 := hw a
    simp only [mks] at hB
    simp only [mkl]
    refine hstep pre a _ x (by simpa [mkl_len] using hl) hx (by omega) _ ?_
    have := held_ev w hw f B L hend hstep suf (pre ++ [f x a]) (x + w a) (by simpa using hl) (by omega) (by omega)
    simpa [mks, mkl, Int.add_assoc] using this

def BB : Int := 1125899906842624
theorem wrap_in {x : Int} (h0 : 0 ≤ x) (h1 : x ≤ BB + 100) : wrap64 x = x := wrap_of (by omega) (by unfold BB at h1; omega)
theorem succ_mid {α : Type} {pre suf : List α} {a : α} (h : (pre ++ a :: suf).length ≤ 1048576) : wrap64 ((pre.length : Int) + 1) = ((pre.length + 1 : Nat) : Int) := by
  simp at h
  unfold wrap64; omega

/-! ### ints -/
def fI (x : Int) (_ : Int) : Int := x
theorem markIntS_ev (l : List Int) (hl : l.length ≤ 1048576) (x : Int) (hx : 0 ≤ x) (hB : x + mks (fun _ => 1) l ≤ BB) : Ev (fun k => laws_markIntS_o1.f k x l) (x + mks (fun _ => 1) l, mkl fI (fun _ => 1) x l) := by
  have := marks_ev (fun _ => 1) (by simp) fI BB laws_markIntS_o1.l4 (fun x l => Ev.step (by simp only [lenZ_eq, laws_markIntS_o1.l4]; exact Ev.ite_neg (by omega) (Ev.ret _))) (fun pre a suf x h0 h1 h2 v hv => Ev.step (by
    simp only [lenZ_eq, laws_markIntS_o1.l4, set_mid, succ_mid h0, wrap_in (show 0 ≤ x + 1 by omega) (by omega)]
    exact Ev.ite_pos (lt_mid ..) (Ev.ite_pos ge_0 (Ev.ite_pos (lt_mid ..) hv)))) l [] x (by simpa using hl) hx hB
  simpa [laws_markIntS_o1.f] using this
/-! ### windows, channels, slots -/
def fW (x : Int) (a : S66) : S66 := (x, x + 1, x + 1 + 1)
theorem markWindowS_ev (l : List S66) (hl : l.length ≤ 1048576) (x : Int) (hx : 0 ≤ x) (hB : x + mks (fun _ => 3) l ≤ BB) : Ev (fun k => laws_markWindowS_o1.f k x l) (x + mks (fun _ => 3) l, mkl fW (fun _ => 3) x l) := by
  have := marks_ev (fun _ => 3) (by simp) fW BB laws_markWindowS_o1.l4 (fun x l => Ev.step (by simp only [lenZ_eq, laws_markWindowS_o1.l4]; exact Ev.ite_neg (by omega) (Ev.ret _))) (fun pre a suf x h0 h1 h2 v hv => Ev.step (by
    simp only [lenZ_eq, laws_markWindowS_o1.l4, rd_T66, get_mid, set_mid, succ_mid h0, wrap_in (show 0 ≤ x + 1 by omega) (by omega), wrap_in (show 0 ≤ x + 1 + 1 by omega) (by omega), wrap_in (show 0 ≤ x + 1 + 1 + 1 by omega) (by omega)]
    rw [show x + 3 = x + 1 + 1 + 1 by omega] at hv
    exact Ev.ite_pos (lt_mid ..) (Ev.ite_pos ge_0 (Ev.ite_pos (lt_mid ..) (Ev.ite_pos ge_0 (Ev.ite_pos (lt_mid ..) (Ev.ite_pos ge_0 (Ev.ite_pos (lt_mid ..) hv)))))))) l [] x (by simpa using hl) hx hB
  simpa [laws_markWindowS_o1.f] using this
def fC (x : Int) (a : S77) : S77 := (x, x + 1, x + 1 + 1, x + 1 + 1 + 1)
theorem markChanRowS_ev (l : List S77) (hl : l.length ≤ 1048576) (x : Int) (hx : 0 ≤ x) (hB : x + mks (fun _ => 4) l ≤ BB) : Ev (fun k => laws_markChanRowS_o1.f k x l) (x + mks (fun _ => 4) l, mkl fC (fun _ => 4) x l) := by
  have := marks_ev (fun _ => 4) (by simp) fC BB laws_markChanRowS_o1.l4 (fun x l => Ev.step (by simp only [lenZ_eq, laws_markChanRowS_o1.l4]; exact Ev.ite_neg (by omega) (Ev.ret _))) (fun pre a suf x h0 h1 h2 v hv => Ev.step (by
    simp only [lenZ_eq, laws_markChanRowS_o1.l4, rd_T77, get_mid, set_mid, succ_mid h0, wrap_in (show 0 ≤ x + 1 by omega) (by omega), wrap_in (show 0 ≤ x + 1 + 1 by omega) (by omega), wrap_in (show 0 ≤ x + 1 + 1 + 1 by omega) (by omega), wrap_in (show 0 ≤ x + 1 + 1 + 1 + 1 by omega) (by omega)]
    rw [show x + 4 = x + 1 + 1 + 1 + 1 by omega] at hv
    exact Ev.ite_pos (lt_mid ..) (Ev.ite_pos ge_0 (Ev.ite_pos (lt_mid ..) (Ev.ite_pos ge_0 (Ev.ite_pos (lt_mid ..) (Ev.ite_pos ge_0 (Ev.ite_pos (lt_mid ..) (Ev.ite_pos ge_0 (Ev.ite_pos (lt_mid ..) hv)))))))))) l [] x (by simpa using hl) hx hB
  simpa [laws_markChanRowS_o1.f] using this
def fS (x : Int) (a : S182) : S182 := (x, x + 1, x + 1 + 1)
theorem markSlotS_ev (l : List S182) (hl : l.length ≤ 1048576) (x : Int) (hx : 0 ≤ x) (hB : x + mks (fun _ => 3) l ≤ BB) : Ev (fun k => laws_markSlotS_o1.f k x l) (x + mks (fun _ => 3) l, mkl fS (fun _ => 3) x l) := by
  have := marks_ev (fun _ => 3) (by simp) fS BB laws_markSlotS_o1.l4 (fun x l => Ev.step (by simp only [lenZ_eq, laws_markSlotS_o1.l4]; exact Ev.ite_neg (by omega) (Ev.ret _))) (fun pre a suf x h0 h1 h2 v hv => Ev.step (by
    simp only [lenZ_eq, laws_markSlotS_o1.l4, rd_T182, get_mid, set_mid, succ_mid h0, wrap_in (show 0 ≤ x + 1 by omega) (by omega), wrap_in (show 0 ≤ x + 1 + 1 by omega) (by omega), wrap_in (show 0 ≤ x + 1 + 1 + 1 by omega) (by omega)]
    rw [show x + 3 = x + 1 + 1 + 1 by omega] at hv
    exact Ev.ite_pos (lt_mid ..) (Ev.ite_pos ge_0 (Ev.ite_pos (lt_mid ..) (Ev.ite_pos ge_0 (Ev.ite_pos (lt_mid ..) (Ev.ite_pos ge_0 (Ev.ite_pos (lt_mid ..) hv)))))))) l [] x (by simpa using hl) hx hB
  simpa [laws_markSlotS_o1.f] using this

/-! ### names -/
theorem markText_l8 : ∀ (n : Nat) (x : Int) (s : ByteArray), x.toNat = n → 0 ≤ x → (s.size : Int) + x ≤ 2251799813685248 → ∃ r, Ev (fun k => laws_markText.l8 k x s) r := by
  intro n
  induction n using Nat.strongRecOn with
  | ind n ih =>
    intro x s hn h0 hb
    by_cases hx : x > 0
    · have e1 : Int.tdiv x 10 = x / 10 := Int.tdiv_eq_ediv_of_nonneg h0
      have e2 : wrap64 (x / 10) = x / 10 := wrap_of (by omega) (by omega)
      obtain ⟨r, hr⟩ := ih (x / 10).toNat (by omega) (x / 10) (strOf ([(IntKind.wrap .u8 ((wrap64 (48 + (Int.tmod x 10)))))] : List Int) ++ s) rfl (by omega) (by
        rw [ByteArray.size_append]
        have : (strOf ([(IntKind.wrap .u8 ((wrap64 (48 + (Int.tmod x 10)))))] : List Int)).size = 1 := rfl
        omega)
      refine ⟨r, Ev.step ?_⟩
      simp only [lenZ_eq, laws_markText.l8, e1, e2]
      refine Ev.ite_pos hx (Ev.ite_pos ?_ hr)
      have : (strOf ([(IntKind.wrap .u8 ((wrap64 (48 + (Int.tmod x 10)))))] : List Int)).size = 1 := rfl
      omega
    · refine ⟨ByteArray.mk #[109] ++ s, Ev.step ?_⟩
      simp only [lenZ_eq, laws_markText.l8]
      refine Ev.ite_neg hx (Ev.ite_pos ?_ (Ev.ret _))
      have : (ByteArray.mk #[109]).size = 1 := rfl
      omega
theorem markText_ev (x : Int) (hx : x ≤ BB) : ∃ r, Ev (fun k => laws_markText.f k x) r := by
  unfold laws_markText.f
  try simp only [lenZ_eq]
  by_cases h : x ≤ 0
  · exact ⟨_, Ev.ite_pos h (Ev.ret _)⟩
  · obtain ⟨r, hr⟩ := markText_l8 x.toNat x (ByteArray.mk #[]) rfl (by omega) (by have : (ByteArray.mk #[]).size = 0 := rfl; unfold BB at hx; omega)
    exact ⟨r, Ev.ite_neg h hr⟩
open Classical in
noncomputable def txt (x : Int) : ByteArray := if h : x ≤ BB then Classical.choose (markText_ev x h) else ByteArray.empty
theorem txt_ev (x : Int) (hx : x ≤ BB) : Ev (fun k => laws_markText.f k x) (txt x) := by
  unfold txt
  rw [dif_pos hx]
  exact Classical.choose_spec (markText_ev x hx)

/-! ### partitions -/
def wP (a : S71) : Int := 4 + mks (fun _ => 3) a.f3
noncomputable def fP (x : Int) (a : S71) : S71 := (txt x, x + 1, (x + 1 + 1, x + 1 + 1 + 1), mkl fW (fun _ => 3) (x + 1 + 1 + 1 + 1) a.f3)
theorem wP_nn (a : S71) : 0 ≤ wP a := by have := mks_nn (w := fun _ : S66 => 3) (by simp) a.f3; unfold wP; omega
theorem mks_mem {α : Type} {w : α → Int} (h : ∀ a, 0 ≤ w a) {l : List α} {a : α} (ha : a ∈ l) : w a ≤ mks w l := by
  induction l with
  | nil => simp at ha
  | cons b l ih =>
    have h1 := h b
    have h2 := mks_nn h l
    simp only [mks]
    rcases List.mem_cons.1 ha with rfl | ha
    · omega
    · have := ih ha; omega
theorem markPartRowS_eq (l : List S71) (hl : l.length ≤ 1048576) (hw : ∀ a ∈ l, a.f3.length ≤ 1048576) (x : Int) (hx : 0 ≤ x) (hB : x + mks wP l ≤ BB) : Ev (fun k => laws_markPartRowS_o1.f k x l) (x + mks wP l, mkl fP wP x l) := by
  have key : ∀ (suf pre : List S71) (x : Int), (pre ++ suf).length ≤ 1048576 → (∀ a ∈ suf, a.f3.length ≤ 1048576) → 0 ≤ x → x + mks wP suf ≤ BB → Ev (fun k => laws_markPartRowS_o1.l4 k x (pre.length : Int) (pre ++ suf)) (x + mks wP suf, pre ++ mkl fP wP x suf) := by
    intro suf
    induction suf with
    | nil =>
      intro pre x _ _ _ _
      refine Ev.step ?_
      simp only [lenZ_eq, laws_markPartRowS_o1.l4, List.append_nil, mks, mkl, Int.add_zero]
      exact Ev.ite_neg (by omega) (Ev.ret _)
    | cons a suf ih =>
      intro pre x h0 hws h1 h2
      have q1 := mks_nn wP_nn suf
      have q2 := mks_nn (w := fun _ : S66 => 3) (by simp) a.f3
      simp only [mks] at h2
      have h3 : x + wP a ≤ BB := by omega
      unfold wP at h3
      have hrec := ih (pre ++ [fP x a]) (x + wP a) (by simpa using h0) (fun b hb => hws b (by simp [hb])) (by have := wP_nn a; omega) (by omega)
      have hrec' : Ev (fun k => laws_markPartRowS_o1.l4 k (x + 1 + 1 + 1 + 1 + mks (fun _ => 3) a.f3) ((pre.length + 1 : Nat) : Int) (pre ++ fP x a :: suf)) (x + mks wP (a :: suf), pre ++ mkl fP wP x (a :: suf)) := by
        have e : x + wP a = x + 1 + 1 + 1 + 1 + mks (fun _ => 3) a.f3 := by unfold wP; omega
        rw [e] at hrec
        simp only [mks, mkl, List.append_assoc, List.singleton_append, List.length_append, List.length_cons, List.length_nil] at hrec ⊢
        rw [e, ← Int.add_assoc, e]
        exact hrec
      refine Ev.step ?_
      simp only [lenZ_eq, laws_markPartRowS_o1.l4, rd_T71, get_mid, set_mid, succ_mid h0, wrap_in (show 0 ≤ x + 1 by omega) (by omega), wrap_in (show 0 ≤ x + 1 + 1 by omega) (by omega), wrap_in (show 0 ≤ x + 1 + 1 + 1 by omega) (by omega), wrap_in (show 0 ≤ x + 1 + 1 + 1 + 1 by omega) (by omega)]
      refine Ev.ite_pos (lt_mid ..) (Ev.bind (txt_ev x (by omega)) (Ev.ite_pos ge_0 (Ev.ite_pos (lt_mid ..) (Ev.ite_pos ge_0 (Ev.ite_pos (lt_mid ..) (Ev.ite_pos ge_0 (Ev.ite_pos (lt_mid ..) (Ev.ite_pos ge_0 (Ev.ite_pos (lt_mid ..) (Ev.ite_pos ge_0 (Ev.ite_pos (lt_mid ..) (Ev.bind (markWindowS_ev a.f3 (hws a (by simp)) _ (by omega) (by omega)) ?_))))))))))))
      exact hrec'
  have := key l [] x (by simpa using hl) hw hx hB
  simpa [laws_markPartRowS_o1.f] using this
theorem markPartRowS_ev (l : List S71) (hl : l.length ≤ 1048576) (hw : ∀ a ∈ l, a.f3.length ≤ 1048576) (x : Int) (hx : 0 ≤ x) (hB : x + mks wP l ≤ BB) : ∃ l', Ev (fun k => laws_markPartRowS_o1.f k x l) (x + mks wP l, l') := ⟨_, markPartRowS_eq l hl hw x hx hB⟩

theorem parts_sum (l : List S71) (hl : l.length ≤ 1048576) (hw : ∀ a ∈ l, a.f3.length ≤ 1048576) : mks wP l ≤ 4194304 * (l.length : Int) := by
  induction l with
  | nil => simp [mks]
  | cons a l ih =>
    have h1 := ih (by simp at hl; omega) (fun b hb => hw b (by simp [hb]))
    have h2 := hw a (by simp)
    simp only [mks, wP, mks_const, List.length_cons]
    omega
theorem markTables_ev (t : S33) (h : Small t) : ∃ v, Ev (fun k => laws_markTables_o1.f k t.f0 t.f1.f0 t.f1.f1 t.f1.f2 t.f2 t.f3.f0 t.f3.f1 t.f3.f2 t.f3.f3 t.f3.f4 t.f3.f5 t.f3.f6 t.f4 t.f5 t.f6 1 t.f7 t.f8 t.f9 t.f10) v ∧ 0 ≤ v.1 ∧ v.1 ≤ 8796093022208 := by
  have hp := parts_sum t.f7 h.parts h.windows
  have hp0 := mks_nn wP_nn t.f7
  have h1 := h.parts
  have h2 := h.devs
  have h3 := h.chans
  have h4 := h.slots
  obtain ⟨l', e1⟩ := markPartRowS_ev t.f7 h.parts h.windows 1 (by omega) (by unfold BB; omega)
  have e2 := markIntS_ev t.f8 h.devs (1 + mks wP t.f7) (by omega) (by rw [mks_const]; unfold BB; omega)
  have e3 := markChanRowS_ev t.f9 h.chans (1 + mks wP t.f7 + mks (fun _ => 1) t.f8) (by rw [mks_const]; omega) (by rw [mks_const, mks_const]; unfold BB; omega)
  have e4 := markSlotS_ev t.f10 h.slots (1 + mks wP t.f7 + mks (fun _ => 1) t.f8 + mks (fun _ => 4) t.f9) (by rw [mks_const, mks_const]; omega) (by rw [mks_const, mks_const, mks_const]; unfold BB; omega)
  unfold laws_markTables_o1.f
  try simp only [lenZ_eq]
  refine ⟨_, Ev.bind e1 (Ev.bind e2 (Ev.bind e3 (Ev.bind e4 (Ev.ret _)))), ?_, ?_⟩
  all_goals
    simp only [mks_const]
    omega
end Go.Proofs.YtcjfheidmlcbfaaGreatDoor.PPa
