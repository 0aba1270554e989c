/- What a function's contract follows from. -/
import Derived.Test.YtgagpmiooeoodaaGreatA9
set_option linter.unusedVariables false
set_option linter.unusedSimpArgs false
set_option linter.unusedSectionVars false
namespace Go.Proofs.YtgagpmiooeoodaaGreat.A
open Go.RowKit

section
variable {P : Program} {R : Type} {C : Cx} {r : R}

structure Fr0 (w0 : World) (C : Cx) : Prop where
  B : C.B = w0.heap.size
  X : ∀ b, ¬ C.X b
  below : Below w0.heap.size w0 C.w

theorem Fr0.step {w0 : World} {C C' : Cx} (h : Fr0 w0 C) (hle : C.le C') (hf : Frm C C') : Fr0 w0 C' :=
  ⟨hle.B.trans h.B, fun b hb => h.X b (by rw [← hf.X]; exact hb), h.below.trans ⟨hf.os, hf.tape, hf.output, hf.size, fun k hk => hf.block k (by rw [h.B]; exact hk) (h.X k)⟩⟩

def Cx.fr (C : Cx) : Cx := { C with S := fun b => C.S b ∧ C.B ≤ b }

theorem freshC_r {c : Cell} {u : Value} (hf : freshC c = true) (h : CellR C c u) : CellR C.fr c u := by
  cases c <;> try exact h
  case sl f t l =>
    simp only [freshC] at hf
    subst hf
    exact Rd.mono (S := C.Sf true) (fun b hb => ⟨⟨hb.1, hb.2 rfl⟩, hb.2⟩) (fun _ _ => rfl) (.sl t) _ _ h
  case sptr f t x o =>
    simp only [freshC] at hf
    subst hf
    exact SPtr.mono (S := C.Sf true) (fun b hb => ⟨⟨hb.1, hb.2 rfl⟩, hb.2⟩) (fun _ _ => rfl) h
  case fn f l =>
    cases l with
    | nil => obtain ⟨vs, hv, hc⟩ := h; exact ⟨vs, hv, by cases hq : vs.toList with | nil => trivial | cons a b => rw [hq] at hc; exact hc.elim⟩
    | cons a b => cases hf
theorem freshL_r : ∀ {l : List Cell} {vs : List Value}, fresh l = true → LR C l vs → LR C.fr l vs
  | [], [], _, _ => trivial
  | c :: l, _ :: _, hf, h => ⟨freshC_r ((fresh_iff _).1 hf c (by simp)) h.1, freshL_r ((fresh_iff _).2 fun d hd => (fresh_iff _).1 hf d (by simp [hd])) h.2⟩
  | [], _ :: _, _, h => h.elim
  | _ :: _, [], _, h => h.elim
theorem freshTL_r : ∀ {l : List (Bool × List Cell)} {vs : List Value}, (l.all fun p => fresh p.2) = true → TL C l vs → TL C.fr l vs
  | [], [], _, _ => trivial
  | (b, l) :: _, u :: _, hf, h => by
    simp only [List.all_cons, Bool.and_eq_true] at hf
    refine ⟨?_, freshTL_r hf.2 h.2⟩
    cases b
    · exact freshL_r (vs := [u]) hf.1 h.1
    · obtain ⟨vs, hv, hl⟩ := h.1; exact ⟨vs, hv, freshL_r hf.1 hl⟩
  | [], _ :: _, _, h => h.elim
  | _ :: _, [], _, h => h.elim
theorem freshA_r {v : AV} {u : Value} (hf : freshA v = true) (h : AVR C v u) : AVR C.fr v u := by
  cases v with
  | c x => exact freshC_r ((fresh_iff _).1 hf x (by simp)) h
  | agg l => obtain ⟨vs, hv, hl⟩ := h; exact ⟨vs, hv, freshL_r hf hl⟩
  | tup l => obtain ⟨vs, hv, hl⟩ := h; exact ⟨vs, hv, freshTL_r hf hl⟩
theorem HeapR.fr (hH : HeapR C) (hf : C.H.all freshB = true) : HeapR C.fr := by
  refine ⟨hH.base, fun b hb => hH.st b hb.1, fun b x hx => ?_, fun b g h1 h2 => ⟨fun h => (hH.own b g h1 h2).1 h.1, (hH.own b g h1 h2).2⟩, hH.inj⟩
  have hx' : C.H[b]? = some x := hx
  have hb := hH.blk b x hx'
  have hfx := List.all_eq_true.1 hf x (List.mem_of_getElem? hx')
  cases x with
  | dead => trivial
  | cells ty l => obtain ⟨g, cs, h1, h2, h3⟩ := hb; exact ⟨g, cs, h1, h2, freshL_r hfx h3⟩
  | arr t ety l f =>
    simp only [freshB] at hfx
    subst hfx
    obtain ⟨xs, h1, h2, h3⟩ := hb
    exact ⟨xs, h1, h2, fun i u hu => Rd.mono (S := C.Sf true) (fun b hb => ⟨⟨hb.1, hb.2 rfl⟩, hb.2⟩) (fun _ _ => rfl) _ _ _ (h3 i u hu)⟩

theorem AL.ren {σ : List Nat} : ∀ {l : List AV} {vs : List Value}, AL C l vs → AL (C.ren σ) (l.map (renA σ)) vs
  | [], [], _ => trivial
  | _ :: _, _ :: _, h => ⟨renA_r h.1, AL.ren h.2⟩
  | [], _ :: _, h => h.elim
  | _ :: _, [], h => h.elim
theorem AL.mono {C C' : Cx} (hle : C.le C') : ∀ {l : List AV} {vs : List Value}, AL C l vs → AL C' l vs
  | [], [], _ => trivial
  | _ :: _, _ :: _, h => ⟨AVR.mono hle h.1, AL.mono hle h.2⟩
  | [], _ :: _, h => h.elim
  | _ :: _, [], h => h.elim

theorem compactK_r (hH : HeapR C) {vs : List AV} {us : List Value} (hv : AL C vs us) {k : List AV → List Blk → Option R} (h : compactK vs C.H k = some r) :
    ∃ (σ : List Nat) (vs' : List AV), HeapR (C.ren σ) ∧ AL (C.ren σ) vs' us ∧ k vs' (C.ren σ).H = some r := by
  unfold compactK at h
  obtain ⟨h1, h2⟩ := bool_cond h
  exact ⟨_, _, hH.ren h1, hv.ren, h2⟩

/-! ### What is handed back -/

def finQ (P : Program) (fn : Func) (fin : AV → List Blk → Option R) (r : R) (w0 : World) (a : Act) (w : World) : Prop :=
  a.defers = [] ∧ ∃ u, (results fn a.tmps).run P w = .ok u w ∧ Below w0.heap.size w0 w ∧ ∃ v H, fin v H = some r ∧ ResR w0.heap.size w v H u

def resV (tmps : Array Value) : ResultVar → Sem Value
  | .tmp t => pure (tmps.getD t undef)
  | .cell a t => do loadVar t (← asAddr (tmps.getD a undef))

theorem HeapR.nilRow (hH : HeapR C) (y : Ty) (e : Nat) : ∃ C', C'.H = C.H ++ [.arr y e [] true] ∧ C'.w = C.w ∧ C.le C' ∧ HeapR C' ∧ Frm C C' ∧ AVR C' (.c (.own C.H.length)) (.slice none 0 0) := by
  obtain ⟨k1, k2, k3⟩ := hH.grow (w' := C.w) (H1 := C.H) (blk := .arr y e [] true) (v' := .slice none 0 0) none rfl (fun i x hx => .inr hx) rfl rfl rfl (Nat.le_refl _) (fun k hk _ => rfl) (by simp) (fun g hg => by cases hg) rfl
    (fun hle => ⟨[], .inr ⟨rfl, rfl, none, by simp⟩, fun _ g hg => by simp [ownB] at hg, fun i x hx => by simp at hx⟩)
  exact ⟨{ C with w := C.w, H := C.H ++ [.arr y e [] true], ρ := fun b => if b = C.H.length then .slice none 0 0 else C.ρ b }, rfl, rfl, k1, k2, k3, rfl, by simp, fun t n hs => by simp⟩

theorem coL_r (co : Co) : ∀ (l : List Cell) (vs : List Value) (n : Nat) {C : Cx}, HeapR C → LR C l vs → ∃ C', C'.H = (coL co n l C.H).2 ∧ C'.w = C.w ∧ C.le C' ∧ HeapR C' ∧ Frm C C' ∧ LR C' (coL co n l C.H).1 vs
  | [], [], n, C, hH, hl => ⟨C, rfl, rfl, .refl C, hH, .refl C, trivial⟩
  | c :: l, v :: vs, n, C, hH, hl => by
    simp only [coL]
    split
    · rename_i y e _
      obtain ⟨C1, k1, k2, k3, k4, k5, k6⟩ := hH.nilRow y e
      obtain ⟨C', h1, h2, h3, h4, h5, h6⟩ := coL_r co l vs (n + 1) k4 (hl.2.mono k3)
      rw [k1] at h1 h6
      have hv : v = .slice none 0 0 := hl.1
      refine ⟨C', h1, h2.trans k2, k3.trans h3, h4, k5.trans k3 h5, ?_, h6⟩
      rw [hv]
      exact k6.mono h3
    · obtain ⟨C', h1, h2, h3, h4, h5, h6⟩ := coL_r co l vs (n + 1) hH hl.2
      exact ⟨C', h1, h2, h3, h4, h5, hl.1.mono h3, h6⟩
  | [], _ :: _, _, _, _, h => h.elim
  | _ :: _, [], _, _, _, h => h.elim

theorem coA_r (co : Co) (n : Nat) {v : AV} {u : Value} (hH : HeapR C) (h : AVR C v u) : ∃ C', C'.H = (coA co n v C.H).2 ∧ C'.w = C.w ∧ C.le C' ∧ HeapR C' ∧ Frm C C' ∧ AVR C' (coA co n v C.H).1 u := by
  cases v with
  | c x =>
    obtain ⟨C', h1, h2, h3, h4, h5, h6⟩ := coL_r co [x] [u] n hH ⟨h, trivial⟩
    simp only [coA]
    split
    · rename_i y H hq
      rw [hq] at h1 h6
      exact ⟨C', h1, h2, h3, h4, h5, h6.1⟩
    · exact ⟨C, rfl, rfl, .refl C, hH, .refl C, h⟩
  | agg l =>
    obtain ⟨vs, hv, hl⟩ := h
    obtain ⟨C', h1, h2, h3, h4, h5, h6⟩ := coL_r co l _ n hH hl
    exact ⟨C', h1, h2, h3, h4, h5, vs, hv, h6⟩
  | tup l => exact ⟨C, rfl, rfl, .refl C, hH, .refl C, h⟩

theorem coAs_r (co : Co) : ∀ (l : List AV) (vs : List Value) (n : Nat) {C : Cx}, HeapR C → AL C l vs → ∃ C', C'.H = (coAs co n l C.H).2 ∧ C'.w = C.w ∧ C.le C' ∧ HeapR C' ∧ Frm C C' ∧ AL C' (coAs co n l C.H).1 vs
  | [], [], n, C, hH, hl => ⟨C, rfl, rfl, .refl C, hH, .refl C, trivial⟩
  | c :: l, v :: vs, n, C, hH, hl => by
    simp only [coAs]
    obtain ⟨C1, k1, k2, k3, k4, k5, k6⟩ := coA_r co n hH hl.1
    obtain ⟨C', h1, h2, h3, h4, h5, h6⟩ := coAs_r co l vs (n + 100) k4 (AL.mono k3 hl.2)
    rw [k1] at h1 h6
    exact ⟨C', h1, h2.trans k2, k3.trans h3, h4, k5.trans k3 h5, k6.mono h3, h6⟩
  | [], _ :: _, _, _, _, h => h.elim
  | _ :: _, [], _, _, _, h => h.elim

def resU : List Value → Value
  | [u] => u
  | us => .tuple us.toArray

section
variable {T : Nat → Option TI} (hT : TOK P T) {s : St} {nt : Nat} {a : Act} (hH : HeapR C) (hh : C.H = s.heap) (ht : TR C nt s.tmps a)
include hT hH hh ht
theorem finVals_r : ∀ (rs : List ResultVar) {k : List AV → Option R}, finVals T s rs k = some r → ∃ vs us, k vs = some r ∧ AL C vs us ∧ us.length = rs.length ∧ (rs.mapM (resV a.tmps)).run P C.w = .ok us C.w
  | [], k, h => ⟨[], [], h, trivial, rfl, by simp⟩
  | .tmp t :: rs, k, h => by
    simp only [finVals] at h
    obtain ⟨vs, us, h1, h2, h3, h4⟩ := finVals_r rs h
    exact ⟨s.get t :: vs, a.tmps.getD t undef :: us, h1, ⟨ht.at_ t, h2⟩, by simp [h3], by simp [List.mapM_cons, resV, h4]⟩
  | .cell c t :: rs, k, h => by
    simp only [finVals] at h
    obtain ⟨v, av, hk, hav, hrun⟩ := loadK_r hT hH hh (ht.at_ c) h
    obtain ⟨vs, us, h1, h2, h3, h4⟩ := finVals_r rs hk
    refine ⟨av :: vs, v :: us, h1, ⟨hav, h2⟩, by simp [h3], ?_⟩
    have hr := hrun C.w fun _ _ => rfl
    have hl : (resV a.tmps (.cell c t)).run P C.w = .ok v C.w := by
      cases hq : a.tmps.getD c undef <;> rw [hq] at hr <;> try (simp [Instr.loadAt, Instr.sureAddr, stuck] at hr; done)
      rename_i p
      cases p with
      | none => simp [Instr.loadAt, Instr.sureAddr, stuck] at hr
      | some p =>
        simp only [resV, hq, asAddr]
        simpa [Instr.loadAt, Instr.sureAddr] using hr
    simp [List.mapM_cons, hl, h4]

theorem finK_r {w0 : World} (hfr : Fr0 w0 C) {fn : Func} {co : Co} {fin : AV → List Blk → Option R} (h : finK T fn co s fin = some r) : finQ P fn fin r w0 a C.w := by
  unfold finK at h
  obtain ⟨vs, us, h1, h2, h3, h4⟩ := finVals_r hT hH hh ht _ h
  rw [← hh] at h1
  obtain ⟨C1, g1, g2, g3, g4, g5, g6⟩ := coAs_r co vs us 0 hH h2
  rw [← g1] at h1
  have hfr := hfr.step g3 g5
  rw [← g2] at h4
  rw [← g2]
  have hdf := ht.defers
  clear h2 hh hH ht
  obtain ⟨σ, vs', k1, k2, k3⟩ := compactK_r g4 g6 h1
  clear g1 g2 g3 g4 g5 g6 h1
  obtain ⟨hfb, k3⟩ := bool_cond k3
  have hres : (results fn a.tmps).run P C1.w = .ok (resU us) C1.w := by
    unfold results
    have e : fn.results.mapM (fun | .tmp t => pure (a.tmps.getD t undef) | .cell c t => do loadVar t (← asAddr (a.tmps.getD c undef)) : ResultVar → Sem Value) = List.toArray <$> fn.results.toList.mapM (resV a.tmps) := by
      rcases hq : fn.results with ⟨l⟩
      rw [List.mapM_toArray]
      have : (fun | .tmp t => pure (a.tmps.getD t undef) | .cell c t => do loadVar t (← asAddr (a.tmps.getD c undef)) : ResultVar → Sem Value) = resV a.tmps := by
        funext x; cases x <;> rfl
      rw [this]
    have hm : (fn.results.mapM (fun | .tmp t => pure (a.tmps.getD t undef) | .cell c t => do loadVar t (← asAddr (a.tmps.getD c undef)) : ResultVar → Sem Value)).run P C1.w = .ok us.toArray C1.w := by
      rw [e, Sem.run_map, h4]; rfl
    rw [Sem.run_bind]
    erw [hm]
    simp only [Result.andThen_ok, Sem.run_pure]
    match us with
    | [] => rfl
    | [u] => rfl
    | u :: u' :: us => rfl
  have frm : ∀ (v : AV) (u : Value), freshA v = true → AVR (C1.ren σ) v u → fin v (C1.ren σ).H = some r → ∃ v H, fin v H = some r ∧ ResR w0.heap.size C1.w v H u := by
    intro v u hf hv hk
    exact ⟨v, (C1.ren σ).H, hk, (C1.ren σ).fr, hfr.B, rfl, rfl, hfr.X, fun b hb => by rw [← hfr.B]; exact hb.2, k1.fr hfb, freshA_r hf hv⟩
  refine ⟨hdf, _, hres, hfr.below, ?_⟩
  split at k3
  · rename_i v _
    obtain ⟨hf, k3⟩ := bool_cond k3
    match us, k2 with
    | [u], k2 => exact frm v u hf k2.1 k3
    | u :: u' :: us, k2 => exact k2.2.elim
  · rename_i hne
    split at k3
    case h_2 => cases k3
    rename_i l hl
    obtain ⟨hf, k3⟩ := bool_cond k3
    have key : ∀ (vs : List AV) (l : List (Bool × List Cell)) (us : List Value), AL (C1.ren σ) vs us → svsOf vs = some l → TL (C1.ren σ) l us := by
      intro vs
      induction vs with
      | nil => intro l us h hl; cases hl; cases us with | nil => trivial | cons a b => exact h.elim
      | cons v vs ih =>
        intro l us h hl
        cases us with
        | nil => exact h.elim
        | cons u us =>
          simp only [svsOf] at hl
          split at hl
          · rename_i x l' hx hl'
            cases hl
            refine ⟨?_, ih l' us h.2 hl'⟩
            cases v with
            | c y => cases hx; exact ⟨h.1, trivial⟩
            | agg y => cases hx; exact h.1
            | tup y => cases hx
          · cases hl
    have htl := key vs' l us k2 hl
    have hu : resU us = .tuple us.toArray := by
      match us, k2 with
      | [], _ => rfl
      | [u], k2 =>
        match vs', k2, hne with
        | [v], _, hne => exact absurd rfl (hne v)
        | v :: v' :: vs, k2, _ => exact k2.2.elim
      | u :: u' :: us, _ => rfl
    rw [hu]
    exact frm (.tup l) _ hf ⟨us.toArray, rfl, by simpa using htl⟩ k3
end

/-! ### Jumps -/

def VL (C : Cx) (a : Act) : Live → List AV → Prop
  | [], [] => True
  | (t, _) :: r, v :: vs => AVR C v (a.tmps.getD t undef) ∧ VL C a r vs
  | _, _ => False

theorem VL.mono {C C' : Cx} (hle : C.le C') {a : Act} : ∀ {l : Live} {vs : List AV}, VL C a l vs → VL C' a l vs
  | [], [], _ => trivial
  | _ :: _, _ :: _, h => ⟨AVR.mono hle h.1, VL.mono hle h.2⟩
  | [], _ :: _, h => h.elim
  | _ :: _, [], h => h.elim
theorem VL.ren {σ : List Nat} {a : Act} : ∀ {l : Live} {vs : List AV}, VL C a l vs → VL (C.ren σ) a l (vs.map (renA σ))
  | [], [], _ => trivial
  | _ :: _, _ :: _, h => ⟨renA_r h.1, VL.ren h.2⟩
  | [], _ :: _, h => h.elim
  | _ :: _, [], h => h.elim
theorem VL.tmps {a : Act} : ∀ {l : Live} {vs : List AV}, VL C a l vs → ∀ t, AVR C (look (mkTmps l vs) t) (a.tmps.getD t undef)
  | [], [], _, t => trivial
  | (u, _) :: r, v :: vs, h, t => by
    simp only [mkTmps, look]
    cases hb : Nat.beq u t
    · exact VL.tmps h.2 t
    · have : u = t := Nat.eq_of_beq_eq_true hb
      subst this
      exact h.1
  | [], _ :: _, h, _ => h.elim
  | _ :: _, [], h, _ => h.elim

theorem liveVals_r {s : St} {a : Act} : ∀ (live : Live) {C : Cx}, HeapR C → (∀ t, AVR C (s.get t) (a.tmps.getD t undef)) → ∃ C', C'.H = (liveVals s live C.H).2 ∧ C'.w = C.w ∧ C.le C' ∧ HeapR C' ∧ Frm C C' ∧ VL C' a live (liveVals s live C.H).1
  | [], C, hH, hv => ⟨C, rfl, rfl, .refl C, hH, .refl C, trivial⟩
  | (t, none) :: r, C, hH, hv => by
    obtain ⟨C', h1, h2, h3, h4, h5, h6⟩ := liveVals_r r hH hv
    exact ⟨C', h1, h2, h3, h4, h5, (hv t).mono h3, h6⟩
  | (t, some (y, e)) :: r, C, hH, hv => by
    simp only [liveVals]
    split
    · rename_i hn
      obtain ⟨C1, k1, k2, k3, k4, k5, k6⟩ := hH.nilRow y e
      obtain ⟨C', h1, h2, h3, h4, h5, h6⟩ := liveVals_r r k4 (fun t => (hv t).mono k3)
      rw [k1] at h1 h6
      have hvt := hv t
      rw [hn] at hvt
      have hvt : a.tmps.getD t undef = .slice none 0 0 := hvt
      refine ⟨C', h1, h2.trans k2, k3.trans h3, h4, k5.trans k3 h5, ?_, h6⟩
      rw [hvt]
      exact k6.mono h3
    · obtain ⟨C', h1, h2, h3, h4, h5, h6⟩ := liveVals_r r hH hv
      exact ⟨C', h1, h2, h3, h4, h5, (hv t).mono h3, h6⟩

def LowOK (P : Program) (stk : Nat → List It) (ann : Nat → Option Live) (nt : Nat) (w0 : World) (Qf : Act → World → Prop) (lower : Lower R) (r : R) : Prop :=
  ∀ lbl live vs H, ann lbl = some live → lower lbl vs H = some r → ∀ (C : Cx) (a : Act), C.H = H → HeapR C → Fr0 w0 C → TR C nt (mkTmps live vs) a → after P (stk lbl) Qf .normal a C.w

theorem jumpK_r {stk : Nat → List It} {ann : Nat → Option Live} {nt : Nat} {w0 : World} {Qf : Act → World → Prop} {lower : Lower R} (hlow : LowOK P stk ann nt w0 Qf lower r) {lbl : Nat} {s : St} (h : jumpK lower ann lbl s = some r) {a : Act}
    (hh : C.H = s.heap) (hH : HeapR C) (hfr : Fr0 w0 C) (ht : TR C nt s.tmps a) : after P (stk lbl) Qf .normal a C.w := by
  unfold jumpK at h
  split at h
  · cases h
  rename_i live hl
  rw [← hh] at h
  obtain ⟨C', h1, h2, h3, h4, h5, h6⟩ := liveVals_r (s := s) (a := a) live hH ht.at_
  rw [← h1] at h
  unfold compactK at h
  obtain ⟨hn, h⟩ := bool_cond h
  have hfr' := hfr.step h3 h5
  rw [← h2]
  refine hlow lbl live _ _ hl h (C'.ren (reach C'.H 1000 (refsAs (liveVals s live C.H).1) [])) a rfl (h4.ren hn) ⟨hfr'.B, hfr'.X, hfr'.below⟩ ⟨ht.size, ht.defers, ?_⟩
  exact h6.ren.tmps

theorem region_r {T : Nat → Option TI} {cf : CF R} {lower : Lower R} {ann : Nat → Option Live} {fn : Func} {co : Co} {fin : AV → List Blk → Option R} {stk : Nat → List It} {w0 : World} (hmix : P.follows .mixedOrders = true) (hT : TOK P T) (hcf : CFok P cf)
    (N : Nat) (K : List It) (s : St) (C : Cx) (a : Act) (id : Nat) (ops : Array Oper) (draw : Bool)
    (ih : ∀ (K : List It) (s : St) (C : Cx) (a : Act), chkK stk K → go T cf lower ann fn co fin N K s = some r → C.H = s.heap → HeapR C → Fr0 w0 C → TR C fn.ntmps s.tmps a → after P K (finQ P fn fin r w0) .normal a C.w)
    (hK : chkK stk K) (h : (match draw with
      | false => goOps T cf fn.ntmps ops.toList ops.toList s fun s => go T cf lower ann fn co fin N K s
      | true => goD T cf fn.ntmps ops s fun s => go T cf lower ann fn co fin N K s) = some r)
    (hh : C.H = s.heap) (hH : HeapR C) (hfr : Fr0 w0 C) (ht : TR C fn.ntmps s.tmps a) : (Code.region id ops draw).wp P (after P K (finQ P fn fin r w0)) a C.w := by
  cases draw with
  | false =>
    have h1 := goOps_r (Q := after P K (finQ P fn fin r w0)) hT hcf ops.toList 0 (by simp) hh hH ht h (fun C' s' a' h1 h2 h3 h4 h5 h6 => ih K s' C' a' hK h6 h3 h4 (hfr.step h1 h2) h5)
    refine wp_region ?_
    rw [List.range_eq_range']
    simpa using h1
  | true =>
    simp only at h
    unfold goD at h
    split at h
    · exact goM_r hT hcf hmix hH hh ht h fun C' s' a' h1 h2 h3 h4 h5 h6 => ih K s' C' a' hK h6 h3 h4 (hfr.step h1 h2) h5
    obtain ⟨hlex, h⟩ := bool_cond h
    refine wp_region_quiet (C := Below C.w.heap.size C.w) hmix hlex ⟨rfl, rfl, rfl, Nat.le_refl _, fun _ _ => rfl⟩ ?_
    refine goOpsQ_r hT hcf hH ops.toList hh ht h fun s' a' h1 h2 h3 => ?_
    intro w' hw'
    obtain ⟨k1, k2, k3⟩ := hH.world hw' rfl
    exact ih K s' { C with w := w' } a' hK h3 h1 k2 (hfr.step k1 k3) (h2.mono k1)

/-- **The walk.** -/
theorem go_r {T : Nat → Option TI} {cf : CF R} {lower : Lower R} {ann : Nat → Option Live} {fn : Func} {co : Co} {fin : AV → List Blk → Option R} {stk : Nat → List It} {w0 : World} (hmix : P.follows .mixedOrders = true) (hT : TOK P T) (hcf : CFok P cf)
    (hlow : LowOK P stk ann fn.ntmps w0 (finQ P fn fin r w0) lower r) : ∀ (N : Nat) (K : List It) (s : St) (C : Cx) (a : Act), chkK stk K → go T cf lower ann fn co fin N K s = some r → C.H = s.heap → HeapR C → Fr0 w0 C → TR C fn.ntmps s.tmps a →
      after P K (finQ P fn fin r w0) .normal a C.w
  | 0, _, _, _, _, _, h, _, _, _, _ => by cases h
  | N + 1, [], s, C, a, hK, h, hh, hH, hfr, ht => finK_r hT hH hh ht hfr h
  | N + 1, .blk id :: K, s, C, a, hK, h, hh, hH, hfr, ht => go_r hmix hT hcf hlow N K s C a hK h hh hH hfr ht
  | N + 1, .lp c :: K, s, C, a, hK, h, hh, hH, hfr, ht => by
    have := jumpK_r hlow h hh hH hfr ht
    rw [hK.1.1] at this
    exact loop_lp this
  | N + 1, .rg id ops draw :: K, s, C, a, hK, h, hh, hH, hfr, ht => region_r (co := co) hmix hT hcf N K s C a id ops draw (go_r (co := co) hmix hT hcf hlow N) hK h hh hH hfr ht
  | N + 1, .code c :: K, s, C, a, hK, h, hh, hH, hfr, ht => by
    have ih := go_r (co := co) hmix hT hcf hlow N
    show c.wp P (after P K (finQ P fn fin r w0)) a C.w
    cases c with
    | skip => exact wp_skip (ih K s C a hK.2 h hh hH hfr ht)
    | label l => exact wp_label (ih K s C a hK.2 h hh hH hfr ht)
    | seq x y =>
      have h1 := ih (.code x :: .code y :: K) s C a ⟨hK.1.1, hK.1.2, hK.2⟩ h hh hH hfr ht
      exact wp_seq (wp_mono h1 fun e a w he => by cases e <;> exact he)
    | cond c x y =>
      obtain ⟨b, hb, h⟩ := condA_r (ev_r ht c) h
      cases b
      · exact wp_cond hb (ih (.code y :: K) s C a ⟨hK.1.2, hK.2⟩ h hh hH hfr ht)
      · exact wp_cond hb (ih (.code x :: K) s C a ⟨hK.1.1, hK.2⟩ h hh hH hfr ht)
    | block id c =>
      have h1 := ih (.code c :: .blk id :: K) s C a ⟨hK.1, hK.2⟩ h hh hH hfr ht
      exact wp_block (wp_mono h1 fun e a w he => by cases e <;> exact he)
    | loop c =>
      have := jumpK_r hlow h hh hH hfr ht
      rw [hK.1.1] at this
      exact loop_code this
    | exit id =>
      simp only [go] at h
      split at h
      case h_2 => cases h
      rename_i K' hp
      have hK' : ∀ (K K' : List It), chkK stk K → popTo id K = some K' → chkK stk K' := by
        intro K
        induction K with
        | nil => intro K' _ hp; cases hp
        | cons x K ihK =>
          intro K' hc hp
          cases x with
          | code c => exact ihK K' hc.2 hp
          | lp c => exact ihK K' hc.2 hp
          | rg id ops d => exact ihK K' hc hp
          | blk i =>
            simp only [popTo] at hp
            cases hb : Nat.beq i id
            · rw [hb] at hp; exact ihK K' hc hp
            · rw [hb] at hp; cases hp; exact hc
      exact wp_exit (after_exit hp (ih K' s C a (hK' K K' hK.2 hp) h hh hH hfr ht))
    | ret => exact wp_ret (after_ret (finK_r hT hH hh ht hfr h) K)
    | region id ops draw =>
      simp only [go] at h
      split at h
      · have := jumpK_r hlow h hh hH hfr ht
        rw [hK.1] at this
        exact this
      · exact region_r hmix hT hcf N K s C a id ops draw ih hK.2 h hh hH hfr ht
    | goto l => cases h
    | scope c => cases h
    | refuse m => cases h
    | rangeFunc f ps x y => cases h

theorem init_look (C : Cx) : ∀ (args : List AV) (vs : List Value) (i : Nat), AL C args vs → ∀ t, i ≤ t → AVR C (look (initT i args) t) (vs.getD (t - i) undef)
  | [], [], i, _, t, _ => trivial
  | v :: l, u :: us, i, h, t, hi => by
    simp only [initT, look]
    cases hb : Nat.beq i t
    · have hne : i ≠ t := fun e => by rw [e, Nat.beq_refl] at hb; cases hb
      have := init_look C l us (i + 1) h.2 t (by omega)
      simp only [cond_false]
      have e : t - i = (t - (i + 1)) + 1 := by omega
      rw [e, List.getD_cons_succ]
      exact this
    · have : i = t := Nat.eq_of_beq_eq_true hb
      subst this
      simpa using h.1
  | [], _ :: _, _, h, _, _ => h.elim
  | _ :: _, [], _, h, _, _ => h.elim

theorem AL.length {C : Cx} : ∀ {l : List AV} {vs : List Value}, AL C l vs → vs.length = l.length
  | [], [], _ => rfl
  | _ :: _, _ :: _, h => by simp [AL.length h.2]
  | [], _ :: _, h => h.elim
  | _ :: _, [], h => h.elim

theorem HeapR_arg (w : World) : HeapR (argCx w) :=
  ⟨Nat.le_refl _, fun b hb => hb, fun b x hx => by simp [argCx] at hx, fun b g hs => absurd rfl hs, fun b b' g hs => absurd rfl hs⟩

/-- **A function's contract.** -/
theorem contract {T : Nat → Option TI} {ann : Nat → Option Live} {fn : Func} {co : Co} {body : Code} {f : FuncId} {fin : AV → List Blk → Option R} (hmix : P.follows .mixedOrders = true) (hT : TOK P T)
    (hf : P.funcs[f]? = some fn) (hb : fn.body = some body) (hen : ∀ (vs : Array Value) (w : World), (callFunc f vs).run P w = .ok (.enter f vs) w) (hnd : nodupN (labelsC body) = true)
    (cf : Nat → CF R) (hcf : ∀ k, CFok P (cf k)) (J : Nat → Lower R) (N : Nat) (hJ0 : ∀ lbl vs H, J 0 lbl vs H = none)
    (hJ : ∀ k lbl live vs H r, ann lbl = some live → J (k + 1) lbl vs H = some r → go T (cf k) (J k) ann fn co fin N (stkOf body lbl) ⟨mkTmps live vs, H⟩ = some r)
    (k : Nat) (args : List AV) (hlen : args.length ≤ fn.ntmps) (r : R) (h : go T (cf k) (J k) ann fn co fin N [.code body] ⟨initT 0 args, []⟩ = some r) (v0 : AV) (H0 : List Blk) (hfin : ∀ v H, fin v H = some r → v = v0 ∧ H = H0) : CallsOK P f args v0 H0 := by
  refine ⟨hen, fun w vs hvs => ?_⟩
  have hlow : ∀ k, LowOK P (stkOf body) ann fn.ntmps w (finQ P fn fin r w) (J k) r := by
    intro k
    induction k with
    | zero => intro lbl live vs H _ h; rw [hJ0] at h; cases h
    | succ k ih =>
      intro lbl live vs H hl hj C a hh hH hfr ht
      exact go_r (co := co) hmix hT (hcf k) ih N _ ⟨mkTmps live vs, H⟩ C a (chk_stk hnd lbl) (hJ k lbl live vs H r hl hj) hh hH hfr ht
  have hvl := AL.length hvs
  have hsz : vs.size = args.length := by simpa using hvl
  have hgo := go_r (co := co) hmix hT (hcf k) (hlow k) N [.code body] ⟨initT 0 args, []⟩ (argCx w) { tmps := vs ++ Array.replicate (fn.ntmps - vs.size) undef, defers := [] } ⟨chk_body hnd, trivial⟩ h rfl (HeapR_arg w) ⟨rfl, fun _ h => h, Below.refl _ _⟩ ⟨by simp; omega, rfl, fun t => by
    have := init_look (argCx w) args vs.toList 0 hvs t (Nat.zero_le _)
    simp only [Nat.sub_zero] at this
    rw [Array.getD_eq_getD_getElem?, Array.getElem?_append]
    split
    · simpa [List.getD_eq_getElem?_getD] using this
    · rename_i hge
      have e : vs.toList.getD t undef = undef := by
        rw [List.getD_eq_getElem?_getD, List.getElem?_eq_none (by simpa using hge)]; rfl
      rw [e] at this
      have e2 : ((Array.replicate (fn.ntmps - vs.size) undef)[t - vs.size]?).getD undef = undef := by
        rw [Array.getElem?_replicate]; split <;> rfl
      rw [e2]
      exact this⟩
  refine calls_of_wp hf hb (wp_mono hgo fun e a' w' he => ?_)
  have fin : ∀ {a' : Act} {w' : World}, finQ P fn fin r w a' w' → a'.defers = [] ∧ ∃ v, (results fn a'.tmps).run P w' = .ok v w' ∧ ∃ u, Ending.returned v = .returned u ∧ Below w.heap.size w w' ∧ ResR w.heap.size w' v0 H0 u := by
    rintro a' w' ⟨h1, u, h2, h3, v, H, h4, h5⟩
    obtain ⟨rfl, rfl⟩ := hfin v H h4
    exact ⟨h1, u, h2, u, rfl, h3, h5⟩
  cases e with
  | normal => exact fin he
  | ret => exact fin he
  | exit id => exact he.elim
  | goto l => exact he.elim
  | panic c => exact he.elim
  | outgrown => exact he.elim
end
end Go.Proofs.YtgagpmiooeoodaaGreat.A
