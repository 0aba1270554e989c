/- Plain Lean over the printed functions: what is written is read, no other byte is another, and where something stands against it nothing is; and so the law's function answers true. -/
import Derived.Test.YtgnhojiogkeepaaKD22
set_option linter.unusedVariables false
set_option linter.unusedSimpArgs false
set_option linter.unusedSectionVars false
namespace Go.Proofs.Ytgnhojiogkeepaa.PPo
open Go Go.RowKit Go.Proofs.Ytgnhojiogkeepaa.V Go.Proofs.Ytgnhojiogkeepaa.C

def putRow (row : List Int) (off : Nat) (bs : List Int) : List Int := row.take off ++ bs ++ row.drop (off + bs.length)
theorem putRow_len {row bs : List Int} {off : Nat} (h : off + bs.length ≤ row.length) : (putRow row off bs).length = row.length := by
  simp only [putRow, List.length_append, List.length_take, List.length_drop]
  omega
theorem putRow_get {row bs : List Int} {off : Nat} (h : off + bs.length ≤ row.length) (k : Nat) (hk : ¬ (off ≤ k ∧ k < off + bs.length)) : (putRow row off bs).getD k 0 = row.getD k 0 := by
  rw [List.getD_eq_getElem?_getD, List.getD_eq_getElem?_getD]
  congr 1
  unfold putRow
  rw [List.append_assoc, List.getElem?_append, List.getElem?_append, List.length_take, List.getElem?_take, List.getElem?_drop, Nat.min_eq_left (by omega)]
  by_cases h1 : k < off
  · rw [if_pos h1, if_pos h1]
  · rw [if_neg h1, if_neg (by omega)]
    congr 1
    omega
theorem putRow_drop {row bs : List Int} {off : Nat} (h : off + bs.length ≤ row.length) : (putRow row off bs).drop off = bs ++ row.drop (off + bs.length) := by
  unfold putRow
  rw [List.append_assoc, List.drop_append, List.drop_eq_nil_of_le (by rw [List.length_take]; omega), List.nil_append, List.length_take, Nat.min_eq_left (by omega), Nat.sub_self, List.drop_zero]

theorem cloneU (l : List Int) (h : l.length ≤ 1048576) : slices_Clone_72.f l = some l := by
  unfold slices_Clone_72.f
  by_cases hl : l.length = 0
  · obtain rfl := List.eq_nil_of_length_eq_zero hl; simp [sameO]
  · rw [if_neg hl]; simp; omega
theorem cloneGuest_ev (g : S29) (h0 : g.f0.length ≤ 1048576) (hl : g.f2.length ≤ 1048576) (hr : ∀ x ∈ g.f2, x.length ≤ 1048576) : Ev (fun k => impl_cloneGuest.f k g) g := by
  have key : ∀ (m i : Nat) (y : S29), i + m = g.f2.length → Ev (fun k => impl_cloneGuest.l6 k g.f2 (g.f2.length : Int) (i : Int) y (g.f0, g.f1, g.f2.take i)) g := by
    intro m
    induction m with
    | zero =>
      intro i y hi
      refine Ev.step ?_
      simp only [impl_cloneGuest.l6]
      have e : g.f2.take i = g.f2 := List.take_of_length_le (by omega)
      rw [e]
      exact Ev.ite_neg (by omega) (Ev.ret _)
    | succ m ih =>
      intro i y hi
      have hlt : i < g.f2.length := by omega
      have hmem := getD_mem (z := ([] : List Int)) hlt
      refine Ev.step ?_
      simp only [impl_cloneGuest.l6, rd_ListInt, Int.toNat_natCast, cloneBs _ (hr _ hmem), Option.bind_some, wrap_succ hlt (by omega)]
      refine Ev.ite_pos (lt_in hlt) (Ev.ite_pos ge_0 (Ev.ite_pos (lt_in hlt) (Ev.ite_pos (by show (g.f2.take i).length + 1 < _; rw [List.length_take]; omega) ?_)))
      have e : g.f2.take i ++ [g.f2.getD i []] = g.f2.take (i + 1) := by
        rw [List.take_succ_eq_append_getElem hlt, List.getD_eq_getElem?_getD, List.getElem?_eq_getElem hlt]
        rfl
      have := ih (i + 1) ([], y.f1, []) (by omega)
      rw [← e] at this
      exact this
  unfold impl_cloneGuest.f
  simp only [same_self, cloneU _ h0, Option.bind_some]
  refine Ev.step ?_
  simp only [impl_cloneGuest.l5]
  exact key g.f2.length 0 _ (by omega)

/-- Nothing stands against it: the window, and the room in it. -/
theorem fault_zero {ws : List S40} (h : WinsOk ws) {a size kind : Int} (ha : 0 ≤ a ∧ a ≤ 4294967295) (hs : size = 1 ∨ size = 4) (hf : faultV ws a size kind = 0) : ∃ n : Nat, atV ws a = n ∧ n < ws.length ∧ (ws.getD n z40).f0 ≤ a ∧ a + size ≤ (ws.getD n z40).f0 + (ws.getD n z40).f1 := by
  unfold faultV at hf
  split at hf
  case isFalse => cases hf
  rename_i c
  split at hf
  · cases hf
  rename_i d
  obtain ⟨n, e1, e2, e3⟩ := at_lt ws a d
  have hw := window_in.1 (h.win n e2)
  have hb := (has_in (h.win n e2) a).1 e3
  refine ⟨n, e1, e2, hb.1, ?_⟩
  rcases hs with rfl | rfl
  · omega
  · have m0 := (tmod_4 ha.1).1 c
    have m1 := (tmod_4 hw.1).1 hw.2.2.2.1
    have m2 := (tmod_4 (by omega : 0 ≤ (ws.getD n z40).f1)).1 hw.2.2.2.2.1
    omega

section
variable {ws : List S40} (h : WinsOk ws) {a size : Int} (ha : 0 ≤ a ∧ a ≤ 4294967295) (hs : size = 1 ∨ size = 4)
include h ha hs
theorem store_no (g : S29) (x : Int) (hf : faultV ws a size 2 ≠ 0) : Ev (fun k => impl_Guest__store_o1.f k ws a size x g) (faultV ws a size 2, g) := by
  unfold impl_Guest__store_o1.f
  exact Ev.bind (implFault ws h ha hs (.inr rfl)) (Ev.ite_neg hf (Ev.ret _))
def bsOf (size x : Int) : List Int := (bts x).take size.toNat
theorem bsOf_len (x : Int) : (bsOf size x).length = size.toNat := by
  unfold bsOf
  rw [List.length_take]
  show min size.toNat 4 = _
  rcases hs with rfl | rfl <;> rfl
theorem store_yes (g : S29) (hg : GuestIn ws g) (x : Int) {n : Nat} (hf : faultV ws a size 2 = 0) (e1 : atV ws a = n) (e2 : n < ws.length) (e3 : (ws.getD n z40).f0 ≤ a) (e4 : a + size ≤ (ws.getD n z40).f0 + (ws.getD n z40).f1) :
    Ev (fun k => impl_Guest__store_o1.f k ws a size x g) (0, g.f0, g.f1, g.f2.set n (putRow (g.f2.getD n []) (a - (ws.getD n z40).f0).toNat (bsOf size x))) := by
  have hl := h.len
  have hw := window_in.1 (h.win n e2)
  have hlen := hg.len
  have hrow := hg.row n e2
  have hbl := bsOf_len h ha hs x
  have hat : Ev (fun k => impl_windowAt.f k ws a) (n : Int) := by rw [← e1]; exact windowAt_ev ws a (by omega)
  have hF := implFault ws h ha hs (kind := 2) (.inr rfl)
  rw [hf] at hF
  have w0 : wrap64 a = a := wrap_of (by omega) (by omega)
  have w1 : wrap64 (a - (ws.getD n z40).f0) = a - (ws.getD n z40).f0 := wrap_of (by omega) (by omega)
  have ez : (0 : Int).toNat = 0 := rfl
  have hB : (bsOf size x).take ((g.f2.getD n []).length - (a - (ws.getD n z40).f0).toNat) = bsOf size x := List.take_of_length_le (by rw [hbl]; omega)
  have hbl4 : ((bts x).length : Int) = 4 := rfl
  unfold impl_Guest__store_o1.f
  refine Ev.bind hF (Ev.ite_pos rfl ?_)
  rw [w0]
  refine Ev.bind hat ?_
  simp only [rd_T40, rd_ListInt, Int.toNat_natCast, w1, implBytes, Option.bind_some, ez, List.drop_zero]
  clear w0 w1 ez
  change Ev (fun k => if (0 : Int) ≤ (n : Int) then _ else _) _
  refine Ev.ite_pos (by omega) (Ev.ite_pos (by omega) (Ev.ite_pos (by omega) (Ev.ite_pos (by omega) (Ev.ite_pos (by omega) (Ev.ite_pos (by omega) (Ev.ite_pos (by omega) (Ev.ite_pos (by omega) (Ev.ite_pos (by show 0 < (bsOf size x).length; rw [hbl]; omega) ?_))))))))
  refine Ev.cast (Ev.ret _) ?_
  show (0, g.f0, g.f1, g.f2.set n ((g.f2.getD n []).take (a - (ws.getD n z40).f0).toNat ++ (bsOf size x).take ((g.f2.getD n []).length - (a - (ws.getD n z40).f0).toNat) ++ (g.f2.getD n []).drop ((a - (ws.getD n z40).f0).toNat + ((bsOf size x).take ((g.f2.getD n []).length - (a - (ws.getD n z40).f0).toNat)).length))) = _
  rw [hB]
  rfl
theorem load_no (g : S29) (hf : faultV ws a size 1 ≠ 0) : Ev (fun k => impl_Guest__load_o1.f k ws a size 1 g) (0, faultV ws a size 1, g) := by
  unfold impl_Guest__load_o1.f
  exact Ev.bind (implFault ws h ha hs (.inl rfl)) (Ev.ite_neg hf (Ev.ret _))
theorem load_yes (g : S29) (hg : GuestIn ws g) {x : Int} (hx : 0 ≤ x ∧ x ≤ 4294967295) {n : Nat} (hf : faultV ws a size 1 = 0) (e1 : atV ws a = n) (e2 : n < ws.length) (e3 : (ws.getD n z40).f0 ≤ a) (e4 : a + size ≤ (ws.getD n z40).f0 + (ws.getD n z40).f1)
    {rest : List Int} (hd : (g.f2.getD n []).drop (a - (ws.getD n z40).f0).toNat = bsOf size x ++ rest) : Ev (fun k => impl_Guest__load_o1.f k ws a size 1 g) (if size = 1 then x % 256 else x, 0, g) := by
  have hl := h.len
  have hw := window_in.1 (h.win n e2)
  have hlen := hg.len
  have hrow := hg.row n e2
  have hbl := bsOf_len h ha hs x
  have hat : Ev (fun k => impl_windowAt.f k ws a) (n : Int) := by rw [← e1]; exact windowAt_ev ws a (by omega)
  have hF := implFault ws h ha hs (kind := 1) (.inl rfl)
  rw [hf] at hF
  have w0 : wrap64 a = a := wrap_of (by omega) (by omega)
  have w1 : wrap64 (a - (ws.getD n z40).f0) = a - (ws.getD n z40).f0 := wrap_of (by omega) (by omega)
  have ez : (0 : Int).toNat = 0 := rfl
  have e4' : (4 : Int).toNat = 4 := rfl
  unfold impl_Guest__load_o1.f
  refine Ev.bind hF (Ev.ite_pos rfl ?_)
  rw [w0]
  refine Ev.bind hat ?_
  simp only [rd_T40, rd_ListInt, Int.toNat_natCast, w1, List.take_length, hd, ez, e4', List.drop_zero]
  clear w0 w1 ez e4'
  refine Ev.ite_pos (by omega) (Ev.ite_pos (by omega) (Ev.ite_pos (by omega) (Ev.ite_pos (by omega) (Ev.ite_pos (by omega) (Ev.ite_pos (by omega) (Ev.ite_pos (by omega) ?_))))))
  rcases hs with rfl | rfl
  · refine Ev.ite_pos rfl (Ev.ite_pos (by rw [List.length_append, hbl]; show (0 : Int) < ((1 + rest.length : Nat) : Int); omega) (Ev.cast (Ev.ret _) ?_))
    show (IntKind.wrap .u32 (x % 256), (0 : Int), g) = (x % 256, 0, g)
    rw [wrap_u32, show x % 256 % 4294967296 = x % 256 by omega]
  · refine Ev.ite_neg (by decide) (Ev.ite_pos (by decide) (Ev.ite_pos (by rw [List.length_append, hbl]; show (4 : Int) ≤ ((4 + rest.length : Nat) : Int); omega) ?_))
    have : (bsOf 4 x ++ rest).take 4 = bts x := by rw [List.take_append_of_le_length (by rw [hbl]; show 4 ≤ 4; omega)]; rfl
    rw [this, word_some x hx]
    exact Ev.ret _
end

/-! ### No other byte -/
section
variable (ws : List S40) (hW : WinsOk ws) {a size : Int} (ha : 0 ≤ a ∧ a ≤ 4294967295) (hs : size = 1 ∨ size = 4) (g y : S29) (hg : GuestIn ws g) (hl2 : y.f2.length = g.f2.length)
  (hlen : ∀ i, i < ws.length → (y.f2.getD i []).length = (g.f2.getD i []).length)
  (hsame : ∀ i j, i < ws.length → j < (g.f2.getD i []).length → ((ws.getD i z40).f0 + (j : Int) < a ∨ (ws.getD i z40).f0 + (j : Int) ≥ a + size) → (y.f2.getD i []).getD j 0 = (g.f2.getD i []).getD j 0)
include hW ha hs hg hl2 hlen hsame
theorem poke_l54 (i : Nat) (hi : i < ws.length) (hnext : Ev (fun k => laws_FnPoke.l44 k a size ((i + 1 : Nat) : Int) ws g y) true) : ∀ (m j : Nat), j + m = (g.f2.getD i []).length → Ev (fun k => laws_FnPoke.l54 k a size (i : Int) (j : Int) ws g y) true := by
  have hwl := hW.len
  have hgl := hg.len
  have hw := window_in.1 (hW.win i hi)
  have hrow := hg.row i hi
  have hyl := hlen i hi
  intro m
  induction m with
  | zero =>
    intro j hj
    refine Ev.step ?_
    simp only [laws_FnPoke.l54, rd_ListInt, Int.toNat_natCast, wrap_succ hi (by omega)]
    exact Ev.ite_pos ge_0 (Ev.ite_pos (by omega) (Ev.ite_neg (by omega) hnext))
  | succ m ih =>
    intro j hj
    have hlt : j < (g.f2.getD i []).length := by omega
    have hsm := hsame i j hi hlt
    have w1 : wrap64 ((ws.getD i z40).f0 + (j : Int)) = (ws.getD i z40).f0 + (j : Int) := wrap_of (by omega) (by omega)
    have w2 : wrap64 a = a := wrap_of (by omega) (by omega)
    have w3 : wrap64 (a + size) = a + size := wrap_of (by omega) (by omega)
    refine Ev.step ?_
    simp only [laws_FnPoke.l54, rd, rd_ListInt, rd_T40, Int.toNat_natCast, wrap_succ hlt (by omega), w1, w2, w3]
    clear w1 w2 w3
    refine Ev.ite_pos ge_0 (Ev.ite_pos (by omega) (Ev.ite_pos (by omega) (Ev.ite_pos ge_0 (Ev.ite_pos (by omega) ?_))))
    have cmp : (y.f2.getD i []).getD j 0 = (g.f2.getD i []).getD j 0 → Ev (fun k => (if 0 ≤ (i : Int) then (if (i : Int) < (y.f2.length : Int) then (if 0 ≤ (j : Int) then (if (j : Int) < ((y.f2.getD i []).length : Int) then (if 0 ≤ (i : Int) then (if (i : Int) < (g.f2.length : Int) then (if 0 ≤ (j : Int) then (if (j : Int) < ((g.f2.getD i []).length : Int) then (if (y.f2.getD i []).getD j 0 = (g.f2.getD i []).getD j 0 then (laws_FnPoke.l54 k a size (i : Int) ((j + 1 : Nat) : Int) ws g y) else (some false)) else none) else none) else none) else none) else none) else none) else none) else none)) true := fun e =>
      Ev.ite_pos ge_0 (Ev.ite_pos (by omega) (Ev.ite_pos ge_0 (Ev.ite_pos (by omega) (Ev.ite_pos ge_0 (Ev.ite_pos (by omega) (Ev.ite_pos ge_0 (Ev.ite_pos (by omega) (Ev.ite_pos e (ih (j + 1) (by omega))))))))))
    by_cases c1 : (ws.getD i z40).f0 + (j : Int) < a
    · exact Ev.ite_pos c1 (cmp (hsm (.inl c1)))
    · refine Ev.ite_neg c1 ?_
      by_cases c2 : (ws.getD i z40).f0 + (j : Int) ≥ a + size
      · exact Ev.ite_pos c2 (cmp (hsm (.inr c2)))
      · exact Ev.ite_neg c2 (ih (j + 1) (by omega))
theorem poke_l44 : ∀ (m i : Nat), i + m = ws.length → Ev (fun k => laws_FnPoke.l44 k a size (i : Int) ws g y) true := by
  have hwl := hW.len
  have hgl := hg.len
  intro m
  induction m with
  | zero =>
    intro i hi
    refine Ev.step ?_
    simp only [laws_FnPoke.l44, lenZ_eq]
    exact Ev.ite_neg (by omega) (Ev.ret _)
  | succ m ih =>
    intro i hi
    have hlt : i < ws.length := by omega
    have hyl := hlen i hlt
    refine Ev.step ?_
    simp only [laws_FnPoke.l44, lenZ_eq, rd_ListInt, Int.toNat_natCast]
    exact Ev.ite_pos (lt_in hlt) (Ev.ite_pos ge_0 (Ev.ite_pos (by omega) (Ev.ite_pos ge_0 (Ev.ite_pos (by omega) (Ev.ite_pos (by omega) (poke_l54 ws hW ha hs g y hg hl2 hlen hsame i hlt (ih (i + 1) (by omega)) (g.f2.getD i []).length 0 (by omega)))))))
end

theorem pure_FnPoke : ∀ (x0 : (Ty.sl (.int .u8)).den), Fits (.sl (.int .u8)) x0 → ∃ k, laws_FnPoke.c.fn k (x0, ()) () = some true := by
  intro code hf
  refine Ev.get (g := fun k => laws_FnPoke.f k code) ?_
  unfold laws_FnPoke.f laws_big.f
  simp only [Option.bind_some]
  refine Ev.ite_both (fun _ => Ev.ret _) fun hbig => ?_
  have hlen : code.length ≤ 1048576 := by
    have : ¬ (code.length : Int) > 1048576 := by simpa using hbig
    omega
  obtain ⟨⟨ws, g, a, size, x⟩, hd, hq⟩ := drawPoke_out code hlen
  have hwl : ws.length = 2 := hq.len
  have ha : 0 ≤ a ∧ a ≤ 4294967295 := hq.addr
  have hx : 0 ≤ x ∧ x ≤ 4294967295 := hq.word
  obtain ⟨b, hb, hb2⟩ := specGuest_ev ws (by omega) g
  refine Ev.bind hd (Ev.bind hb ?_)
  cases b
  · exact Ev.ite_neg (by simp) (Ev.ret _)
  refine Ev.ite_pos rfl ?_
  obtain ⟨hS, hW, hG⟩ := hb2 rfl
  have hgl := hG.len
  have hrl : ∀ r ∈ g.f2, r.length ≤ 2048 := fun r hr => by
    obtain ⟨i, hi, rfl⟩ := List.getElem_of_mem hr
    have h1 := hG.row i (by omega)
    have h2 := window_in.1 (hW.win i (by omega))
    rw [List.getD_eq_getElem?_getD, List.getElem?_eq_getElem hi] at h1
    simp only [Option.getD_some] at h1
    omega
  have hregs := hG.regs
  have hcl : Ev (fun k => impl_cloneGuest.f k g) g := cloneGuest_ev g (by omega) (by omega) (fun r hr => by have := hrl r hr; omega)
  have hig := isGuest_ev ws hW g hG
  have main : (size = 1 ∨ size = 4) → ∃ nx : S29 × Int, Ev (fun k => impl_Poke.f k ws g a size x) nx ∧ nx.2 = faultV ws a size 2 ∧ (nx.2 ≠ 0 → nx.1 = g) ∧ (nx.2 = 0 → (∃ v : Int × Int, Ev (fun k => impl_Peek.f k ws nx.1 a size) v ∧ (faultV ws a size 1 = 0 → v = (if size = 1 then x % 256 else x, 0))) ∧ nx.1.f2.length = g.f2.length ∧ Ev (fun k => laws_FnPoke.l44 k a size 0 ws g nx.1) true) := by
    intro hs
    by_cases hf : faultV ws a size 2 = 0
    case neg =>
      refine ⟨(g, faultV ws a size 2), ?_, rfl, fun _ => rfl, fun e => absurd e hf⟩
      unfold impl_Poke.f
      exact Ev.bind hig (Ev.ite_pos rfl (Ev.bind hcl (Ev.bind (store_no hW ha hs g x hf) (Ev.ret _))))
    obtain ⟨n, e1, e2, e3, e4⟩ := fault_zero hW ha hs hf
    have hst := store_yes hW ha hs g hG x hf e1 e2 e3 e4
    have hw := window_in.1 (hW.win n e2)
    have hrow := hG.row n e2
    have hbl := bsOf_len hW ha hs x
    have hfit : (a - (ws.getD n z40).f0).toNat + (bsOf size x).length ≤ (g.f2.getD n []).length := by rw [hbl]; omega
    have hpl := putRow_len hfit
    obtain ⟨row', hr'⟩ : ∃ r, r = putRow (g.f2.getD n []) (a - (ws.getD n z40).f0).toNat (bsOf size x) := ⟨_, rfl⟩
    rw [← hr'] at hst hpl
    have hself : (g.f2.set n row').getD n [] = row' := by rw [List.getD_eq_getElem?_getD, List.getElem?_set_self (by omega)]; rfl
    have hne : ∀ i, i ≠ n → (g.f2.set n row').getD i [] = g.f2.getD i [] := fun i hi => by rw [List.getD_eq_getElem?_getD, List.getElem?_set_ne (fun e => hi e.symm), ← List.getD_eq_getElem?_getD]
    have hG' : GuestIn ws ((g.f0, g.f1, g.f2.set n row') : S29) := by
      refine ⟨hregs, hG.zero, by show (g.f2.set n row').length = _; rw [List.length_set]; exact hgl, fun i hi => ?_⟩
      show (((g.f2.set n row').getD i []).length : Int) = _
      by_cases c : i = n
      · subst c
        rw [hself, hpl]
        exact hrow
      · rw [hne i c]
        exact hG.row i hi
    have hPk : Ev (fun k => impl_Poke.f k ws g a size x) (((g.f0, g.f1, g.f2.set n row') : S29), 0) := by
      unfold impl_Poke.f
      exact Ev.bind hig (Ev.ite_pos rfl (Ev.bind hcl (Ev.bind hst (Ev.ret _))))
    refine ⟨_, hPk, hf.symm, fun e => absurd rfl e, fun _ => ⟨?_, by show (g.f2.set n row').length = _; rw [List.length_set], ?_⟩⟩
    · have hig' := isGuest_ev ws hW _ hG'
      by_cases hf1 : faultV ws a size 1 = 0
      · refine ⟨(if size = 1 then x % 256 else x, 0), ?_, fun _ => rfl⟩
        have hld := load_yes hW ha hs ((g.f0, g.f1, g.f2.set n row') : S29) hG' hx hf1 e1 e2 e3 e4 (rest := (g.f2.getD n []).drop ((a - (ws.getD n z40).f0).toNat + (bsOf size x).length)) (by
          show ((g.f2.set n row').getD n []).drop _ = _
          rw [hself, hr']
          exact putRow_drop hfit)
        unfold impl_Peek.f
        exact Ev.bind hig' (Ev.ite_pos rfl (Ev.bind hld (Ev.ret _)))
      · refine ⟨(0, faultV ws a size 1), ?_, fun e => absurd e hf1⟩
        unfold impl_Peek.f
        exact Ev.bind hig' (Ev.ite_pos rfl (Ev.bind (load_no hW ha hs _ hf1) (Ev.ret _)))
    · refine poke_l44 ws hW ha hs g _ hG (by show (g.f2.set n row').length = _; rw [List.length_set]) (fun i hi => ?_) (fun i j hi hj hout => ?_) ws.length 0 (by omega)
      · show ((g.f2.set n row').getD i []).length = _
        by_cases c : i = n
        · subst c; rw [hself, hpl]
        · rw [hne i c]
      · show ((g.f2.set n row').getD i []).getD j 0 = _
        by_cases c : i = n
        · subst c
          rw [hself, hr']
          refine putRow_get hfit j (fun hh => ?_)
          rw [hbl] at hh
          rcases hs with rfl | rfl <;> omega
        · rw [hne i c]
  have tm : x.tmod 256 = x % 256 := Int.tmod_eq_emod_of_nonneg hx.1
  have fin : (size = 1 ∨ size = 4) → ∀ {nx : S29 × Int}, nx.2 = faultV ws a size 2 → (nx.2 ≠ 0 → nx.1 = g) → (faultV ws a size 2 ≠ 0 → Ev (fun k => (laws_sameBytes.f k nx.1.f2 g.f2).bind fun t9 => (if t9 = true then (some (decide (nx.1.f1 = g.f1))) else (some false))) true) := fun hs nx h1 h2 hf => by
    rw [h2 (by rw [h1]; exact hf)]
    exact Ev.bind (sameBytes_ev g.f2 (by omega)) (Ev.ite_pos rfl (Ev.cast (Ev.ret _) (by simp)))
  by_cases s1 : size = 1
  · have hs : size = 1 ∨ size = 4 := .inl s1
    obtain ⟨nx, k1, k2, k3, k4⟩ := main hs
    have kA : Ev (fun k => impl_FaultAt.f k ws a size 2) (faultV ws a size 2) := by
      unfold impl_FaultAt.f
      exact Ev.bind (areWindows_ev ws hW) (Ev.ite_pos rfl (Ev.bind (implFault ws hW ha hs (.inr rfl)) (Ev.ret _)))
    refine Ev.ite_pos s1 (Ev.bind (specFault ws hW ha hS hs (.inr rfl)) (Ev.bind k1 (Ev.ite_pos k2 (Ev.bind kA (Ev.ite_pos rfl ?_)))))
    by_cases hf : faultV ws a size 2 = 0
    · obtain ⟨⟨v, v1, v2⟩, v3, v4⟩ := k4 (k2.trans hf)
      refine Ev.ite_pos hf (Ev.bind v1 (Ev.bind (specFault ws hW ha hS hs (.inl rfl)) ?_))
      by_cases hf1 : faultV ws a size 1 = 0
      · have ev := v2 hf1
        rw [if_pos s1] at ev
        rw [ev]
        exact Ev.ite_pos hf1 (Ev.ite_pos s1 (Ev.ite_pos rfl (Ev.ite_pos tm.symm (Ev.ite_pos (by show (nx.1.f2.length : Int) = (g.f2.length : Int); rw [v3]) v4))))
      · exact Ev.ite_neg hf1 (Ev.ite_pos (by show (nx.1.f2.length : Int) = (g.f2.length : Int); rw [v3]) v4)
    · exact Ev.ite_neg hf (fin hs k2 k3 hf)
  refine Ev.ite_neg s1 ?_
  by_cases s4 : size = 4
  · have hs : size = 1 ∨ size = 4 := .inr s4
    obtain ⟨nx, k1, k2, k3, k4⟩ := main hs
    have kA : Ev (fun k => impl_FaultAt.f k ws a size 2) (faultV ws a size 2) := by
      unfold impl_FaultAt.f
      exact Ev.bind (areWindows_ev ws hW) (Ev.ite_pos rfl (Ev.bind (implFault ws hW ha hs (.inr rfl)) (Ev.ret _)))
    refine Ev.ite_pos s4 (Ev.bind (specFault ws hW ha hS hs (.inr rfl)) (Ev.bind k1 (Ev.ite_pos k2 (Ev.bind kA (Ev.ite_pos rfl ?_)))))
    by_cases hf : faultV ws a size 2 = 0
    · obtain ⟨⟨v, v1, v2⟩, v3, v4⟩ := k4 (k2.trans hf)
      refine Ev.ite_pos hf (Ev.bind v1 (Ev.bind (specFault ws hW ha hS hs (.inl rfl)) ?_))
      by_cases hf1 : faultV ws a size 1 = 0
      · have ev := v2 hf1
        rw [if_neg s1] at ev
        rw [ev]
        exact Ev.ite_pos hf1 (Ev.ite_neg s1 (Ev.ite_pos rfl (Ev.ite_pos rfl (Ev.ite_pos (by show (nx.1.f2.length : Int) = (g.f2.length : Int); rw [v3]) v4))))
      · exact Ev.ite_neg hf1 (Ev.ite_pos (by show (nx.1.f2.length : Int) = (g.f2.length : Int); rw [v3]) v4)
    · exact Ev.ite_neg hf (fin hs k2 k3 hf)
  · exact Ev.ite_neg s4 (Ev.ret _)
end Go.Proofs.Ytgnhojiogkeepaa.PPo
