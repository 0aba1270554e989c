/- From a row's condition on the laid package variables to what their blocks hold. -/
import Derived.Test.YtcjfheidmlcbfaaGreatDoorSV12
import Derived.Lib.LaidTab
import Derived.LaidLaws
import Derived.Stop.LaidErr
import Derived.Shelf.Vars
import Derived.Handed
import Derived.SizedLaws
namespace Go.Proofs.YtcjfheidmlcbfaaGreatDoor.V
open Go.RowKit Go.Lib

theorem globAt_of_var {P : Program} {w : World} {name : String} {g : Nat} {l : List Value} (hg : P.globalNamed name = some g) (h : w.var? P name = some l.toArray) {p : List Value → Prop} (hp : p l) : GlobAt w (g, p) := by
  unfold World.var? at h
  rw [hg] at h
  simp only [Option.bind_some] at h
  split at h
  · rename_i cs ty fr he
    have e : cs = l.toArray := by simpa using h
    subst e
    exact ⟨l, ty, fr, hp, he⟩
  · cases h
theorem var_of_globAt {P : Program} {w : World} {name : String} {g : Nat} {l : List Value} (hg : P.globalNamed name = some g) (h : GlobAt w (g, fun l' => l' = l)) : w.var? P name = some l.toArray := by
  obtain ⟨l', ty, fr, e, h⟩ := h
  cases e
  unfold World.var?
  rw [hg]
  simp only [Option.bind_some, h]
theorem cell_of_globAt {w : World} {g : Nat} {l : List Value} (h : GlobAt w (g, fun l' => l' = l)) (i : Nat) {u : Value} (hu : l[i]? = some u) : w.cell? ⟨g, i, none⟩ = some u := by
  obtain ⟨l', ty, fr, e, h⟩ := h
  cases e
  unfold World.cell?
  simp only [h]
  simpa using hu
theorem iface_of_globAt {w : World} {g : Nat} (h : GlobAt w (g, fun l => ∃ t p, l = [Value.iface t p])) : ∃ t p, w.cell? ⟨g, 0, none⟩ = some (.iface t p) := by
  obtain ⟨l', ty, fr, ⟨t, p, e⟩, h⟩ := h
  cases e
  refine ⟨t, p, ?_⟩
  unfold World.cell?
  simp only [h]
  rfl
theorem int_of_globAt {w : World} {g : Nat} (h : GlobAt w (g, fun l => ∃ m, l = [Value.int .i64 m])) : ∃ m, w.cell? ⟨g, 0, none⟩ = some (.int .i64 m) := by
  obtain ⟨l', ty, fr, ⟨m, e⟩, h⟩ := h
  cases e
  refine ⟨m, ?_⟩
  unfold World.cell?
  simp only [h]
  rfl
/-- A variable of an int kind holds some int, by the world's shape. -/
theorem globAt_of_shape {P : Program} {w : World} {g : Nat} {t : TypeId} {zero : Array Value}
    (h : w.ShapedOpen P) (hg : g < P.globals.size)
    (h0 : ((begin P (fun _ _ => 0) default).world.heap[g]?).bind Obj.row? = some (zero, t)) (hz : zero.size = 1)
    (hb : P.buildable t = true) (hc : P.cellTypes P.depth t = some [t]) (hu : P.underlying t = some (.int .i64)) : GlobAt w (g, fun l => ∃ m, l = [Value.int .i64 m]) := by
  obtain ⟨m, hm⟩ := Go.Proofs.cell_of_shapedOpen_int h hg h0 hz hb hc hu
  obtain ⟨cs, hh, hs, _⟩ := h.1 g zero t hg h0
  obtain ⟨l⟩ := cs
  refine ⟨l, t, (0, 0), ⟨m, ?_⟩, hh⟩
  unfold World.cell? at hm
  simp only [hh] at hm
  have hs : l.length = 1 := by rw [← hz]; exact hs
  match l, hs with
  | [x], _ => simpa using hm

/-- An array of strings that reads as the list holds the list's strings, cell for cell. -/
theorem cells_of_str {H : Type} {enc : TypeId × Value → H} {P : Program} {w : World} {base : Nat} {sp : Nat → Bool} {held : Bool} {fuel : Nat} {t e : TypeId} {n : Nat} {cs : List Value} {zs : List (List UInt8)} {p : List MemPlace}
    (ht : P.underlying t = some (.array n e)) (he : P.underlying e = some .string) (hce : P.cellsOf e = 1) (hct : P.cellsOf t = n)
    (h : DataW.trod enc P w base sp held fuel t cs = some (.agg (zs.map fun z => .lit (.string z)), p)) : cs = zs.map fun z => Value.string ⟨z.toArray⟩ := by
  cases fuel with
  | zero => simp [DataW.trod] at h
  | succ fuel =>
    simp only [DataW.trod, ht, hce, hct, Nat.mul_one] at h
    split at h
    · rename_i hl
      obtain ⟨xs, hm, hx⟩ := Option.map_eq_some_iff.1 h
      have hxs : xs.map (·.1) = zs.map fun z => (DataW.lit (.string z) : DataW H) := by
        have := congrArg Prod.fst hx
        simpa using this
      have hxl : xs.length = n := by simpa using mapM_length hm
      have hzl : zs.length = n := by
        have := congrArg List.length hxs
        simp at this
        omega
      apply List.ext_getElem?
      intro i
      by_cases hi : i < n
      · obtain ⟨b, hb, hf⟩ := mapM_at hm i i (by simp [hi])
        obtain ⟨z, hc, rfl, _⟩ := DataW.trod_string he hf
        have h1 : cs[i]? = some (.string z) := by
          have := congrArg (·[0]?) hc
          simpa [List.getElem?_take, List.getElem?_drop] using this
        have h2 : (xs.map (·.1))[i]? = some (DataW.lit (.string z.data.toList) : DataW H) := by simp [hb]
        rw [hxs] at h2
        simp only [List.getElem?_map, Option.map_eq_some_iff, DataW.lit.injEq, Lit.string.injEq] at h2
        obtain ⟨z', hz', rfl⟩ := h2
        simp [h1, hz']
      · rw [List.getElem?_eq_none (by omega), List.getElem?_eq_none (by simp; omega)]
    · cases h
theorem strs_of_head {P : Program} {W : World} {name : String} {zs : List (List UInt8)} {rest : List (String × DataW Unit)} {g : Nat} {t e : TypeId} {n : Nat}
    (hg : P.globalNamed name = some g) (hty : (P.globals[g]?).map (·.type) = some t) (ht : P.underlying t = some (.array n e)) (he : P.underlying e = some .string) (hce : P.cellsOf e = 1) (hct : P.cellsOf t = n)
    (h : laidMet P ((name, .agg (zs.map fun z => .lit (.string z))) :: rest) W) : GlobAt W (g, fun l => l = zs.map fun z => Value.string ⟨z.toArray⟩) := by
  obtain ⟨ps, ⟨g', t', cs, fuel, p, q, hg', ht', hvar, hd, _, _⟩, _⟩ := h
  obtain rfl := Option.some.inj (hg.symm.trans hg')
  obtain rfl := Option.some.inj (hty.symm.trans ht')
  refine globAt_of_var hg (l := zs.map fun z => Value.string ⟨z.toArray⟩) ?_ rfl
  rw [hvar, ← cells_of_str ht he hce hct hd]
theorem ints_of_head {P : Program} {W : World} {name : String} {k : IntKind} {zs : List Int} {rest : List (String × DataW Unit)} {g : Nat} {t e : TypeId} {n : Nat}
    (hg : P.globalNamed name = some g) (hty : (P.globals[g]?).map (·.type) = some t) (ht : P.underlying t = some (.array n e)) (he : P.underlying e = some (.int k)) (hce : P.cellsOf e = 1) (hct : P.cellsOf t = n)
    (h : laidMet P ((name, tabData k zs) :: rest) W) : GlobAt W (g, fun l => l = zs.map fun z => Value.int k z) :=
  globAt_of_var hg (l := zs.map fun z => Value.int k z) (tabIs_of_head hg hty ht he hce hct h) rfl
/-- A laid variable of an interface type that holds something. -/
theorem iface_of_head {P : Program} {W : World} {name nm : String} {d : DataW Unit} {rest : List (String × DataW Unit)} {g : Nat} {t : TypeId} {ms : Array (String × TypeId)}
    (hg : P.globalNamed name = some g) (hty : (P.globals[g]?).map (·.type) = some t) (ht : P.underlying t = some (.interface ms))
    (h : laidMet P ((name, .iface nm d) :: rest) W) : GlobAt W (g, fun l => ∃ t p, l = [Value.iface t p]) := by
  obtain ⟨ps, ⟨g', t', cs, fuel, p, q, hg', ht', hvar, hd, _, _⟩, _⟩ := h
  obtain rfl := Option.some.inj (hg.symm.trans hg')
  obtain rfl := Option.some.inj (hty.symm.trans ht')
  obtain ⟨l⟩ := cs
  refine globAt_of_var hg (l := l) hvar ?_
  cases fuel with
  | zero => simp [DataW.trod] at hd
  | succ fuel =>
    match l, hd with
    | [], hd => simp [DataW.trod, ht] at hd
    | [v], hd =>
      cases v <;> simp [DataW.trod, ht] at hd
      exact ⟨_, _, rfl⟩
    | a :: b :: r, hd => simp [DataW.trod, ht] at hd

/-- A row's wrap with a condition beside the arguments, the world's shape kept for the contract. -/
theorem handed_shaped {H : Type} {enc : TypeId × Value → H} {a : Assume} {C : Checked} {os : Os} {f : FuncId} {fn : Func} {s : ChangeSpec} {cs : List PathCond} {b1 b2 b3 b4 : Bool} {X : World → Array Value → Prop}
    (hX : ∀ (w w' : World) (args : Array Value), w.heap = w'.heap → X w args → X w' args) (own : ownKnob C.prog.godebug = none) (started : os.Started) (hno : C.prog.inits.idxOf? f = none) (hfn : C.prog.funcs[f]? = some fn)
    (wit : ∃ (w : World) (tape : Tape) (i : Input), w.os = os ∧ (w.forCall tape i).Shaped C.prog ∧ i.vars = [] ∧ Input.okWide C.prog (w.forCall tape i) .any w.heap.size f i ∧
      ((s.pre enc C.prog fn cs b1 (w.forCall tape i).memory i.args ∧ X (w.forCall tape i).memory i.args) ∧ sizedMet enc C.prog fn (OpenSpec.ofChange s) b1 (w.forCall tape i).memory i.args) ∧ a.holds C.prog (lone (Frame.enter C.prog f i.args .normal) [] (w.forCall tape i)))
    (con : ∀ (W : World) (base : Nat) (args : Array Value) (ds gs : List (DataW H)) (before : List MemPlace),
      (∀ (j : Nat) t v, fn.params[j]? = some t → args[j]? = some v → Value.okWide C.prog W .any base t v) → DataW.Whole enc C.prog fn.params.toList s.vars b1 W args.toList ds gs before →
      W.ShapedOpen C.prog → X W args → Calls C.prog f args W fun e W' => ∃ v, e = .returned v ∧ s.post enc C.prog fn b1 b2 b3 b4 W args v W') :
    ReturnsInHanded a C os f .any (fun w args => (s.pre enc C.prog fn cs b1 w args ∧ X w args) ∧ sizedMet enc C.prog fn (OpenSpec.ofChange s) b1 w args) (s.post enc C.prog fn b1 b2 b3 b4) :=
  returnsInHanded_of_calls own started hno wit fun w tape i _ hsh _ hok hpre _ => by
    obtain ⟨_, _, _, fn', hfn', _, _, _, _, hval⟩ := hok
    cases Option.some.inj (hfn'.symm.trans hfn)
    obtain ⟨⟨⟨ds, gs, before, hw, _⟩, hx⟩, _⟩ := hpre
    refine (con (w.forCall tape i) w.heap.size i.args ds gs before hval (DataW.Whole.of_heap (w' := w.forCall tape i) (by rfl) hw) hsh (hX _ _ _ (by rfl) hx)).mono fun e W' he => ?_
    obtain ⟨v, rfl, hp⟩ := he
    exact ChangeSpec.post_blind hp
end Go.Proofs.YtcjfheidmlcbfaaGreatDoor.V
