/- From what the rows list of the library's variables to the walks; the wrap and the witness of a row that lists them; texts that came in. -/
import Derived.Test.YtibbpbbgmgdpdaaGreatDoorFrame
import Derived.Test.YtibbpbbgmgdpdaaGreatDoorTxt
import Derived.Test.YtibbpbbgmgdpdaaGreatDoorTie
import Derived.Test.YtibbpbbgmgdpdaaGreatDoorCards
import Derived.Lay
import Derived.LaidOnce
import Derived.SevenTiedAt
import Derived.MakeChecks
import Derived.Handed
import Derived.Lib.LaidTab
import Derived.Shelf.Vars
import Derived.Deep.Strs
namespace Go.Proofs.YtibbpbbgmgdpdaaGreatDoor
open Go.ChangeShapes Go.WideShapes Go.ChangeAt Go.RowKit Go.Deep
set_option linter.unusedVariables false
set_option maxRecDepth 100000

/-- what every row of this seat lists -/
def laid7 : List (String × DataW Unit) := Rows.fnSessionPrefixRow.laid

section
variable {H : Type} {enc : TypeId × Value → H}
/-- the wrap that keeps both what is listed and the world's shape -/
theorem returns_laid_shaped {a : Assume} {C : Checked} {os : Os} {f : FuncId} {fn : Func} {s : ChangeSpec} {conds : List PathCond} {apart fresh handsOn again : Bool} {X : World → Array Value → Prop}
    (hX : ∀ (w w' : World) (args : Array Value), w.heap = w'.heap → X w args → X w' args)
    (own : ownKnob C.prog.godebug = none) (started : os.Started) (noInit : C.prog.inits.idxOf? f = none) (hfn : C.prog.funcs[f]? = some fn)
    (witness : ∃ (w : World) (tape : Tape) (i : Input), w.os = os ∧ (w.forCall tape i).Shaped C.prog ∧ i.vars = [] ∧ Input.okWide C.prog (w.forCall tape i) .any w.heap.size f i ∧
      ((s.pre enc C.prog fn conds apart (w.forCall tape i).memory i.args ∧ X (w.forCall tape i).memory i.args) ∧ sizedMet enc C.prog fn (OpenSpec.ofChange s) apart (w.forCall tape i).memory i.args) ∧ a.holds C.prog (lone (Frame.enter C.prog f i.args .normal) [] (w.forCall tape i)))
    (contract : ∀ (W : World) (base : Nat) (args : Array Value) (ds gs : List (DataW H)) (before : List MemPlace),
      (∀ (j : Nat) t v, fn.params[j]? = some t → args[j]? = some v → Value.okWide C.prog W .any base t v) →
      DataW.Whole enc C.prog fn.params.toList s.vars apart W args.toList ds gs before →
      X W args → W.ShapedOpen C.prog →
      Calls C.prog f args W fun e W' => ∃ v, e = .returned v ∧ s.post enc C.prog fn apart fresh handsOn again W args v W') :
    ReturnsInHanded a C os f .any (fun w args => (s.pre enc C.prog fn conds apart w args ∧ X w args) ∧ sizedMet enc C.prog fn (OpenSpec.ofChange s) apart w args) (s.post enc C.prog fn apart fresh handsOn again) := by
  refine returnsInHanded_of_calls own started noInit witness ?_
  intro w tape i _ hsh _ hok hpre hholds
  obtain ⟨_, _, _, fn', hfn', _, _, _, _, hval⟩ := hok
  have e : fn' = fn := Option.some.inj (hfn'.symm.trans hfn)
  subst e
  obtain ⟨⟨⟨ds, gs, before, hw, hc⟩, hx⟩, hz⟩ := hpre
  have hw' := DataW.Whole.of_heap (w' := w.forCall tape i) (by rfl) hw
  refine (contract (w.forCall tape i) w.heap.size i.args ds gs before hval hw' (hX _ _ _ (by rfl) hx) hsh).mono fun e W' ⟨v, he, hp⟩ => ?_
  subst he
  exact ChangeSpec.post_blind hp
end

theorem gMax : Tryz.prog.globalNamed "internal/bytealg.MaxLen" = some 0 := by kernel_rfl
theorem gPow : Tryz.prog.globalNamed "internal/strconv.uint64pow10" = some 1 := by kernel_rfl
theorem gSyn : Tryz.prog.globalNamed "strconv.ErrSyntax" = some 4 := by kernel_rfl
theorem gRng : Tryz.prog.globalNamed "strconv.ErrRange" = some 5 := by kernel_rfl
theorem gSynT : (Tryz.prog.globals[4]?).map (·.type) = some 90 := by kernel_rfl
theorem gRngT : (Tryz.prog.globals[5]?).map (·.type) = some 90 := by kernel_rfl
theorem cellsErr : Tryz.prog.cellsOf 165 = 1 := by kernel_rfl
theorem cellsStr : Tryz.prog.cellsOf 9 = 1 := by kernel_rfl
theorem starErr : "*" ++ "errors.errorString" = "*errors.errorString" := by decide
/-- the one row of that name -/
theorem rowErr (u : TypeId) (h : Tryz.prog.typeName? 3 u = some "*errors.errorString") : u = 163 :=
  typeName_ptr_named (nm := "errors.errorString") (by rw [starErr]; kernel_rfl) (by kernel_rfl) (by decide) u (by rw [starErr]; exact h)
theorem maxInt {W : World} (h : W.ShapedOpen Tryz.prog) : ∃ m, W.cell? ⟨0, 0, none⟩ = some (.int .i64 m) :=
  cell_of_shapedOpen_int (t := 3) (zero := #[.int .i64 0]) h (of_decide_eq_true (by kernel_rfl)) (by kernel_rfl) rfl (by kernel_rfl) (by kernel_rfl) Tryz.underlying3
theorem libOk_of {W : World} (hL : laidMet Tryz.prog laid7 W) (hsh : W.ShapedOpen Tryz.prog) : LibOk W := by
  have h2 := laidMet.tail (laidMet.tail hL)
  have h5 := laidMet.tail (laidMet.tail h2)
  have h6 := laidMet.tail h5
  refine ⟨maxInt hsh, ?_, ?_, ?_⟩
  · exact Lib.tabIs_of_head (rest := _) gPow (by kernel_rfl) Tryz.underlying142 Tryz.underlying118 (by kernel_rfl) (by kernel_rfl) h2
  · obtain ⟨a0, s0, hv0, _⟩ := laid_sentinel h6 gSyn gSynT Tryz.underlying90 rowErr Tryz.underlying163 Tryz.underlying165 rfl rfl Tryz.underlying9 cellsErr cellsStr
    exact ⟨_, _, hv0⟩
  · obtain ⟨a0, s0, hv0, _⟩ := laid_sentinel h5 gRng gRngT Tryz.underlying90 rowErr Tryz.underlying163 Tryz.underlying165 rfl rfl Tryz.underlying9 cellsErr cellsStr
    exact ⟨_, _, hv0⟩
/-- a slice of texts that came in -/
theorem strings_row {H : Type} {enc : TypeId × Value → H} {W : World} {x : DataW H} {p : List MemPlace} {a0 : Option Addr} {len cap : Nat}
    (h : DataW.Trod enc Tryz.prog W 0 (fun _ => true) true 23 (.slice a0 len cap) x p) :
    ∃ ls : List (List UInt8), len = ls.length ∧ ls.length ≤ cap ∧ ls.length ≤ maxLen ∧ (∀ y ∈ ls, y.length ≤ maxLen) ∧ SeesT W a0 ls := by
  obtain ⟨fuel, hf⟩ := h
  rcases open_strs Tryz.underlying23 Tryz.underlying9 cellsStr hf with ⟨hcs, _⟩ | ⟨a, l, c, m, Sx, hcs, _, hl, hm, hmm, _, hi⟩
  · simp [Value.cells] at hcs
    obtain ⟨rfl, rfl, rfl⟩ := hcs
    exact ⟨[], rfl, Nat.le_refl _, by unfold maxLen; simp, by simp, Rd.nil_ _ _ _ _⟩
  · simp [Value.cells] at hcs
    obtain ⟨rfl, rfl, rfl⟩ := hcs
    have hm' : m = cap := by simpa using hmm
    refine ⟨(List.range len).map fun i => (Sx i).data.toList, by simp, by simpa using hl, by simp; omega, fun y hy => ?_, fun hn => ?_⟩
    · simp only [List.mem_map, List.mem_range] at hy
      obtain ⟨i, hil, rfl⟩ := hy
      have := (hi i (by omega)).2
      rw [Lib.size_eq] at this
      exact this
    · have hpos : 0 < len := by
        rcases Nat.eq_zero_or_pos len with h0 | h0
        · subst h0; exact absurd rfl hn
        · exact h0
      obtain ⟨b, o, sp⟩ := a
      have hc0 := (hi 0 (by omega)).1
      have hsp : sp = none := by simpa [Addr.add] using World.cell?_spot hc0
      subst hsp
      have hb : b < W.heap.size := by
        have := World.block_lt_of_cell? W _ hc0
        simpa [Addr.add] using this
      refine ⟨b, o, rfl, Nat.zero_le _, hb, fun i y hy => ?_⟩
      rw [List.getElem?_map] at hy
      obtain ⟨z, hz, rfl⟩ := Option.map_eq_some_iff.1 hy
      rw [List.getElem?_map] at hz
      obtain ⟨i', hi', rfl⟩ := Option.map_eq_some_iff.1 hz
      have hil : i < len := by
        have := (List.getElem?_eq_some_iff.1 hi').1
        simpa using this
      have hii : i' = i := by
        rw [List.getElem?_range hil] at hi'
        exact (Option.some.inj hi').symm
      subst hii
      have d0 := (hi i' (by omega)).1
      rw [Addr.add_lit] at d0
      rw [d0, tb_data]
end Go.Proofs.YtibbpbbgmgdpdaaGreatDoor
