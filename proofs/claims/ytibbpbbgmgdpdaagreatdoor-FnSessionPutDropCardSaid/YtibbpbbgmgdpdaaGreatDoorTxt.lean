/- Texts in memory; the library's contracts for texts and numbers in plain words. -/
import Derived.Test.YtibbpbbgmgdpdaaGreatDoorShelT
import Derived.Test.YtibbpbbgmgdpdaaGreatDoorSes
import Derived.Test.YtibbpbbgmgdpdaaGreatDoorSee
import Derived.Lib.AppendIntMem
import Derived.Stop.LaidErr
namespace Go.Proofs.YtibbpbbgmgdpdaaGreatDoor
open Go.RowKit
set_option linter.unusedVariables false
set_option linter.unusedSimpArgs false
set_option maxRecDepth 100000

/-- a text -/
def tb (l : List UInt8) : ByteArray := ⟨l.toArray⟩
theorem tb_list (l : List UInt8) : (tb l).data.toList = l := rfl
theorem tb_data (s : ByteArray) : tb s.data.toList = s := Lib.mk_data s
theorem tb_size (l : List UInt8) : (tb l).size = l.length := by rw [Lib.size_eq, tb_list]
theorem tb_append (a b : List UInt8) : tb a ++ tb b = tb (a ++ b) := by
  unfold tb
  rw [ByteArray.mk_append_mk]
  first | done | simp
theorem tb_inj {a b : List UInt8} (h : tb a = tb b) : a = b := by rw [← tb_list a, h, tb_list]
theorem tb_ne {a b : List UInt8} (h : a ≠ b) : tb a ≠ tb b := fun e => h (tb_inj e)
theorem tb_extract (l : List UInt8) (a b : Nat) : (tb l).extract a b = tb ((l.take b).drop a) := by
  have h : ((tb l).extract a b).data.toList = (l.take b).drop a := by rw [Lib.extract_data]; simp [tb, List.extract_eq_take_drop, List.drop_take]
  rw [← tb_data ((tb l).extract a b), h]
theorem tb_add (P : Program) (w : World) (a b : List UInt8) (h : a.length + b.length ≤ 9223372036854775807) : (Op.stringOp .add (tb a) (tb b)).run P w = .ok (.string (tb (a ++ b))) w := by
  rw [run_string_add_sum w (tb a) (tb b) (by rw [tb_size, tb_size]; exact h), tb_append]

/-- a list of texts in memory -/
def SeesT (w : World) (A : Option Addr) (xs : List (List UInt8)) : Prop := Rd w 0 w.heap.size A (xs.map fun l => .string (tb l))
theorem SeesT.on {w w' : World} {A : Option Addr} {xs : List (List UInt8)} (h : SeesT w A xs) (hg : w.grownBy w' none) : SeesT w' A xs := (Rd.keep h hg (Nat.le_refl _)).wide (Nat.le_refl _) hg.size
theorem SeesT.at_ {w : World} {A : Option Addr} {xs : List (List UInt8)} (h : SeesT w A xs) {j : Nat} (hj : j < xs.length) : ∃ b o, A = some ⟨b, o, none⟩ ∧ b < w.heap.size ∧ w.cell? ⟨b, o + j, none⟩ = some (.string (tb xs[j])) := by
  obtain ⟨b, o, e, _, h2, h3⟩ := Rd.at_ h (j := j) (u := .string (tb xs[j])) (by simp [hj])
  exact ⟨b, o, e, h2, h3⟩
/-- of the call's own -/
def OwnT (w : World) (lo : Nat) (v : Value) (xs : List (List UInt8)) : Prop := w.ownsRow lo 9 1 v xs.length (xs.map fun l => .string (tb l))
theorem OwnT.grown {w w' : World} {lo : Nat} {v : Value} {xs : List (List UInt8)} {r : Option Nat} (h : OwnT w lo v xs) (hg : w.grownBy w' r) (hr : v.ownBlock = none ∨ v.ownBlock ≠ r) : OwnT w' lo v xs := h.kept hg hr
theorem OwnT.on {w w' : World} {lo : Nat} {v : Value} {xs : List (List UInt8)} (h : OwnT w lo v xs) (hg : w.grownBy w' none) : OwnT w' lo v xs := h.kept hg (own_ge h (by simp))
theorem OwnT.wide {w : World} {lo lo' : Nat} {v : Value} {xs : List (List UInt8)} (h : OwnT w lo v xs) (hl : lo' ≤ lo) : OwnT w lo' v xs := by
  refine ⟨h.1, ?_⟩
  rcases h.2 with h0 | ⟨g, cap, cur, hv, hg, r⟩
  · exact .inl h0
  · exact .inr ⟨g, cap, cur, hv, by omega, r⟩
theorem OwnT.form {w : World} {lo : Nat} {v : Value} {xs : List (List UInt8)} (h : OwnT w lo v xs) : ∃ A c, v = .slice A xs.length c ∧ xs.length ≤ c := by
  rcases h.2 with ⟨rfl, hn⟩ | ⟨g, cap, cur, rfl, hg, hh, hnc, hcm, hcs, htake⟩
  · exact ⟨none, 0, by rw [hn], by omega⟩
  · exact ⟨_, _, rfl, hnc⟩
theorem OwnT.sees {w : World} {lo : Nat} {A : Option Addr} {n c : Nat} {xs : List (List UInt8)} (h : OwnT w lo (.slice A n c) xs) : SeesT w A xs := by
  have hn : n = xs.length := by obtain ⟨A', c', e, _⟩ := h.form; injection e
  subst hn
  exact (rd_of_owns h).wide (Nat.zero_le _) (Nat.le_refl _)
/-- rows of other types lie elsewhere -/
theorem own_types_ne {w : World} {lo lo' size size' n n' : Nat} {t t' : TypeId} {v v' : Value} {xs xs' : List Value} (h : w.ownsRow lo t size v n xs) (h' : w.ownsRow lo' t' size' v' n' xs') (ht : t ≠ t') : v.ownBlock = none ∨ v.ownBlock ≠ v'.ownBlock := by
  rcases h.2 with ⟨rfl, _⟩ | ⟨g, cap, cur, rfl, _, hh, _⟩
  · exact .inl rfl
  · rcases h'.2 with ⟨rfl, _⟩ | ⟨g', cap', cur', rfl, _, hh', _⟩
    · exact .inr (by simp [Value.ownBlock])
    · refine .inr ?_
      simp only [Value.ownBlock, ne_eq, Option.some.injEq]
      rintro rfl
      rw [hh] at hh'
      injection hh' with h3
      injection h3 with _ h4
      exact ht h4
def GotT (w : World) (xs : List (List UInt8)) (e : Ending) (w' : World) : Prop := ∃ A c, e = .returned (.slice A xs.length c) ∧ xs.length ≤ c ∧ OwnT w' w.heap.size (.slice A xs.length c) xs ∧ w.grownBy w' none
theorem OwnT.got {w w' : World} {v : Value} {xs : List (List UInt8)} (h : OwnT w' w.heap.size v xs) (hg : w.grownBy w' none) : GotT w xs (.returned v) w' := by
  obtain ⟨A, c, rfl, hc⟩ := h.form
  exact ⟨A, c, rfl, hc, h, hg⟩
theorem info_string : (Tryz.prog.info? 9).map (fun i => (i.zero, i.size, i.bytes)) = some (some (.string ByteArray.empty), 1, 16) := by kernel_rfl

/-! what the library's own variables hold -/
def LibOk (w : World) : Prop := (∃ m, w.cell? ⟨0, 0, none⟩ = some (.int .i64 m)) ∧ Lib.TabIs Tryz.prog w "internal/strconv.uint64pow10" .u64 Lib.pow10Tab ∧ (∃ tp p, w.var? Tryz.prog "strconv.ErrSyntax" = some #[.iface tp p]) ∧ ∃ tp p, w.var? Tryz.prog "strconv.ErrRange" = some #[.iface tp p]
theorem var_on {w w' : World} {n : String} {cs : Array Value} (h : w.var? Tryz.prog n = some cs) (hg : w.grownBy w' none) : w'.var? Tryz.prog n = some cs := by
  unfold World.var? at *
  cases hq : Tryz.prog.globalNamed n with
  | none => simp [hq] at h
  | some g =>
    simp only [hq, Option.bind_some] at h ⊢
    have hlt : g < w.heap.size := by
      rcases Nat.lt_or_ge g w.heap.size with h' | h'
      · exact h'
      · rw [Array.getElem?_eq_none h'] at h; simp at h
    rw [hg.block g hlt (by simp)]
    exact h
theorem LibOk.on {w w' : World} (h : LibOk w) (hg : w.grownBy w' none) : LibOk w' := by
  obtain ⟨⟨m, h1⟩, h2, ⟨t1, p1, h3⟩, t2, p2, h4⟩ := h
  exact ⟨⟨m, hg.cell h1 (by simp)⟩, var_on h2 hg, ⟨t1, p1, var_on h3 hg⟩, t2, p2, var_on h4 hg⟩
theorem split_any {w : World} (hl : LibOk w) (l : List UInt8) (c : UInt8) (hs : l.length ≤ 1048576) : Calls Tryz.prog 28 #[.string (tb l), .string ⟨#[c]⟩] w (GotT w (M.cut c l)) := by
  obtain ⟨⟨m, hm⟩, _⟩ := hl
  have h1 : 1 ≤ (⟨#[c]⟩ : ByteArray).size := Nat.le_refl 1
  have hb : ∀ s : ByteArray, Lib.countB s ⟨#[c]⟩ = Lib.count s.data.toList [c] := fun s => rfl
  have e1 : (Lib.splitB ⟨#[c]⟩ 0 (Lib.countB (tb l) ⟨#[c]⟩) (tb l)).map (·.data.toList) = M.cut c l := by
    rw [Lib.splitB_data, hb, tb_list]
    exact M.split_cut c l
  have e2 : (Lib.splitB ⟨#[c]⟩ 0 (Lib.countB (tb l) ⟨#[c]⟩) (tb l)).map Value.string = (M.cut c l).map fun x => .string (tb x) := by
    rw [← e1, List.map_map]
    refine List.map_congr_left fun x _ => ?_
    show _ = Value.string (tb x.data.toList)
    rw [tb_data]
  have e3 : Lib.countB (tb l) ⟨#[c]⟩ + 1 = (M.cut c l).length := by
    rw [← e1, List.length_map, Lib.splitB_all _ h1 0 _ _ rfl]
  refine Calls.mono (show Calls Tryz.prog 28 #[.string (tb l), .string ⟨#[c]⟩] w _ from Any.strings_Split Tryz.lays146 (by kernel_rfl) (tb l) ⟨#[c]⟩ m w (by rw [tb_size]; omega) hm h1) ?_
  rintro e w' ⟨rfl, rfl⟩
  rw [e2, e3]
  refine ⟨_, _, rfl, Nat.le_refl _, ?_, World.grownBy_alloc w _ none⟩
  have hR : Row (w.alloc (.cells ((M.cut c l).map fun x => Value.string (tb x)).toArray 9)) w.heap.size 9 ((M.cut c l).map fun x => .string (tb x)) := Row.new w 9 (by simp)
  have hO := hR.owns (base := w.heap.size) (n := (M.cut c l).length) (cap := (M.cut c l).length) (size := 1) (Nat.le_refl _) (Nat.le_refl _) (by have := M.cut_len c l; unfold maxLen; omega) (by simp)
  rw [List.take_of_length_le (by simp)] at hO
  exact hO
theorem itoa_any {w : World} (hl : LibOk w) (n : Int) (h0 : -9223372036854775808 ≤ n) (h1 : n ≤ 9223372036854775807) : Calls Tryz.prog 35 #[.int .i64 n] w fun e w' => e = .returned (.string (tb (Lib.itoa n))) ∧ w.grownBy w' none := by
  obtain ⟨_, htab, _⟩ := hl
  refine Calls.mono (show Calls Tryz.prog 35 #[.int .i64 n] w _ from Any.strconv_Itoa Tryz.laysM171 n h0 h1 w htab) ?_
  rintro e w' ⟨rfl, k, os, rfl⟩
  exact ⟨rfl, gb_of_below (Lib.below_grow _ w (Nat.le_refl _) k os) none⟩
theorem bytesWorld_grown (w : World) (t : ByteArray) : w.grownBy (Lib.bytesWorld w 5 t) none := gb_of_below (Lib.bytesWorld_below w _ t) none
theorem atoi_ok {w : World} (l : List UInt8) (hs : l.length ≤ 1048576) {v : Int} (h : Lib.atoiAll l = .ok v) : Calls Tryz.prog 73 #[.string (tb l)] w fun e w' => e = .returned (.tuple #[.int .i64 v, .nilIface]) ∧ w.grownBy w' none := by
  refine Calls.mono (show Calls Tryz.prog 73 #[.string (tb l)] w _ from Any.strconv_Atoi_ok Tryz.laysC172 (tb l) (by rw [tb_size]; omega) v h w) ?_
  rintro e w' ⟨rfl, h⟩
  refine ⟨rfl, ?_⟩
  rcases h with rfl | ⟨t, rfl⟩
  · exact gb_refl _ _
  · exact bytesWorld_grown w t
/-- an error that is not nil -/
def IsErr (v : Value) : Prop := ∃ t N, v = .iface t (.pointer (some ⟨N, 0, none⟩))
theorem atoi_bad {w : World} (hl : LibOk w) (l : List UInt8) (hs : l.length ≤ 1048576) (h : ∀ v, Lib.atoiAll l ≠ .ok v) : Calls Tryz.prog 73 #[.string (tb l)] w fun e w' => ∃ n N, e = .returned (.tuple #[.int .i64 n, .iface 130 (.pointer (some ⟨N, 0, none⟩))]) ∧ w.grownBy w' none := by
  obtain ⟨_, _, ⟨t1, p1, h3⟩, t2, p2, h4⟩ := hl
  cases ha : Lib.atoiAll l
  · exact absurd ha (h _)
  · refine Calls.mono (show Calls Tryz.prog 73 #[.string (tb l)] w _ from Any.strconv_Atoi_syntax_var Tryz.laysC172 (tb l) (by rw [tb_size]; omega) ha t1 p1 w h3) ?_
    rintro e w' ⟨N, rfl, _, _, hb⟩
    exact ⟨_, N, rfl, gb_of_below hb none⟩
  · refine Calls.mono (show Calls Tryz.prog 73 #[.string (tb l)] w _ from Any.strconv_Atoi_range_var Tryz.laysC172 (tb l) (by rw [tb_size]; omega) ha t2 p2 w h4) ?_
    rintro e w' ⟨N, rfl, _, _, hb⟩
    exact ⟨_, N, rfl, gb_of_below hb none⟩
theorem join_any {w : World} {A : Option Addr} {c : Nat} {xs : List (List UInt8)} (D : SeesT w A xs) (hc : xs.length ≤ c) (hn : xs.length ≤ 1048576) (hlen : (Lib.join xs [32]).length ≤ 1048576) :
    Calls Tryz.prog 36 #[.slice A xs.length c, .string ⟨#[32]⟩] w fun e w' => e = .returned (.string (tb (Lib.join xs [32]))) ∧ w.grownBy w' none := by
  by_cases h0 : xs = []
  · subst h0
    refine Calls.mono (show Calls Tryz.prog 36 #[.slice A 0 c, .string ⟨#[32]⟩] w _ from Any.strings_Join_none Tryz.lays156 Tryz.Builder_Extra_156 A c ⟨#[32]⟩ w) ?_
    rintro e w' ⟨rfl, rfl⟩
    exact ⟨rfl, gb_refl _ _⟩
  · obtain ⟨bk, o, rfl, _, hbk, hcells⟩ := D (by simpa using h0)
    have e1 : (xs.map tb).map (·.data.toList) = xs := by
      rw [List.map_map]
      have h1 : (xs.map ((fun x : ByteArray => x.data.toList) ∘ tb)) = xs.map id := List.map_congr_left fun x _ => rfl
      rw [h1, List.map_id]
    have e2 : (xs.map tb).length = xs.length := List.length_map _
    have hJ := Any.strings_Join Tryz.lays156 Tryz.Builder_Extra_156 bk o c (xs.map tb) ⟨#[32]⟩ w (fun j x hx => hcells j _ (by
      rw [List.getElem?_map] at hx ⊢
      obtain ⟨y, hy, rfl⟩ := Option.map_eq_some_iff.1 hx
      rw [hy]
      rfl)) hbk (by rw [e2]; omega) (by rw [e2]; exact hc) (by rw [e1]; exact Nat.le_trans hlen (by omega))
    rw [e1, e2] at hJ
    refine Calls.mono (show Calls Tryz.prog 36 #[.slice (some ⟨bk, o, none⟩) xs.length c, .string ⟨#[32]⟩] w _ from hJ) ?_
    rintro e w' ⟨rfl, hb⟩
    exact ⟨rfl, gb_of_below hb none⟩
end Go.Proofs.YtibbpbbgmgdpdaaGreatDoor
