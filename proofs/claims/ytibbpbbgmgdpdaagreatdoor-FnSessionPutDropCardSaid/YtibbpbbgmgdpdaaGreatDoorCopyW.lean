/- The walks of the copies of items. -/
import Derived.Test.YtibbpbbgmgdpdaaGreatDoorItemW
import Derived.Test.YtibbpbbgmgdpdaaGreatDoorBase
import Derived.Deep.RegionWith
import Derived.Deep.RegionHeld3
namespace Go.Proofs.YtibbpbbgmgdpdaaGreatDoor
open Go.RowKit
set_option linter.unusedVariables false
set_option maxRecDepth 100000

theorem info_int' : (Tryz.prog.info? 3).map (fun i => (i.zero, i.size, i.bytes)) = some (some (.int .i64 0), 1, 8) := by kernel_rfl

theorem run_append_nil_c {P : Program} (w : World) (base : Nat) (t ty e : TypeId) (i : TypeInfo) (size : Nat) (ht : P.underlying t = some (.slice e)) (hi : P.info? e = some i)
    (v : Value) (n : Nat) (xs : List Value) (hown : w.ownsRow base e size v n xs) (c : Nat) : (Builtin.append_ #[t, t] ty #[v, .slice none 0 c]).run P w = .ok v w := by
  rcases hown.2 with ⟨rfl, rfl⟩ | ⟨g, cap, cur, rfl, _, _, hnc, _⟩
  · simp [Builtin.append_, run_underlying ht, sizeOf, typeInfo, hi, Builtin.lenOf, Builtin.firstCells]
  · simp [Builtin.append_, run_underlying ht, sizeOf, typeInfo, hi, Builtin.lenOf, Builtin.firstCells, hnc, storeCells]
theorem wpList_append_nil_c {P : Program} {w : World} {ops : Array Oper} {rest : List Oper} {o : Oper} {a : Act} {Q : Exit → Act → World → Prop} (hgd : o.guard = none) (s x : Operand) (t : TypeId)
    (ho : o.op = .call { callee := .builtin .append, args := #[s, x], argTypes := #[t, t] })
    (base : Nat) (e : TypeId) (i : TypeInfo) (size : Nat) (ht : P.underlying t = some (.slice e)) (hi : P.info? e = some i)
    (v : Value) (n : Nat) (xs : List Value) (hs : a.eval s = v) (hown : w.ownsRow base e size v n xs) (c : Nat) (hx : a.eval x = .slice none 0 c)
    (h : wpList P ops Q rest (a.put o.dst v) w) : wpList P ops Q (o :: rest) a w := by
  refine wpList_plain hgd fun K hK => ?_
  have hrun := run_append_nil_c (P := P) w base t o.type e i size ht hi v n xs hown c
  unfold Oper.wp
  simp [execOp, ho, resolve, invoke, builtin, hs, hx, hrun, Result.andThen]
  exact hK _ _ h

theorem wpList_name {P : Program} {ops : Array Oper} {Q : Exit → Act → World → Prop} {rest : List Oper} {a : Act} {w : World} (S : World → Prop) (hS : S w) (h : ∀ W, S W → wpList P ops Q rest a W) : wpList P ops Q rest a w := h w hS

/-- append(x, xs..) onto a row of the call's own, the source nil or not -/
theorem wpList_append_rd {P : Program} (w : World) {ops : Array Oper} {rest : List Oper} {o : Oper} {a : Act} {Q : Exit → Act → World → Prop} (hgd : o.guard = none) (s x : Operand) (t : TypeId)
    (ho : o.op = .call { callee := .builtin .append, args := #[s, x], argTypes := #[t, t] })
    (base : Nat) (e : TypeId) (i : TypeInfo) (z : Value) (size bytes : Nat) (ht : P.underlying t = some (.slice e)) (hi : P.info? e = some i) (hz : i.zero = some z)
    (hsize : i.size = size) (hby : i.bytes = bytes) (hzs : z.cells.size = size) (hsz : 0 < size)
    (v : Value) (n : Nat) (xs : List Value) (hs : a.eval s = v) (hown : w.ownsRow base e size v n xs) (A : Option Addr) (m c lo hi' : Nat) (news : List Value) (hx : a.eval x = .slice A m c)
    (hl : news.length = m * size) (hr : Rd w lo hi' A news) (h1 : ∀ u ∈ news, u.oneCell' = true) (h63 : n + m ≤ maxLen) (hbytes : (n + m) * bytes ≤ 140737488355328) (hbase : base ≤ w.heap.size)
    (h : ∀ v' w', w'.ownsRow base e size v' (n + m) (xs ++ news) → w.grownBy w' v.ownBlock → wpList P ops Q rest (a.put o.dst v') w') : wpList P ops Q (o :: rest) a w := by
  cases A with
  | none =>
    have hn : news = [] := by
      cases hnw : news with
      | nil => rfl
      | cons u r =>
        obtain ⟨_, _, e, _⟩ := hr (by rw [hnw]; simp)
        cases e
    have hm : m = 0 := by
      rw [hn] at hl
      rcases Nat.eq_zero_or_pos m with h0 | h0
      · exact h0
      · have := Nat.mul_pos h0 hsz
        simp at hl
        omega
    subst hn hm
    refine wpList_append_nil_c hgd s x t ho base e i size ht hi v n xs hs hown c hx ?_
    exact h v w (by simpa using hown) (gb_refl _ _)
  | some ad =>
    refine wpList_append_own w hgd s x t ho base e i z size bytes ht hi hz hsize hby hzs hsz v n xs hs hown ad m c news hx hl (fun j u hu => ?_) h1 h63 hbytes hbase (fun v' w' a b _ => h v' w' a b)
    obtain ⟨b, o', e', _, _, hc⟩ := hr (by intro hn; subst hn; simp at hu)
    injection e' with e'
    subst e'
    rw [Addr.add_lit]
    exact hc j u hu

theorem copyInts_spec (w : World) (A : Option Addr) (c lo hi : Nat) (l : List Int) (hl : l.length ≤ 1048576) (hr : Rd w lo hi A (l.map (.int .i64))) (hhi : hi ≤ w.heap.size) :
    Calls Tryz.prog 47 #[.slice A l.length c] w fun e w' => ∃ v, e = .returned v ∧ OwnInts .i64 3 w' w.heap.size v l ∧ w.grownBy w' none := by
  obtain ⟨i0, hi0, hz0, hz1, hz2⟩ := info_parts info_int'
  have HR := Lib.hid (hr.agree (fun b _ h => Below.heap_alloc w (.cells #[] 3) b (by omega)))
  clear hr
  go_enter Tryz.func47, Tryz.ntmps47
  go_wp2_with (at_builtin; refine wpList_append_rd _ rfl (.tmp 3) (.tmp 4) 34 rfl w.heap.size 3 i0 (.int .i64 0) 1 8 Tryz.underlying34 hi0 hz0 hz1 hz2 rfl (by decide) (.slice (some ⟨w.heap.size, 0, none⟩) 0 0) 0 [] rfl (World.ownsRow_made w #[] 0 (Nat.le_refl _) (by decide) rfl) A l.length c lo hi (l.map (.int .i64)) rfl (by simp) HR.out (ints_oneCell _ _) (by unfold maxLen; omega) (by omega) (by simp) ?_; intro v' w4 hown' hgrow; have T1 := Lib.hid hown'; have T2 := Lib.hid hgrow; clear hown' hgrow)
  go_ret
  refine ⟨v', rfl, ?_, gb_new (gb_alloc (gb_refl w none) _) T2.out (fun g hg => .inl (by simp [Value.ownBlock] at hg; omega))⟩
  have := T1.out
  rw [Nat.zero_add, List.nil_append] at this
  exact this

theorem copy_three (w : World) (x y z : Value) : Row (((w.alloc (.cells #[x, y, z] 59)).alloc (.cells #[.int .i64 0, .slice none 0 0, .int .i64 0] 59)).alloc (.cells #[] 3)) w.heap.size 59 [x, y, z] ∧
    Row (((w.alloc (.cells #[x, y, z] 59)).alloc (.cells #[.int .i64 0, .slice none 0 0, .int .i64 0] 59)).alloc (.cells #[] 3)) (w.heap.size + 1) 59 [.int .i64 0, .slice none 0 0, .int .i64 0] ∧
    (((w.alloc (.cells #[x, y, z] 59)).alloc (.cells #[.int .i64 0, .slice none 0 0, .int .i64 0] 59)).alloc (.cells #[] 3)).ownsRow (w.heap.size + 2) 3 1 (.slice (some ⟨w.heap.size + 1 + 1, 0, none⟩) 0 0) 0 [] ∧
    w.grownBy (((w.alloc (.cells #[x, y, z] 59)).alloc (.cells #[.int .i64 0, .slice none 0 0, .int .i64 0] 59)).alloc (.cells #[] 3)) none ∧
    (((w.alloc (.cells #[x, y, z] 59)).alloc (.cells #[.int .i64 0, .slice none 0 0, .int .i64 0] 59)).alloc (.cells #[] 3)).heap.size = w.heap.size + 3 := by
  refine ⟨((Row.new w _ rfl).alloc _).alloc _, ?_, ?_, gb_alloc (gb_alloc (gb_alloc (gb_refl _ _) _) _) _, by simp⟩
  · have := (Row.new (w.alloc (.cells #[x, y, z] 59)) 59 (ca := #[.int .i64 0, .slice none 0 0, .int .i64 0]) rfl).alloc (.cells #[] 3)
    simpa using this
  · have := World.ownsRow_made (base := w.heap.size + 2) (e := 3) (size := 1) ((w.alloc (.cells #[x, y, z] 59)).alloc (.cells #[.int .i64 0, .slice none 0 0, .int .i64 0] 59)) #[] 0 (by simp) (by decide) rfl
    simpa using this
def Copied' (w : World) (x : M.Item) (e : Ending) (w' : World) : Prop :=
  ∃ A c, e = .returned (.agg #[.int .i64 x.key, .slice A x.pos.length c, .int .i64 x.tags]) ∧ OwnInts .i64 3 w' w.heap.size (.slice A x.pos.length c) x.pos ∧ w.grownBy w' none
set_option maxHeartbeats 600000 in
theorem copyItem_impl (w : World) (u : Value) (lo hi : Nat) (x : M.Item) (hl : x.pos.length ≤ 1048576) (hr : RdInts .i64 w lo hi u x.pos) (hhi : hi ≤ w.heap.size) :
    Calls Tryz.prog 53 #[.agg #[.int .i64 x.key, u, .int .i64 x.tags]] w (Copied' w x) := by
  obtain ⟨i0, hi0, hz0, hz1, hz2⟩ := info_parts info_int'
  obtain ⟨A, c, rfl, hc, hrd⟩ := hr
  obtain ⟨k, l, t⟩ := x
  have HR := Lib.hid hrd
  have hl' : l.length ≤ 1048576 := hl
  clear hrd hl
  show Calls Tryz.prog 53 #[.agg #[.int .i64 k, .slice A l.length c, .int .i64 t]] w _
  go_enter Tryz.func53, Tryz.ntmps53
  go_wp2_with (at_builtin; refine wpList_name (fun W => Row W w.heap.size 59 [.int .i64 k, .slice A l.length c, .int .i64 t] ∧ Row W (w.heap.size + 1) 59 [.int .i64 0, .slice none 0 0, .int .i64 0] ∧ W.ownsRow (w.heap.size + 2) 3 1 (.slice (some ⟨w.heap.size + 1 + 1, 0, none⟩) 0 0) 0 [] ∧ w.grownBy W none ∧ W.heap.size = w.heap.size + 3) (copy_three w _ _ _) ?_; rintro W ⟨r0, r1, r2, hgW, hsz⟩; refine wpList_append_rd _ rfl (.tmp 3) (.tmp 5) 34 rfl (w.heap.size + 2) 3 i0 (.int .i64 0) 1 8 Tryz.underlying34 hi0 hz0 hz1 hz2 rfl (by decide) (.slice (some ⟨w.heap.size + 1 + 1, 0, none⟩) 0 0) 0 [] rfl r2 A l.length c lo hi (l.map (.int .i64)) rfl (by simp) (HR.out.agree (fun b _ h => (Agree.of_grown hgW) b (Nat.zero_le _) (by omega))) (ints_oneCell _ _) (by unfold maxLen; omega) (by omega) (by omega) ?_; intro v' w4 hown' hgrow; rw [Nat.zero_add, List.nil_append] at hown'; obtain ⟨Av, cv, rfl, hcv, _⟩ := OwnInts.rd (k := .i64) (t := 3) (l := l) hown'; have q0 := r0.grown hgrow (by simp [Value.ownBlock]; omega); have q1 := r1.grown hgrow (by simp [Value.ownBlock]); have a00 : w4.cell? ⟨w.heap.size, 0, none⟩ = some (.int .i64 k) := q0.cell 0; have a01 : w4.cell? ⟨w.heap.size, 1, none⟩ = some (.slice A l.length c) := q0.cell 1; have a02 : w4.cell? ⟨w.heap.size, 2, none⟩ = some (.int .i64 t) := q0.cell 2; have f01 : w4.frozen? ⟨w.heap.size, 1, none⟩ = false := q0.frozen 1; have a10 : w4.cell? ⟨w.heap.size + 1, 0, none⟩ = some (.int .i64 0) := q1.cell 0; have a11 : w4.cell? ⟨w.heap.size + 1, 1, none⟩ = some (.slice none 0 0) := q1.cell 1; have a12 : w4.cell? ⟨w.heap.size + 1, 2, none⟩ = some (.int .i64 0) := q1.cell 2; have f10 : w4.frozen? ⟨w.heap.size + 1, 0, none⟩ = false := q1.frozen 0; have f11 : w4.frozen? ⟨w.heap.size + 1, 1, none⟩ = false := q1.frozen 1; have f12 : w4.frozen? ⟨w.heap.size + 1, 2, none⟩ = false := q1.frozen 2; have HO := Lib.hid hown'; have HG := Lib.hid (gb_new hgW hgrow (fun g hg => .inl (by simp [Value.ownBlock] at hg; omega))); have HS := Lib.hid hsz; clear r0 r1 r2 hgW hsz hown' hgrow q0 q1)
  refine bodyPost_ret (v := .agg #[.int .i64 k, .slice Av l.length cv, .int .i64 t]) (by simp [results, Tryz.results53, go_sem, a10, a11, a12]) rfl ⟨_, _, rfl, ?_, ?_⟩
  · refine OwnInts.wide (lo := w.heap.size + 2) ?_ (by omega)
    exact (((OwnInts.set_ (k := .i64) (t := 3) (l := l) HO.out (by show w.heap.size < _; omega) _).set_ (by show w.heap.size + 1 < _; omega) _).set_ (by show w.heap.size + 1 < _; omega) _).set_ (by show w.heap.size + 1 < _; omega) _
  · exact gb_setCell (gb_setCell (gb_setCell (gb_setCell HG.out (.inl (by show _ ≤ w.heap.size; omega)) _) (.inl (by show _ ≤ w.heap.size + 1; omega)) _) (.inl (by show _ ≤ w.heap.size + 1; omega)) _) (.inl (by show _ ≤ w.heap.size + 1; omega)) _

theorem copy_two (w : World) (x y z : Value) : Row ((w.alloc (.cells #[x, y, z] 59)).alloc (.cells #[.int .i64 0, .slice none 0 0, .int .i64 0] 59)) w.heap.size 59 [x, y, z] ∧
    Row ((w.alloc (.cells #[x, y, z] 59)).alloc (.cells #[.int .i64 0, .slice none 0 0, .int .i64 0] 59)) (w.heap.size + 1) 59 [.int .i64 0, .slice none 0 0, .int .i64 0] ∧
    w.grownBy ((w.alloc (.cells #[x, y, z] 59)).alloc (.cells #[.int .i64 0, .slice none 0 0, .int .i64 0] 59)) none ∧
    ((w.alloc (.cells #[x, y, z] 59)).alloc (.cells #[.int .i64 0, .slice none 0 0, .int .i64 0] 59)).heap.size = w.heap.size + 2 := by
  refine ⟨(Row.new w _ rfl).alloc _, ?_, gb_alloc (gb_alloc (gb_refl _ _) _) _, by simp⟩
  have := Row.new (w.alloc (.cells #[x, y, z] 59)) 59 (ca := #[.int .i64 0, .slice none 0 0, .int .i64 0]) rfl
  simpa using this

set_option maxHeartbeats 600000 in
theorem copyItem_spec (w : World) (u : Value) (lo hi : Nat) (x : M.Item) (hl : x.pos.length ≤ 1048576) (hr : RdInts .i64 w lo hi u x.pos) (hhi : hi ≤ w.heap.size) :
    Calls Tryz.prog 84 #[.agg #[.int .i64 x.key, u, .int .i64 x.tags]] w (Copied' w x) := by
  obtain ⟨A, c, rfl, hc, hrd⟩ := hr
  obtain ⟨k, l, t⟩ := x
  have HR := Lib.hid hrd
  have hl' : l.length ≤ 1048576 := hl
  clear hrd hl
  show Calls Tryz.prog 84 #[.agg #[.int .i64 k, .slice A l.length c, .int .i64 t]] w _
  go_enter Tryz.func84, Tryz.ntmps84
  go_wp2_with fail
  refine wp_name (fun W => Row W w.heap.size 59 [.int .i64 k, .slice A l.length c, .int .i64 t] ∧ Row W (w.heap.size + 1) 59 [.int .i64 0, .slice none 0 0, .int .i64 0] ∧ w.grownBy W none ∧ W.heap.size = w.heap.size + 2) (copy_two w _ _ _) ?_
  rintro W ⟨r0, r1, hgW, hsz⟩
  have a00 : W.cell? ⟨w.heap.size, 0, none⟩ = some (.int .i64 k) := r0.cell 0
  have a01 : W.cell? ⟨w.heap.size, 1, none⟩ = some (.slice A l.length c) := r0.cell 1
  have a02 : W.cell? ⟨w.heap.size, 2, none⟩ = some (.int .i64 t) := r0.cell 2
  have HR0 := Lib.hid r0
  have HR1 := Lib.hid r1
  have HGW := Lib.hid hgW
  have HSZ := Lib.hid hsz
  clear r0 r1 hgW hsz
  go_region_held3 (fun w' => w'.cell? ⟨w.heap.size, 0, none⟩ = some (.int .i64 k) ∧ w'.cell? ⟨w.heap.size, 1, none⟩ = some (.slice A l.length c) ∧ w'.cell? ⟨w.heap.size, 2, none⟩ = some (.int .i64 t)) (first | go_keep | exact ⟨by assumption, by assumption, by assumption⟩)
    (first | (go_at_call 47; refine (copyInts_spec W.drew A c lo hi l hl' (HR.out.agree (fun b _ h => (Agree.of_grown (gb_drew HGW.out)) b (Nat.zero_le _) (by omega))) (by show hi ≤ W.heap.size; have := HSZ.out; omega)).mono ?_; rintro e w1 ⟨v, rfl, ho, hg⟩; obtain ⟨Av, cv, rfl, hcv, _⟩ := ho.rd; have q1 := Row.grown (w := W.drew) HR1.out hg (by simp); have q0 := Row.grown (w := W.drew) HR0.out hg (by simp); have b00 : w1.cell? ⟨w.heap.size, 0, none⟩ = some (.int .i64 k) := q0.cell 0; have b01 : w1.cell? ⟨w.heap.size, 1, none⟩ = some (.slice A l.length c) := q0.cell 1; have b02 : w1.cell? ⟨w.heap.size, 2, none⟩ = some (.int .i64 t) := q0.cell 2; have a10 : w1.cell? ⟨w.heap.size + 1, 0, none⟩ = some (.int .i64 0) := q1.cell 0; have a11 : w1.cell? ⟨w.heap.size + 1, 1, none⟩ = some (.slice none 0 0) := q1.cell 1; have a12 : w1.cell? ⟨w.heap.size + 1, 2, none⟩ = some (.int .i64 0) := q1.cell 2; have f10 : w1.frozen? ⟨w.heap.size + 1, 0, none⟩ = false := q1.frozen 0; have f11 : w1.frozen? ⟨w.heap.size + 1, 1, none⟩ = false := q1.frozen 1; have f12 : w1.frozen? ⟨w.heap.size + 1, 2, none⟩ = false := q1.frozen 2; have HO := Lib.hid ho; have HG := Lib.hid (gb_trans (gb_drew HGW.out) hg); clear ho hg q1 q0))
  go_wp2_with fail
  refine bodyPost_ret (v := .agg #[.int .i64 k, .slice Av l.length cv, .int .i64 t]) (by simp [results, Tryz.results84, go_sem, a10, a11, a12]) rfl ⟨_, _, rfl, ?_, ?_⟩
  · have hz : W.drew.heap.size = w.heap.size + 2 := HSZ.out
    refine OwnInts.wide (lo := W.drew.heap.size) ?_ (by omega)
    exact (((HO.out.set_ (by show w.heap.size + 1 < _; omega) _).set_ (by show w.heap.size + 1 < _; omega) _).set_ (by show w.heap.size + 1 < _; omega) _)
  · exact gb_setCell (gb_setCell (gb_setCell HG.out (.inl (by show _ ≤ w.heap.size + 1; omega)) _) (.inl (by show _ ≤ w.heap.size + 1; omega)) _) (.inl (by show _ ≤ w.heap.size + 1; omega)) _

end Go.Proofs.YtibbpbbgmgdpdaaGreatDoor
