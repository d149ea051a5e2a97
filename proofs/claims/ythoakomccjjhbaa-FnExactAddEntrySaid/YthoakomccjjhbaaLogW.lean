/- The walks of copies of entries and of short logs. -/
import Derived.Test.YthoakomccjjhbaaEntW
import Derived.Test.YthoakomccjjhbaaDrawE
import Derived.Test.YthoakomccjjhbaaCopyW
import Derived.Test.YthoakomccjjhbaaPure
import Derived.Deep.RegionHeld3
namespace Go.Proofs.Ythoakomccjjhbaa
open Go.RowKit
set_option linter.unusedVariables false
set_option maxRecDepth 100000

def CopiedEn (w : World) (x : M.Entry) (e : Ending) (w' : World) : Prop :=
  ∃ A c, e = .returned (.agg #[.int .i64 x.kind, .int .i64 x.item.key, .slice A x.item.pos.length c, .int .i64 x.item.tags]) ∧ OwnInts .i64 3 w' w.heap.size (.slice A x.item.pos.length c) x.item.pos ∧ w.grownBy w' none
theorem ecopy_two (w : World) (q x y z : Value) : Row ((w.alloc (.cells #[q, x, y, z] 30)).alloc (.cells #[.int .i64 0, .int .i64 0, .slice none 0 0, .int .i64 0] 30)) w.heap.size 30 [q, x, y, z] ∧
    Row ((w.alloc (.cells #[q, x, y, z] 30)).alloc (.cells #[.int .i64 0, .int .i64 0, .slice none 0 0, .int .i64 0] 30)) (w.heap.size + 1) 30 [.int .i64 0, .int .i64 0, .slice none 0 0, .int .i64 0] ∧
    w.grownBy ((w.alloc (.cells #[q, x, y, z] 30)).alloc (.cells #[.int .i64 0, .int .i64 0, .slice none 0 0, .int .i64 0] 30)) none ∧
    ((w.alloc (.cells #[q, x, y, z] 30)).alloc (.cells #[.int .i64 0, .int .i64 0, .slice none 0 0, .int .i64 0] 30)).heap.size = w.heap.size + 2 := by
  refine ⟨(Row.new w _ rfl).alloc _, ?_, gb_alloc (gb_alloc (gb_refl _ _) _) _, by simp⟩
  have := Row.new (w.alloc (.cells #[q, x, y, z] 30)) 30 (ca := #[.int .i64 0, .int .i64 0, .slice none 0 0, .int .i64 0]) rfl
  simpa using this
set_option maxHeartbeats 1000000 in
theorem copyEntry_impl (w : World) (u : Value) (x : M.Entry) (hl : x.item.pos.length ≤ 1048576) (hr : RdInts .i64 w 0 w.heap.size u x.item.pos) :
    Calls Try.prog 50 #[.agg #[.int .i64 x.kind, .int .i64 x.item.key, u, .int .i64 x.item.tags]] w (CopiedEn w x) := by
  obtain ⟨A, c, rfl, hc, hrd⟩ := hr
  obtain ⟨q, ⟨k, l, t⟩⟩ := x
  have HR := Lib.hid hrd
  have hl' : l.length ≤ 1048576 := hl
  have HC := Lib.hid hc
  clear hrd hl hc
  show Calls Try.prog 50 #[.agg #[.int .i64 q, .int .i64 k, .slice A l.length c, .int .i64 t]] w _
  go_enter Try.func50, Try.ntmps50
  go_wp2_with fail
  refine wp_name (fun W => Row W w.heap.size 30 [.int .i64 q, .int .i64 k, .slice A l.length c, .int .i64 t] ∧ Row W (w.heap.size + 1) 30 [.int .i64 0, .int .i64 0, .slice none 0 0, .int .i64 0] ∧ w.grownBy W none ∧ W.heap.size = w.heap.size + 2) (ecopy_two w _ _ _ _) ?_
  rintro W ⟨r0, r1, hgW, hsz⟩
  have a00 : W.cell? ⟨w.heap.size, 0, none⟩ = some (.int .i64 q) := r0.cell 0
  have a01 : W.cell? ⟨w.heap.size, 1, none⟩ = some (.int .i64 k) := r0.cell 1
  have a02 : W.cell? ⟨w.heap.size, 2, none⟩ = some (.slice A l.length c) := r0.cell 2
  have a03 : W.cell? ⟨w.heap.size, 3, none⟩ = some (.int .i64 t) := r0.cell 3
  have HR0 := Lib.hid r0
  have HR1 := Lib.hid r1
  have HGW := Lib.hid hgW
  have HSZ := Lib.hid hsz
  clear r0 r1 hgW hsz
  go_region_held3 (fun w' => w'.cell? ⟨w.heap.size, 0, none⟩ = some (.int .i64 q) ∧ w'.cell? ⟨w.heap.size, 1, none⟩ = some (.int .i64 k) ∧ w'.cell? ⟨w.heap.size, 2, none⟩ = some (.slice A l.length c) ∧ w'.cell? ⟨w.heap.size, 3, none⟩ = some (.int .i64 t)) (first | go_keep | exact ⟨by assumption, by assumption, by assumption, by assumption⟩)
    (first | (go_at_call 58; refine (copyItem_impl W.drew (.slice A l.length c) 0 w.heap.size ⟨k, l, t⟩ hl' ⟨A, c, rfl, HC.out, HR.out.agree (fun b _ h => (Agree.of_grown (gb_drew HGW.out)) b (Nat.zero_le _) (by omega))⟩ (by show w.heap.size ≤ W.heap.size; have := HSZ.out; omega)).mono ?_; rintro e w1 ⟨Av, cv, rfl, ho, hg⟩; have q1 := Row.grown (w := W.drew) HR1.out hg (by simp); have q0 := Row.grown (w := W.drew) HR0.out hg (by simp); have b00 : w1.cell? ⟨w.heap.size, 0, none⟩ = some (.int .i64 q) := q0.cell 0; have b01 : w1.cell? ⟨w.heap.size, 1, none⟩ = some (.int .i64 k) := q0.cell 1; have b02 : w1.cell? ⟨w.heap.size, 2, none⟩ = some (.slice A l.length c) := q0.cell 2; have b03 : w1.cell? ⟨w.heap.size, 3, none⟩ = some (.int .i64 t) := q0.cell 3; have a10 : w1.cell? ⟨w.heap.size + 1, 0, none⟩ = some (.int .i64 0) := q1.cell 0; have a11 : w1.cell? ⟨w.heap.size + 1, 1, none⟩ = some (.int .i64 0) := q1.cell 1; have a12 : w1.cell? ⟨w.heap.size + 1, 2, none⟩ = some (.slice none 0 0) := q1.cell 2; have a13 : w1.cell? ⟨w.heap.size + 1, 3, none⟩ = some (.int .i64 0) := q1.cell 3; have f10 : w1.frozen? ⟨w.heap.size + 1, 0, none⟩ = false := q1.frozen 0; have f11 : w1.frozen? ⟨w.heap.size + 1, 1, none⟩ = false := q1.frozen 1; have f12 : w1.frozen? ⟨w.heap.size + 1, 2, none⟩ = false := q1.frozen 2; have f13 : w1.frozen? ⟨w.heap.size + 1, 3, none⟩ = false := q1.frozen 3; have HO := Lib.hid ho; have HG := Lib.hid (gb_trans (gb_drew HGW.out) hg); clear ho hg q1 q0))
  go_wp2_with fail
  refine bodyPost_ret (v := .agg #[.int .i64 q, .int .i64 k, .slice Av l.length cv, .int .i64 t]) (by simp [results, Try.results50, go_sem, a10, a11, a12, a13]) rfl ⟨_, _, rfl, ?_, ?_⟩
  · have hz : W.drew.heap.size = w.heap.size + 2 := HSZ.out
    refine OwnInts.wide (lo := W.drew.heap.size) ?_ (by omega)
    repeat (with_reducible refine OwnInts.set_ (p := ⟨_, _, none⟩) ?_ (by show w.heap.size + 1 < _; omega) _)
    exact HO.out
  · repeat (with_reducible refine gb_setCell (p := ⟨_, _, none⟩) ?_ (.inl (by show _ ≤ w.heap.size + 1; omega)) _)
    exact HG.out
set_option maxHeartbeats 1000000 in
theorem copyEntry_spec (w : World) (u : Value) (x : M.Entry) (hl : x.item.pos.length ≤ 1048576) (hr : RdInts .i64 w 0 w.heap.size u x.item.pos) :
    Calls Try.prog 54 #[.agg #[.int .i64 x.kind, .int .i64 x.item.key, u, .int .i64 x.item.tags]] w (CopiedEn w x) := by
  obtain ⟨A, c, rfl, hc, hrd⟩ := hr
  obtain ⟨q, ⟨k, l, t⟩⟩ := x
  have HR := Lib.hid hrd
  have hl' : l.length ≤ 1048576 := hl
  have HC := Lib.hid hc
  clear hrd hl hc
  show Calls Try.prog 54 #[.agg #[.int .i64 q, .int .i64 k, .slice A l.length c, .int .i64 t]] w _
  go_enter Try.func54, Try.ntmps54
  go_wp2_with fail
  refine wp_name (fun W => Row W w.heap.size 30 [.int .i64 q, .int .i64 k, .slice A l.length c, .int .i64 t] ∧ Row W (w.heap.size + 1) 30 [.int .i64 0, .int .i64 0, .slice none 0 0, .int .i64 0] ∧ w.grownBy W none ∧ W.heap.size = w.heap.size + 2) (ecopy_two w _ _ _ _) ?_
  rintro W ⟨r0, r1, hgW, hsz⟩
  have a00 : W.cell? ⟨w.heap.size, 0, none⟩ = some (.int .i64 q) := r0.cell 0
  have a01 : W.cell? ⟨w.heap.size, 1, none⟩ = some (.int .i64 k) := r0.cell 1
  have a02 : W.cell? ⟨w.heap.size, 2, none⟩ = some (.slice A l.length c) := r0.cell 2
  have a03 : W.cell? ⟨w.heap.size, 3, none⟩ = some (.int .i64 t) := r0.cell 3
  have HR0 := Lib.hid r0
  have HR1 := Lib.hid r1
  have HGW := Lib.hid hgW
  have HSZ := Lib.hid hsz
  clear r0 r1 hgW hsz
  go_region_held3 (fun w' => w'.cell? ⟨w.heap.size, 0, none⟩ = some (.int .i64 q) ∧ w'.cell? ⟨w.heap.size, 1, none⟩ = some (.int .i64 k) ∧ w'.cell? ⟨w.heap.size, 2, none⟩ = some (.slice A l.length c) ∧ w'.cell? ⟨w.heap.size, 3, none⟩ = some (.int .i64 t)) (first | go_keep | exact ⟨by assumption, by assumption, by assumption, by assumption⟩)
    (first | (go_at_call 89; refine (copyItem_spec W.drew (.slice A l.length c) 0 w.heap.size ⟨k, l, t⟩ hl' ⟨A, c, rfl, HC.out, HR.out.agree (fun b _ h => (Agree.of_grown (gb_drew HGW.out)) b (Nat.zero_le _) (by omega))⟩ (by show w.heap.size ≤ W.heap.size; have := HSZ.out; omega)).mono ?_; rintro e w1 ⟨Av, cv, rfl, ho, hg⟩; have q1 := Row.grown (w := W.drew) HR1.out hg (by simp); have q0 := Row.grown (w := W.drew) HR0.out hg (by simp); have b00 : w1.cell? ⟨w.heap.size, 0, none⟩ = some (.int .i64 q) := q0.cell 0; have b01 : w1.cell? ⟨w.heap.size, 1, none⟩ = some (.int .i64 k) := q0.cell 1; have b02 : w1.cell? ⟨w.heap.size, 2, none⟩ = some (.slice A l.length c) := q0.cell 2; have b03 : w1.cell? ⟨w.heap.size, 3, none⟩ = some (.int .i64 t) := q0.cell 3; have a10 : w1.cell? ⟨w.heap.size + 1, 0, none⟩ = some (.int .i64 0) := q1.cell 0; have a11 : w1.cell? ⟨w.heap.size + 1, 1, none⟩ = some (.int .i64 0) := q1.cell 1; have a12 : w1.cell? ⟨w.heap.size + 1, 2, none⟩ = some (.slice none 0 0) := q1.cell 2; have a13 : w1.cell? ⟨w.heap.size + 1, 3, none⟩ = some (.int .i64 0) := q1.cell 3; have f10 : w1.frozen? ⟨w.heap.size + 1, 0, none⟩ = false := q1.frozen 0; have f11 : w1.frozen? ⟨w.heap.size + 1, 1, none⟩ = false := q1.frozen 1; have f12 : w1.frozen? ⟨w.heap.size + 1, 2, none⟩ = false := q1.frozen 2; have f13 : w1.frozen? ⟨w.heap.size + 1, 3, none⟩ = false := q1.frozen 3; have HO := Lib.hid ho; have HG := Lib.hid (gb_trans (gb_drew HGW.out) hg); clear ho hg q1 q0))
  go_wp2_with fail
  refine bodyPost_ret (v := .agg #[.int .i64 q, .int .i64 k, .slice Av l.length cv, .int .i64 t]) (by simp [results, Try.results54, go_sem, a10, a11, a12, a13]) rfl ⟨_, _, rfl, ?_, ?_⟩
  · have hz : W.drew.heap.size = w.heap.size + 2 := HSZ.out
    refine OwnInts.wide (lo := W.drew.heap.size) ?_ (by omega)
    repeat (with_reducible refine OwnInts.set_ (p := ⟨_, _, none⟩) ?_ (by show w.heap.size + 1 < _; omega) _)
    exact HO.out
  · repeat (with_reducible refine gb_setCell (p := ⟨_, _, none⟩) ?_ (.inl (by show _ ≤ w.heap.size + 1; omega)) _)
    exact HG.out
theorem epush_step {wr w1 w2 w4 : World} {B : Nat} {v v' u : Value} {LV : List (M.Entry × Value)} {y : M.Entry} (hO : wr.ownsRow B 30 4 v LV.length (cellsE LV)) (hI : ∀ p ∈ LV, OwnInts .i64 3 wr B p.2 p.1.item.pos)
    (hP : LV.Pairwise (fun p q => p.2.ownBlock = none ∨ p.2.ownBlock ≠ q.2.ownBlock)) (h1 : wr.grownBy w1 none) (hc : OwnInts .i64 3 w1 wr.heap.size u y.item.pos) (hB : B ≤ wr.heap.size) (h12 : w1.grownBy w2 none)
    (T1 : w4.ownsRow B 30 4 v' (LV.length + 1) (cellsE LV ++ [.int .i64 y.kind, .int .i64 y.item.key, u, .int .i64 y.item.tags])) (T2 : w2.grownBy w4 v.ownBlock) : OwnEntries w4 B v' (LV.map (·.1) ++ [y]) := by
  have hv2 : w2.ownsRow B 30 4 v LV.length (cellsE LV) := (hO.kept h1 (own_ge hO (by simp))).kept h12 (own_ge hO (by simp))
  refine OwnEntries.push (p := (y, u)) (by rw [cellsE_one]; exact T1) (fun q hq => ?_) hP ?_ (fun q hq => ?_)
  · have h := ((hI q hq).grown h1 (by simp)).grown h12 (by simp)
    exact h.kept T2 (ent_types h hv2)
  · have h := (hc.grown h12 (by simp)).wide hB
    exact h.kept T2 (ent_types h hv2)
  · cases hb : q.2.ownBlock with
    | none => exact .inl rfl
    | some b =>
      refine .inr fun e => ?_
      have a1 := ((hI q hq).lt b hb).2
      have a2 := (hc.lt b e.symm).1
      omega


theorem any_take {α : Type} {p : α → Bool} {l : List α} {k : Nat} (hk : k < l.length) : (l.take (k + 1)).any p = ((l.take k).any p || p l[k]) := by
  rw [List.take_succ_eq_append_getElem hk, List.any_append]
  simp
end Go.Proofs.Ythoakomccjjhbaa
