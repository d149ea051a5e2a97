/- The walk of the reference's PutItem. -/
import Derived.Test.YtibbpbbgmgdpdaaGreatDoorPutW
import Derived.Deep.RegionWith
namespace Go.Proofs.YtibbpbbgmgdpdaaGreatDoor
open Go.RowKit
set_option linter.unusedVariables false
set_option maxRecDepth 100000

theorem put_mem {L : List M.Item} {x y : M.Item} (h : y ∈ M.put L x) : y ∈ L ∨ y = x := by
  simp only [M.put, List.mem_append, List.mem_filter, List.mem_singleton] at h
  rcases h with (h | h) | h
  · exact .inl h.1
  · exact .inr h
  · exact .inl h.1
theorem put_len (L : List M.Item) (x : M.Item) : (M.put L x).length ≤ 2 * L.length + 1 := by
  have a := List.length_filter_le (fun y : M.Item => decide (y.key < x.key)) L
  have b := List.length_filter_le (fun y : M.Item => decide (x.key < y.key)) L
  simp only [M.put, List.length_append, List.length_singleton]
  omega
/-- What PutItem answers. -/
def PutAns (w : World) (base : Nat) (vs : List Value) (r : Option (List M.Item)) : Prop :=
  match r with
  | none => vs = [.slice none 0 0, .bool false]
  | some L => ∃ v, vs = [v, .bool true] ∧ OwnItems w base v L

set_option maxHeartbeats 600000 in
theorem PutItem_spec (w : World) (A : Option Addr) (c lo hi : Nat) (L : List M.Item) (u : Value) (lo' hi' : Nat) (x : M.Item) (hl : L.length ≤ 1048576) (hp : ∀ x ∈ L, x.pos.length ≤ 1048576) (hxl : x.pos.length ≤ 1048576) (hr : RdI w lo hi A L) (hhi : hi ≤ w.heap.size)
    (hx : RdInts .i64 w lo' hi' u x.pos) (hhi' : hi' ≤ w.heap.size) :
    Calls Tryz.prog 61 #[.slice A L.length c, .agg #[.int .i64 x.key, u, .int .i64 x.tags]] w fun e w' => ∃ vs, e = .returned (.tuple vs.toArray) ∧ PutAns w' w.heap.size vs (M.PutItem L x) ∧ w.grownBy w' none := by
  obtain ⟨Ax, cx, rfl, hcx, hrx⟩ := hx
  have HR := Lib.hid (hr.agree (fun b _ h => Below.heap_alloc w (.cells #[.int .i64 x.key, .slice Ax x.pos.length cx, .int .i64 x.tags] 59) b (by omega)))
  have HP := Lib.hid hp
  have HX := Lib.hid (show RdInts .i64 w lo' hi' (.slice Ax x.pos.length cx) x.pos from ⟨_, _, rfl, hcx, hrx⟩)
  clear hr hp hcx hrx
  cases hv : M.validStore L
  · have HY := Lib.hid (show M.PutItem L x = none by unfold M.PutItem; rw [if_neg (by simp [hv])])
    have HV := Lib.hid hv
    clear hv
    go_enter Tryz.func61, Tryz.ntmps61
    go_wp2_with fail
    refine (validStore_spec _ A c lo hi L hl HP.out HR.out (by simp; omega)).mono ?_
    rintro e w1 ⟨rfl, hg1⟩
    rw [HV.out]
    have HG := Lib.hid (gb_trans (gb_alloc (gb_refl w none) _) hg1)
    clear hg1
    go_wp2_with fail
    go_ret2
    exact ⟨[_, _], rfl, by rw [HY.out]; rfl, HG.out⟩
  · have HV := Lib.hid hv
    clear hv
    have HVS := Lib.hid (M.validStore_of HV.out)
    go_enter Tryz.func61, Tryz.ntmps61
    go_wp2_with fail
    refine (validStore_spec _ A c lo hi L hl HP.out HR.out (by simp; omega)).mono ?_
    rintro e w1 ⟨rfl, hg1⟩
    rw [HV.out]
    have hsz := hg1.size
    have HG := Lib.hid (gb_trans (gb_alloc (gb_refl w none) _) hg1)
    have HB := Lib.hid ((show Row (w.alloc (.cells #[.int .i64 x.key, .slice Ax x.pos.length cx, .int .i64 x.tags] 59)) w.heap.size 59 [.int .i64 x.key, .slice Ax x.pos.length cx, .int .i64 x.tags] from Row.new w _ rfl).grown hg1 (by simp))
    have HR1 := Lib.hid (HR.out.agree (fun b _ h => (Agree.of_grown hg1) b (Nat.zero_le _) (by simp; omega)))
    clear hg1
    have b0 : w1.cell? ⟨w.heap.size, 0, none⟩ = some (.int .i64 x.key) := HB.out.cell 0
    have b1 : w1.cell? ⟨w.heap.size, 1, none⟩ = some (.slice Ax x.pos.length cx) := HB.out.cell 1
    have b2 : w1.cell? ⟨w.heap.size, 2, none⟩ = some (.int .i64 x.tags) := HB.out.cell 2
    have hcall := validItem_spec w1 (.slice Ax x.pos.length cx) lo' hi' x (by omega) (HX.out.agree (fun b _ h2 => (Agree.of_grown HG.out) b (Nat.zero_le _) (by omega))) (by have := HG.out.size; omega)
    cases hv : M.validItem x
    · rw [hv] at hcall
      have HW := Lib.hid hcall
      have HY := Lib.hid (show M.PutItem L x = none by unfold M.PutItem; rw [if_neg (by simp [hv])])
      clear hcall hv
      go_wp2_with fail
      refine HW.out.mono ?_
      rintro e w2 ⟨rfl, hg2⟩
      have HG2 := Lib.hid hg2
      clear hg2
      go_wp2_with fail
      go_ret2
      exact ⟨[_, _], rfl, by rw [HY.out]; rfl, gb_trans HG.out HG2.out⟩
    · rw [hv] at hcall
      have HW := Lib.hid hcall
      have HV2 := Lib.hid hv
      clear hcall hv
      go_wp2_with fail
      refine HW.out.mono ?_
      rintro e w2 ⟨rfl, hg2⟩
      have HG2 := Lib.hid (gb_trans HG.out hg2)
      have HB2 := Lib.hid (HB.out.grown hg2 (by simp))
      have hsz1 := HG.out.size
      have HR2 := Lib.hid (HR1.out.agree (fun b _ h => (Agree.of_grown hg2) b (Nat.zero_le _) (by omega)))
      have hsz2 := HG2.out.size
      clear hg2 b0 b1 b2
      have b0 : w2.cell? ⟨w.heap.size, 0, none⟩ = some (.int .i64 x.key) := HB2.out.cell 0
      have b1 : w2.cell? ⟨w.heap.size, 1, none⟩ = some (.slice Ax x.pos.length cx) := HB2.out.cell 1
      have b2 : w2.cell? ⟨w.heap.size, 2, none⟩ = some (.int .i64 x.tags) := HB2.out.cell 2
      go_wp2_with fail
      refine (put_spec w2 A c lo hi L (.slice Ax x.pos.length cx) lo' hi' x HVS.out.1 HP.out hxl HR2.out (by omega) (HX.out.agree (fun b _ h2 => (Agree.of_grown HG2.out) b (Nat.zero_le _) (by omega))) (by omega)).mono ?_
      rintro e w3 ⟨v, rfl, ho, hg3⟩
      obtain ⟨Av, cv, rfl, hcv, hrv⟩ := ho.rd
      have HO := Lib.hid ho
      have HRV := Lib.hid hrv
      have HG3 := Lib.hid (gb_trans HG2.out hg3)
      have hsz3 := HG3.out.size
      clear ho hrv hg3 hcv b0 b1 b2
      have HPL : Hid (∀ y ∈ M.put L x, y.pos.length ≤ 1048576) := Lib.hid fun y hy => by
        rcases put_mem hy with h | h
        · exact HP.out y h
        · rw [h]; exact hxl
      have hlen : (M.put L x).length ≤ 1048576 := by have := put_len L x; have := HVS.out.1; omega
      go_wp2_with fail
      refine (validStore_spec w3 Av cv _ _ (M.put L x) hlen HPL.out HRV.out (Nat.le_refl _)).mono ?_
      rintro e w4 ⟨rfl, hg4⟩
      have HG4 := Lib.hid (gb_trans HG3.out hg4)
      have HO4 := Lib.hid (HO.out.grown hg4 (by simp))
      clear hg4
      cases hs : M.validStore (M.put L x)
      · have HY := Lib.hid (show M.PutItem L x = none by unfold M.PutItem; rw [if_neg (by simp [hs])])
        clear hs
        go_wp2_with fail
        go_ret2
        exact ⟨[_, _], rfl, by rw [HY.out]; rfl, HG4.out⟩
      · have HY := Lib.hid (show M.PutItem L x = some (M.put L x) by unfold M.PutItem; rw [if_pos ⟨HV.out, HV2.out, hs⟩])
        clear hs
        go_wp2_with fail
        go_ret2
        exact ⟨[_, _], rfl, by rw [HY.out]; exact ⟨_, rfl, HO4.out.wide (by omega)⟩, HG4.out⟩

end Go.Proofs.YtibbpbbgmgdpdaaGreatDoor
