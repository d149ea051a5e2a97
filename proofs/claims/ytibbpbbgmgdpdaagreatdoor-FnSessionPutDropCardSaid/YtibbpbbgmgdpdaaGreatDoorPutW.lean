/- The walk of the reference's put. -/
import Derived.Test.YtibbpbbgmgdpdaaGreatDoorShardIW
import Derived.Test.YtibbpbbgmgdpdaaGreatDoorPure
namespace Go.Proofs.YtibbpbbgmgdpdaaGreatDoor
open Go.RowKit
set_option linter.unusedVariables false
set_option maxRecDepth 100000

set_option maxHeartbeats 1000000 in
theorem put_spec (w : World) (A : Option Addr) (c lo hi : Nat) (L : List M.Item) (u : Value) (lo' hi' : Nat) (x : M.Item) (hl : L.length ≤ 16) (hp : ∀ x ∈ L, x.pos.length ≤ 1048576) (hxl : x.pos.length ≤ 1048576) (hr : RdI w lo hi A L) (hhi : hi ≤ w.heap.size)
    (hx : RdInts .i64 w lo' hi' u x.pos) (hhi' : hi' ≤ w.heap.size) :
    Calls Tryz.prog 82 #[.slice A L.length c, .agg #[.int .i64 x.key, u, .int .i64 x.tags]] w fun e w' => ∃ v, e = .returned v ∧ OwnItems w' w.heap.size v (M.put L x) ∧ w.grownBy w' none := by
  obtain ⟨i0, hi0, hz0, hz1, hz2⟩ := info_parts info_item'
  obtain ⟨Ax, cx, rfl, hcx, hrx⟩ := hx
  obtain ⟨n, hn⟩ : ∃ n, n = L.length := ⟨_, rfl⟩
  rw [← hn] at hl ⊢
  have HL := Lib.hid hn
  have HR := Lib.hid hr
  have HP := Lib.hid hp
  have HX := Lib.hid (show RdInts .i64 w lo' hi' (.slice Ax x.pos.length cx) x.pos from ⟨_, _, rfl, hcx, hrx⟩)
  clear hn hr hp hcx hrx
  go_enter Tryz.func82, Tryz.ntmps82
  go_wp2_with fail
  go_loopw [5, 6] (fun v i wr => ∃ k : Nat, k ≤ n ∧ i = .int .i64 k ∧ OwnItems wr (w.heap.size + 1) v ((L.take k).filter (fun y => decide (y.key < x.key))) ∧ Row wr w.heap.size 59 [.int .i64 x.key, .slice Ax x.pos.length cx, .int .i64 x.tags] ∧ w.grownBy wr none) (fun _ i _ => n - (intOf i).toNat)
  case atStart =>
    refine ⟨0, Nat.zero_le _, rfl, ⟨[], rfl, ?_, by simp, List.Pairwise.nil⟩, (Row.new w _ rfl).alloc _, gb_alloc (gb_alloc (gb_refl _ _) _) _⟩
    have := World.ownsRow_made (base := w.heap.size + 1) (e := 59) (size := 3) (w.alloc (.cells #[.int .i64 x.key, .slice Ax x.pos.length cx, .int .i64 x.tags] 59)) #[] 0 (by simp) (by decide) rfl
    simpa [cellsI] using this
  case round =>
    obtain ⟨k, hk, rfl, hown, hbox, hg⟩ := hrel
    have HGR := Lib.hid hg
    have HB := Lib.hid hbox
    obtain ⟨LV, hLV, hO, hI, hP⟩ := hown
    have H1 := Lib.hid hLV
    have H2 := Lib.hid hO
    have H3 := Lib.hid hI
    have H4 := Lib.hid hP
    have hlv : LV.length ≤ 16 := by
      have a2 := List.length_filter_le (fun y : M.Item => decide (y.key < x.key)) (L.take k)
      have a3 : (L.take k).length ≤ k := List.length_take_le _ _
      rw [← hLV, List.length_map] at a2
      omega
    have b0 : wr.cell? ⟨w.heap.size, 0, none⟩ = some (.int .i64 x.key) := hbox.cell 0
    clear hLV hO hI hP hg hbox
    by_cases hlt : k < n
    · have hkl : k < L.length := by rw [← HL.out]; exact hlt
      obtain ⟨b, o, rfl, hb1, hb2, hJ⟩ := HR.out.at_ (List.getElem?_eq_getElem hkl)
      obtain ⟨u, c0, c1, c2, hu⟩ := hJ.agree hb1 hb2 (fun b _ h => (Agree.of_grown HGR.out) b (Nat.zero_le _) (by omega))
      obtain ⟨Au, cu, rfl, hcu, hru⟩ := hu
      have HK := Lib.hid (M.filter_take (p := fun y => decide (y.key < x.key)) hkl)
      have hpl : L[k].pos.length ≤ 1048576 := HP.out _ (List.getElem_mem hkl)
      have HU := Lib.hid (show RdInts .i64 wr lo hi (.slice Au L[k].pos.length cu) L[k].pos from ⟨_, _, rfl, hcu, hru⟩)
      have hsz : hi ≤ wr.heap.size := by have := HGR.out.size; omega
      have kn : (k : Int) < n := by omega
      have k0 : (0 : Int) ≤ k := by omega
      clear hJ hcu hru
      generalize L[k] = y at *
      by_cases hq : y.key < x.key
      · have tq : decide (y.key < x.key) = true := decide_eq_true hq
        go_wp2_with fail
        go_quiet (fail)
        go_wp2_with fail
        refine (copyItem_spec _ _ lo hi y hpl (show RdInts .i64 (wr.drewN nq) lo hi _ y.pos from HU.out.agree (fun _ _ _ => rfl)) hsz).mono ?_
        rintro e w1 ⟨Ac, cc, rfl, hc, hg1⟩
        have HK2 : Hid ((L.take (k + 1)).filter (fun y => decide (y.key < x.key)) = LV.map (·.1) ++ [y]) := Lib.hid (HK.out.trans (by rw [if_pos (decide_eq_true hq), H1.out]))
        have HG1 := Lib.hid (gb_trans (gb_drewN (gb_refl wr none) nq) hg1)
        have HC := Lib.hid (show OwnInts .i64 3 w1 wr.heap.size (.slice Ac y.pos.length cc) y.pos from hc)
        have H2b := Lib.hid (H2.out.kept HG1.out (own_ge H2.out (by simp)))
        have HB2 := Lib.hid (HB.out.grown HG1.out (by simp))
        clear hc hg1 hq b0
        go_wp2_with (at_builtin; refine wpList_append_own _ rfl (.tmp 23) (.tmp 29) 41 rfl (w.heap.size + 1) 59 i0 _ 3 40 Tryz.underlying41 hi0 hz0 hz1 hz2 rfl (by decide) u5 LV.length (cellsI LV) rfl (H2b.out.alloc _) ⟨w1.heap.size, 0, none⟩ 1 1 [.int .i64 y.key, .slice Ac y.pos.length cc, .int .i64 y.tags] rfl rfl (three_cell_at rfl) item_oneCell (by unfold maxLen; omega) (by omega) (by have := HB2.out.lt; simp; omega) ?_; intro v' w4 hown' hgrow _; have T1 := Lib.hid hown'; have T2 := Lib.hid hgrow; clear hown' hgrow)
        go_roundw
        case rel =>
          have hlt1 : w.heap.size + 1 ≤ wr.heap.size := by have := HB.out.lt; omega
          refine ⟨k + 1, by omega, by go_num, ?_, ?_, ?_⟩
          · rw [HK2.out]
            exact push_step H2.out H3.out H4.out HG1.out HC.out hlt1 (World.grownBy_alloc _ _ _) T1.out T2.out
          · exact (HB2.out.alloc _).grown T2.out (fun e => by have := (H2.out.lt _ e.symm).1; omega)
          · exact gb_new (gb_alloc (gb_trans HGR.out HG1.out) _) T2.out (fun g hg => .inl (by have := (H2.out.lt g hg).1; omega))
        case measure => simp [intOf]; omega
      · have tq : decide (y.key < x.key) = false := decide_eq_false hq
        have HK2 : Hid ((L.take (k + 1)).filter (fun y => decide (y.key < x.key)) = (L.take k).filter (fun y => decide (y.key < x.key))) := Lib.hid (HK.out.trans (by rw [if_neg (by simp [hq]), List.append_nil]))
        go_wp2_with fail
        go_quiet (fail)
        go_wp2_with fail
        go_roundw
        case rel => exact ⟨k + 1, by omega, by go_num, by rw [HK2.out]; exact ⟨LV, H1.out, H2.out, H3.out, H4.out⟩, HB.out, gb_drewN HGR.out _⟩
        case measure => simp [intOf]; omega
    · obtain rfl : k = n := by omega
      have b1 : wr.cell? ⟨w.heap.size, 1, none⟩ = some (.slice Ax x.pos.length cx) := HB.out.cell 1
      have b2 : wr.cell? ⟨w.heap.size, 2, none⟩ = some (.int .i64 x.tags) := HB.out.cell 2
      have HF : Hid (L.filter (fun y => decide (y.key < x.key)) = LV.map (·.1)) := Lib.hid (by rw [H1.out, HL.out, List.take_of_length_le (Nat.le_refl _)])
      have hszw := HGR.out.size
      go_wp2_with fail
      refine (copyItem_spec wr _ lo' hi' x hxl (HX.out.agree (fun b _ h => (Agree.of_grown HGR.out) b (Nat.zero_le _) (by omega))) (by omega)).mono ?_
      rintro e w1 ⟨Ac, cc, rfl, hc, hg1⟩
      have HG1 := Lib.hid hg1
      have HC := Lib.hid hc
      have H2b := Lib.hid (H2.out.kept HG1.out (own_ge H2.out (by simp)))
      have HB2 := Lib.hid (HB.out.grown HG1.out (by simp))
      clear hc hg1 b0 b1 b2
      go_wp2_with (at_builtin; refine wpList_append_own _ rfl (.tmp 31) (.tmp 34) 41 rfl (w.heap.size + 1) 59 i0 _ 3 40 Tryz.underlying41 hi0 hz0 hz1 hz2 rfl (by decide) u5 LV.length (cellsI LV) rfl (H2b.out.alloc _) ⟨w1.heap.size, 0, none⟩ 1 1 [.int .i64 x.key, .slice Ac x.pos.length cc, .int .i64 x.tags] rfl rfl (three_cell_at rfl) item_oneCell (by unfold maxLen; omega) (by omega) (by have := HB2.out.lt; simp; omega) ?_; intro v' w4 hown' hgrow _; have T1 := Lib.hid hown'; have T2 := Lib.hid hgrow; clear hown' hgrow)
      have hlt1 : w.heap.size + 1 ≤ wr.heap.size := by have := HB.out.lt; omega
      have Z1 := Lib.hid (push_step H2.out H3.out H4.out HG1.out HC.out hlt1 (World.grownBy_alloc _ _ _) T1.out T2.out)
      rw [← HF.out] at Z1
      have Z2 := Lib.hid ((HB2.out.alloc (.cells #[.int .i64 x.key, .slice Ac x.pos.length cc, .int .i64 x.tags] 59)).grown T2.out (fun e => by have := (H2.out.lt _ e.symm).1; omega))
      have Z3 := Lib.hid (gb_new (gb_alloc (gb_trans HGR.out HG1.out) _) T2.out (fun g hg => .inl (by have := (H2.out.lt g hg).1; omega)))
      clear H1 H2 H3 H4 H2b HB HB2 HC HG1 T1 T2 HF HGR hlv hszw hlt1 hlt
      go_loopw [5, 7] (fun v i wr => ∃ j : Nat, j ≤ k ∧ i = .int .i64 j ∧ OwnItems wr (w.heap.size + 1) v (L.filter (fun y => decide (y.key < x.key)) ++ [x] ++ (L.take j).filter (fun y => decide (x.key < y.key))) ∧ Row wr w.heap.size 59 [.int .i64 x.key, .slice Ax x.pos.length cx, .int .i64 x.tags] ∧ w.grownBy wr none) (fun _ i _ => k - (intOf i).toNat)
      case atStart => exact ⟨0, Nat.zero_le _, rfl, by simpa using Z1.out, Z2.out, Z3.out⟩
      case round =>
        obtain ⟨j, hj, rfl, hown, hbox, hg⟩ := hrel
        have HGR := Lib.hid hg
        have HB := Lib.hid hbox
        obtain ⟨LV, hLV, hO, hI, hP⟩ := hown
        have H1 := Lib.hid hLV
        have H2 := Lib.hid hO
        have H3 := Lib.hid hI
        have H4 := Lib.hid hP
        have hlv : LV.length ≤ 40 := by
          have a1 : L.length = k := HL.out.symm
          have a2 := List.length_filter_le (fun y : M.Item => decide (y.key < x.key)) L
          have a4 := List.length_filter_le (fun y : M.Item => decide (x.key < y.key)) (L.take j)
          have a3 : (L.take j).length ≤ j := List.length_take_le _ _
          have a5 := congrArg List.length hLV
          simp only [List.length_map, List.length_append, List.length_cons, List.length_nil] at a5
          omega
        have b0 : wr.cell? ⟨w.heap.size, 0, none⟩ = some (.int .i64 x.key) := hbox.cell 0
        clear hLV hO hI hP hg hbox
        by_cases hlt : j < k
        · have hkl : j < L.length := by rw [← HL.out]; exact hlt
          obtain ⟨b, o, rfl, hb1, hb2, hJ⟩ := HR.out.at_ (List.getElem?_eq_getElem hkl)
          obtain ⟨u, c0, c1, c2, hu⟩ := hJ.agree hb1 hb2 (fun b _ h => (Agree.of_grown HGR.out) b (Nat.zero_le _) (by omega))
          obtain ⟨Au, cu, rfl, hcu, hru⟩ := hu
          have HK := Lib.hid (M.filter_take (p := fun y => decide (x.key < y.key)) hkl)
          have hpl : L[j].pos.length ≤ 1048576 := HP.out _ (List.getElem_mem hkl)
          have HU := Lib.hid (show RdInts .i64 wr lo hi (.slice Au L[j].pos.length cu) L[j].pos from ⟨_, _, rfl, hcu, hru⟩)
          have hsz : hi ≤ wr.heap.size := by have := HGR.out.size; omega
          have kn : (j : Int) < k := by omega
          have k0 : (0 : Int) ≤ j := by omega
          clear hJ hcu hru
          generalize L[j] = y at *
          by_cases hq : x.key < y.key
          · have tq : decide (x.key < y.key) = true := decide_eq_true hq
            go_wp2_with fail
            go_quiet (fail)
            go_wp2_with fail
            refine (copyItem_spec _ _ lo hi y hpl (show RdInts .i64 (wr.drewN nq) lo hi _ y.pos from HU.out.agree (fun _ _ _ => rfl)) hsz).mono ?_
            rintro e w1 ⟨Ac, cc, rfl, hc, hg1⟩
            have HK2 : Hid (L.filter (fun y => decide (y.key < x.key)) ++ [x] ++ (L.take (j + 1)).filter (fun y => decide (x.key < y.key)) = LV.map (·.1) ++ [y]) := Lib.hid (by rw [HK.out, if_pos (decide_eq_true hq), ← List.append_assoc, H1.out])
            have HG1 := Lib.hid (gb_trans (gb_drewN (gb_refl wr none) nq) hg1)
            have HC := Lib.hid (show OwnInts .i64 3 w1 wr.heap.size (.slice Ac y.pos.length cc) y.pos from hc)
            have H2b := Lib.hid (H2.out.kept HG1.out (own_ge H2.out (by simp)))
            have HB2 := Lib.hid (HB.out.grown HG1.out (by simp))
            clear hc hg1 hq b0
            go_wp2_with (at_builtin; refine wpList_append_own _ rfl (.tmp 50) (.tmp 56) 41 rfl (w.heap.size + 1) 59 i0 _ 3 40 Tryz.underlying41 hi0 hz0 hz1 hz2 rfl (by decide) u5 LV.length (cellsI LV) rfl (H2b.out.alloc _) ⟨w1.heap.size, 0, none⟩ 1 1 [.int .i64 y.key, .slice Ac y.pos.length cc, .int .i64 y.tags] rfl rfl (three_cell_at rfl) item_oneCell (by unfold maxLen; omega) (by omega) (by have := HB2.out.lt; simp; omega) ?_; intro v' w4 hown' hgrow _; have T1 := Lib.hid hown'; have T2 := Lib.hid hgrow; clear hown' hgrow)
            go_roundw
            case rel =>
              have hlt1 : w.heap.size + 1 ≤ wr.heap.size := by have := HB.out.lt; omega
              refine ⟨j + 1, by omega, by go_num, ?_, ?_, ?_⟩
              · rw [HK2.out]
                exact push_step H2.out H3.out H4.out HG1.out HC.out hlt1 (World.grownBy_alloc _ _ _) T1.out T2.out
              · exact (HB2.out.alloc _).grown T2.out (fun e => by have := (H2.out.lt _ e.symm).1; omega)
              · exact gb_new (gb_alloc (gb_trans HGR.out HG1.out) _) T2.out (fun g hg => .inl (by have := (H2.out.lt g hg).1; omega))
            case measure => simp [intOf]; omega
          · have tq : decide (x.key < y.key) = false := decide_eq_false hq
            have HK2 : Hid (L.filter (fun y => decide (y.key < x.key)) ++ [x] ++ (L.take (j + 1)).filter (fun y => decide (x.key < y.key)) = L.filter (fun y => decide (y.key < x.key)) ++ [x] ++ (L.take j).filter (fun y => decide (x.key < y.key))) := Lib.hid (by rw [HK.out, if_neg (by simp [hq]), List.append_nil])
            go_wp2_with fail
            go_quiet (fail)
            go_wp2_with fail
            go_roundw
            case rel => exact ⟨j + 1, by omega, by go_num, by rw [HK2.out]; exact ⟨LV, H1.out, H2.out, H3.out, H4.out⟩, HB.out, gb_drewN HGR.out _⟩
            case measure => simp [intOf]; omega
        · obtain rfl : j = k := by omega
          have HZ : Hid (L.filter (fun y => decide (y.key < x.key)) ++ [x] ++ (L.take j).filter (fun y => decide (x.key < y.key)) = M.put L x) := Lib.hid (by rw [HL.out, List.take_of_length_le (Nat.le_refl _)]; rfl)
          rw [HZ.out] at H1
          go_wp2_with fail
          go_ret
          exact ⟨_, rfl, OwnItems.wide (lo := w.heap.size + 1) ⟨LV, H1.out, H2.out, H3.out, H4.out⟩ (by omega), HGR.out⟩

end Go.Proofs.YtibbpbbgmgdpdaaGreatDoor
