/- The walks of putting and dropping items, and of entries done one by one. -/
import Derived.Test.YtibbpbbgmgdpdaaGreatDoorPutIW
import Derived.Test.YtibbpbbgmgdpdaaGreatDoorIdxW
import Derived.Test.YtibbpbbgmgdpdaaGreatDoorLogW
import Derived.Test.YtibbpbbgmgdpdaaGreatDoorPure
namespace Go.Proofs.YtibbpbbgmgdpdaaGreatDoor
open Go.RowKit
set_option linter.unusedVariables false
set_option maxRecDepth 100000

def PutDone (w : World) (r : Option (List M.Item)) (e : Ending) (w' : World) : Prop := ∃ vs, e = .returned (.tuple vs.toArray) ∧ PutAns w' w.heap.size vs r ∧ w.grownBy w' none
theorem putDone_none {w w' : World} (h : w.grownBy w' none) : PutDone w none (.returned (.tuple #[.slice none 0 0, .bool false])) w' := ⟨[_, _], rfl, rfl, h⟩
theorem putDone_some {w w' : World} {v : Value} {L : List M.Item} (ho : OwnItems w' w.heap.size v L) (h : w.grownBy w' none) : PutDone w (some L) (.returned (.tuple #[v, .bool true])) w' := ⟨[_, _], rfl, ⟨_, rfl, ho⟩, h⟩
set_option maxHeartbeats 2000000 in
theorem PutItem_impl {w : World} {A : Option Addr} {c : Nat} {L : List M.Item} {u : Value} {x : M.Item} (D : SeesI w A L) (hx : RdInts .i64 w 0 w.heap.size u x.pos) (hxl : x.pos.length ≤ 1048576) :
    Calls Tryz.prog 30 #[.slice A L.length c, .agg #[.int .i64 x.key, u, .int .i64 x.tags]] w (PutDone w (M.PutItem L x)) := by
  obtain ⟨i0, hi0, hz0, hz1, hz2⟩ := info_parts info_item'
  obtain ⟨Ax, cx, rfl, hcx, hrx⟩ := hx
  have HX := Lib.hid (show RdInts .i64 w 0 w.heap.size (.slice Ax x.pos.length cx) x.pos from ⟨_, _, rfl, hcx, hrx⟩)
  have HD := Lib.hid D
  have HV := Lib.hid (vs_impl (c := c) (D.on (World.grownBy_alloc w (.cells #[.int .i64 x.key, .slice Ax x.pos.length cx, .int .i64 x.tags] 59) none)))
  clear D hcx hrx
  cases hv : M.validStore L
  · have HY : Hid (M.PutItem L x = none) := Lib.hid (by unfold M.PutItem; rw [if_neg (by simp [hv])])
    rw [HY.out]
    rw [hv] at HV
    clear hv
    generalize L.length = n at *
    go_enter Tryz.func30, Tryz.ntmps30
    go_wp2_with fail
    refine HV.out.mono ?_
    rintro e w1 ⟨rfl, hg⟩
    have G := Lib.hid (gb_trans (gb_alloc (gb_refl w none) _) hg)
    clear hg
    go_wp2_with fail
    go_ret2
    exact putDone_none G.out
  · have HI : Hid (∀ W, w.grownBy W none → Calls Tryz.prog 52 #[.agg #[.int .i64 x.key, .slice Ax x.pos.length cx, .int .i64 x.tags]] W fun e w' => e = .returned (.bool (M.validItem x)) ∧ W.grownBy w' none) := Lib.hid fun W hW =>
      isItem_impl W _ 0 W.heap.size x (by omega) ((HX.out.keep hW (Nat.le_refl _)).wide (Nat.le_refl _) hW.size) (Nat.le_refl _)
    rw [hv] at HV
    have hl16 := (M.validStore_of hv).1
    cases hvx : M.validItem x
    · have HY : Hid (M.PutItem L x = none) := Lib.hid (by unfold M.PutItem; rw [if_neg (by simp [hvx])])
      rw [HY.out]
      rw [hvx] at HI
      clear hv hvx
      generalize L.length = n at *
      go_enter Tryz.func30, Tryz.ntmps30
      go_wp2_with fail
      have B0 := Lib.hid (Row.new w 59 (ca := #[.int .i64 x.key, .slice Ax x.pos.length cx, .int .i64 x.tags]) rfl)
      refine HV.out.mono ?_
      rintro e w1 ⟨rfl, hg⟩
      have G := Lib.hid (gb_trans (gb_alloc (gb_refl w none) _) hg)
      have B1 := Lib.hid (B0.out.grown hg (by simp))
      clear hg
      have b0 := B1.out.cell 0
      have b1 := B1.out.cell 1
      have b2 := B1.out.cell 2
      have bf0 := B1.out.frozen 0
      have bf1 := B1.out.frozen 1
      have bf2 := B1.out.frozen 2
      simp only [List.getElem?_cons_zero, List.getElem?_cons_succ] at b0 b1 b2
      go_wp2_with fail
      refine (HI.out _ G.out).mono ?_
      rintro e w2 ⟨rfl, hg⟩
      replace G := Lib.hid (gb_trans G.out hg)
      clear hg
      go_wp2_with fail
      go_ret2
      exact putDone_none G.out
    · have HY : Hid (M.PutItem L x = if (M.put L x).length ≤ 16 then some (M.put L x) else none) := Lib.hid (by
        unfold M.PutItem
        rw [M.put_valid hv hvx]
        simp [hv, hvx])
      rw [hvx] at HI
      clear hv hvx
      obtain ⟨n, hn⟩ : ∃ n, n = L.length := ⟨_, rfl⟩
      rw [← hn] at HV hl16 ⊢
      have HL := Lib.hid hn
      clear hn
      go_enter Tryz.func30, Tryz.ntmps30
      go_wp2_with fail
      have B0 := Lib.hid (Row.new w 59 (ca := #[.int .i64 x.key, .slice Ax x.pos.length cx, .int .i64 x.tags]) rfl)
      refine HV.out.mono ?_
      rintro e w1 ⟨rfl, hg⟩
      have G := Lib.hid (gb_trans (gb_alloc (gb_refl w none) _) hg)
      have B1 := Lib.hid (B0.out.grown hg (by simp))
      clear hg
      have b0 := B1.out.cell 0
      have b1 := B1.out.cell 1
      have b2 := B1.out.cell 2
      have bf0 := B1.out.frozen 0
      have bf1 := B1.out.frozen 1
      have bf2 := B1.out.frozen 2
      simp only [List.getElem?_cons_zero, List.getElem?_cons_succ] at b0 b1 b2
      go_wp2_with fail
      refine (HI.out _ G.out).mono ?_
      rintro e w0 ⟨rfl, hg⟩
      have B2 := Lib.hid (B1.out.grown hg (by simp))
      have GW := Lib.hid (gb_trans G.out hg)
      have DW := Lib.hid (HD.out.on GW.out)
      have HW0 := Lib.hid B2.out.lt
      clear hg G B0 B1 b0 b1 b2 bf0 bf1 bf2 HV HI
      go_wp2_with fail
      go_loopw [6, 22] (fun v i wr => ∃ k : Nat, k ≤ n ∧ i = .int .i64 k ∧ OwnItems wr w0.heap.size v ([] ++ (L.take k).filter (fun y : M.Item => decide (y.key < x.key))) ∧ Row wr w.heap.size 59 [.int .i64 x.key, .slice Ax x.pos.length cx, .int .i64 x.tags] ∧ w0.grownBy wr none) (fun _ i _ => n - (intOf i).toNat)
      case atStart =>
        refine ⟨0, Nat.zero_le _, rfl, ⟨[], rfl, ?_, by simp, List.Pairwise.nil⟩, B2.out.alloc _, gb_alloc (gb_refl _ _) _⟩
        have := World.ownsRow_made (base := w0.heap.size) (e := 59) (size := 3) w0 #[] 0 (Nat.le_refl _) (by decide) rfl
        simpa [cellsI] using this
      case round =>
        obtain ⟨k, hk, rfl, hown, hbox, hg⟩ := hrel
        have G := Lib.hid hg
        have HB := Lib.hid hbox
        have O := Lib.hid hown
        have hszw := hg.size
        have b0 : wr.cell? ⟨w.heap.size, 0, none⟩ = some (.int .i64 x.key) := hbox.cell 0
        clear hown hg hbox
        by_cases hlt : k < n
        · have hkl : k < L.length := by rw [← HL.out]; exact hlt
          obtain ⟨b, o, rfl, hb1, hb2, hJ⟩ := DW.out.1.at_ (List.getElem?_eq_getElem hkl)
          obtain ⟨u, c0, c1, c2, hu⟩ := hJ.agree hb1 hb2 (Agree.of_grown G.out)
          obtain ⟨Au, cu, rfl, hcu, hru⟩ := hu
          have HU := Lib.hid ((show RdInts .i64 wr 0 w0.heap.size (.slice Au L[k].pos.length cu) L[k].pos from ⟨_, _, rfl, hcu, hru⟩).wide (Nat.le_refl _) hszw)
          have hpl : L[k].pos.length ≤ 1048576 := DW.out.2.2 _ (List.getElem_mem hkl)
          have kn : (k : Int) < n := by omega
          have k0 : (0 : Int) ≤ k := by omega
          clear hJ hcu hru
          have HK := Lib.hid (M.filter_take (p := fun y : M.Item => decide (y.key < x.key)) hkl)
          have HLEN : Hid (([] ++ (L.take k).filter (fun y : M.Item => decide (y.key < x.key))).length ≤ 40) := Lib.hid (by
            have a1 := List.length_filter_le (fun y : M.Item => decide (y.key < x.key)) (L.take k)
            have a2 := List.length_filter_le (fun y : M.Item => decide (y.key < x.key)) L
            have a3 : (L.take k).length ≤ k := List.length_take_le _ _
            have a4 := HL.out
            simp only [List.length_append]
            try simp only [List.length_cons]
            simp only [List.length_nil]
            omega)
          generalize L[k] = y at *
          by_cases hq : y.key < x.key
          · have tq : decide (y.key < x.key) = true := decide_eq_true hq
            have HK2 : Hid ([] ++ (L.take (k + 1)).filter (fun y : M.Item => decide (y.key < x.key)) = [] ++ (L.take k).filter (fun y : M.Item => decide (y.key < x.key)) ++ [y]) := Lib.hid (by rw [HK.out, if_pos (decide_eq_true hq)]; simp only [List.append_assoc])
            clear hq
            have b1 : (wr.alloc (.cells #[.int .i64 y.key, .slice Au y.pos.length cu, .int .i64 y.tags] 59)).cell? ⟨w.heap.size, 0, none⟩ = some (.int .i64 x.key) := (HB.out.alloc _).cell 0
            have G1 := Lib.hid (World.grownBy_alloc wr (.cells #[.int .i64 y.key, .slice Au y.pos.length cu, .int .i64 y.tags] 59) none)
            clear b0
            go_wp2_with fail
            clear b1
            refine (copyItem_impl _ _ 0 _ y hpl ((HU.out.keep G1.out (Nat.le_refl _)).wide (Nat.le_refl _) G1.out.size) (Nat.le_refl _)).mono ?_
            rintro e w3 ⟨Ac, cc, rfl, hc, hg⟩
            have G3 := Lib.hid (gb_trans G1.out hg)
            have HC := Lib.hid (hc.wide (show wr.heap.size ≤ _ from G1.out.size))
            clear hc hg
            obtain ⟨LV, hLV, hO, hI, hP⟩ := O.out
            have hlv : LV.length ≤ 40 := by
              have a5 := congrArg List.length hLV
              rw [List.length_map] at a5
              have := HLEN.out
              omega
            have H1 := Lib.hid hLV
            have H2 := Lib.hid hO
            have H3 := Lib.hid hI
            have H4 := Lib.hid hP
            have H2b := Lib.hid (H2.out.kept G3.out (own_ge H2.out (by simp)))
            have hs3 := G3.out.size
            clear hLV hO hI hP
            go_wp2_with (at_builtin; refine wpList_append_own _ rfl (.tmp 31) (.tmp 34) 41 rfl w0.heap.size 59 i0 _ 3 40 Tryz.underlying41 hi0 hz0 hz1 hz2 rfl (by decide) u6 LV.length (cellsI LV) rfl (H2b.out.alloc _) ⟨w3.heap.size, 0, none⟩ 1 1 [.int .i64 y.key, .slice Ac y.pos.length cc, .int .i64 y.tags] rfl rfl (three_cell_at rfl) item_oneCell (by unfold maxLen; omega) (by omega) (by simp; omega) ?_; intro v' w4 hown' hgrow _; have T1 := Lib.hid hown'; have T2 := Lib.hid hgrow; clear hown' hgrow)
            go_roundw
            case rel =>
              refine ⟨k + 1, by omega, by go_num, ?_, ?_, ?_⟩
              · rw [HK2.out, ← H1.out]
                exact push_step H2.out H3.out H4.out G3.out HC.out hszw (World.grownBy_alloc _ _ _) T1.out T2.out
              · exact ((HB.out.grown G3.out (by simp)).alloc _).grown T2.out (fun e => by have := (H2.out.lt _ e.symm).1; have := HW0.out; omega)
              · exact gb_new (gb_alloc (gb_trans G.out G3.out) _) T2.out (fun g hg => .inl (H2.out.lt g hg).1)
            case measure => simp [intOf]; omega
          · have tq : decide (y.key < x.key) = false := decide_eq_false hq
            have HK2 : Hid ([] ++ (L.take (k + 1)).filter (fun y : M.Item => decide (y.key < x.key)) = [] ++ (L.take k).filter (fun y : M.Item => decide (y.key < x.key))) := Lib.hid (by rw [HK.out, if_neg (by simp [hq]), List.append_nil])
            clear hq
            have b1 : (wr.alloc (.cells #[.int .i64 y.key, .slice Au y.pos.length cu, .int .i64 y.tags] 59)).cell? ⟨w.heap.size, 0, none⟩ = some (.int .i64 x.key) := (HB.out.alloc _).cell 0
            have G1 := Lib.hid (World.grownBy_alloc wr (.cells #[.int .i64 y.key, .slice Au y.pos.length cu, .int .i64 y.tags] 59) none)
            clear b0
            go_wp2_with fail
            go_roundw
            case rel => exact ⟨k + 1, by omega, by go_num, by rw [HK2.out]; exact (O.out.grown G1.out (by simp)), HB.out.grown G1.out (by simp), gb_trans G.out G1.out⟩
            case measure => simp [intOf]; omega
        · obtain rfl : k = n := by omega
          have q0 := HB.out.cell 0
          have q1 := HB.out.cell 1
          have q2 := HB.out.cell 2
          have qf0 := HB.out.frozen 0
          have qf1 := HB.out.frozen 1
          have qf2 := HB.out.frozen 2
          simp only [List.getElem?_cons_zero, List.getElem?_cons_succ] at q0 q1 q2
          have HF : Hid (L.filter (fun y : M.Item => decide (y.key < x.key)) = [] ++ (L.take k).filter (fun y : M.Item => decide (y.key < x.key))) := Lib.hid (by rw [HL.out, List.take_of_length_le (Nat.le_refl _)]; rfl)
          have HLEN : Hid (([] ++ (L.take k).filter (fun y : M.Item => decide (y.key < x.key))).length ≤ 40) := Lib.hid (by
            rw [← HF.out]
            have a2 := List.length_filter_le (fun y : M.Item => decide (y.key < x.key)) L
            have a4 := HL.out
            omega)
          go_wp2_with fail
          refine (copyItem_impl wr _ 0 wr.heap.size x hxl ((HX.out.keep (gb_trans GW.out G.out) (Nat.le_refl _)).wide (Nat.le_refl _) (gb_trans GW.out G.out).size) (Nat.le_refl _)).mono ?_
          rintro e w3 ⟨Ac, cc, rfl, hc, hg⟩
          have G3 := Lib.hid hg
          have HC := Lib.hid hc
          clear hc hg
          obtain ⟨LV, hLV, hO, hI, hP⟩ := O.out
          have hlv : LV.length ≤ 40 := by
            have a5 := congrArg List.length hLV
            rw [List.length_map] at a5
            have := HLEN.out
            omega
          have H1 := Lib.hid hLV
          have H2 := Lib.hid hO
          have H3 := Lib.hid hI
          have H4 := Lib.hid hP
          have H2b := Lib.hid (H2.out.kept G3.out (own_ge H2.out (by simp)))
          have hs3 := G3.out.size
          clear hLV hO hI hP
          go_wp2_with (at_builtin; refine wpList_append_own _ rfl (.tmp 37) (.tmp 40) 41 rfl w0.heap.size 59 i0 _ 3 40 Tryz.underlying41 hi0 hz0 hz1 hz2 rfl (by decide) u6 LV.length (cellsI LV) rfl (H2b.out.alloc _) ⟨w3.heap.size, 0, none⟩ 1 1 [.int .i64 x.key, .slice Ac x.pos.length cc, .int .i64 x.tags] rfl rfl (three_cell_at rfl) item_oneCell (by unfold maxLen; omega) (by omega) (by simp; omega) ?_; intro v' w4 hown' hgrow _; have T1 := Lib.hid hown'; have T2 := Lib.hid hgrow; clear hown' hgrow)
          have Z1 := Lib.hid (push_step H2.out H3.out H4.out G3.out HC.out hszw (World.grownBy_alloc _ _ _) T1.out T2.out)
          rw [H1.out, ← HF.out] at Z1
          have Z2 := Lib.hid (((HB.out.grown G3.out (by simp)).alloc (.cells #[.int .i64 x.key, .slice Ac x.pos.length cc, .int .i64 x.tags] 59)).grown T2.out (fun e => by have := (H2.out.lt _ e.symm).1; have := HW0.out; omega))
          have Z3 := Lib.hid (gb_new (gb_alloc (gb_trans G.out G3.out) (.cells #[.int .i64 x.key, .slice Ac x.pos.length cc, .int .i64 x.tags] 59)) T2.out (fun g hg => .inl (H2.out.lt g hg).1))
          clear H1 H2 H3 H4 H2b HB HC G3 T1 T2 HF HLEN O G q0 q1 q2 qf0 qf1 qf2 b0
          go_loopw [6, 44] (fun v i wr => ∃ j : Nat, j ≤ k ∧ i = .int .i64 j ∧ OwnItems wr w0.heap.size v (L.filter (fun y : M.Item => decide (y.key < x.key)) ++ [x] ++ (L.take j).filter (fun y : M.Item => decide (x.key < y.key))) ∧ Row wr w.heap.size 59 [.int .i64 x.key, .slice Ax x.pos.length cx, .int .i64 x.tags] ∧ w0.grownBy wr none) (fun _ i _ => k - (intOf i).toNat)
          case atStart => exact ⟨0, Nat.zero_le _, rfl, by simpa using Z1.out, Z2.out, Z3.out⟩
          case round =>
            clear Z1 Z2 Z3 hszw hlv hs3 hlt
            obtain ⟨n, hn⟩ : ∃ n, n = k := ⟨_, rfl⟩
            subst hn
            obtain ⟨k, hk, rfl, hown, hbox, hg⟩ := hrel
            have G := Lib.hid hg
            have HB := Lib.hid hbox
            have O := Lib.hid hown
            have hszw := hg.size
            have b0 : wr.cell? ⟨w.heap.size, 0, none⟩ = some (.int .i64 x.key) := hbox.cell 0
            clear hown hg hbox
            by_cases hlt : k < n
            · have hkl : k < L.length := by rw [← HL.out]; exact hlt
              obtain ⟨b, o, rfl, hb1, hb2, hJ⟩ := DW.out.1.at_ (List.getElem?_eq_getElem hkl)
              obtain ⟨u, c0, c1, c2, hu⟩ := hJ.agree hb1 hb2 (Agree.of_grown G.out)
              obtain ⟨Au, cu, rfl, hcu, hru⟩ := hu
              have HU := Lib.hid ((show RdInts .i64 wr 0 w0.heap.size (.slice Au L[k].pos.length cu) L[k].pos from ⟨_, _, rfl, hcu, hru⟩).wide (Nat.le_refl _) hszw)
              have hpl : L[k].pos.length ≤ 1048576 := DW.out.2.2 _ (List.getElem_mem hkl)
              have kn : (k : Int) < n := by omega
              have k0 : (0 : Int) ≤ k := by omega
              clear hJ hcu hru
              have HK := Lib.hid (M.filter_take (p := fun y : M.Item => decide (x.key < y.key)) hkl)
              have HLEN : Hid ((L.filter (fun y : M.Item => decide (y.key < x.key)) ++ [x] ++ (L.take k).filter (fun y : M.Item => decide (x.key < y.key))).length ≤ 40) := Lib.hid (by
                have a1 := List.length_filter_le (fun y : M.Item => decide (x.key < y.key)) (L.take k)
                have a2 := List.length_filter_le (fun y : M.Item => decide (y.key < x.key)) L
                have a3 : (L.take k).length ≤ k := List.length_take_le _ _
                have a4 := HL.out
                simp only [List.length_append]
                try simp only [List.length_cons]
                simp only [List.length_nil]
                omega)
              generalize L[k] = y at *
              by_cases hq : x.key < y.key
              · have tq : decide (x.key < y.key) = true := decide_eq_true hq
                have HK2 : Hid (L.filter (fun y : M.Item => decide (y.key < x.key)) ++ [x] ++ (L.take (k + 1)).filter (fun y : M.Item => decide (x.key < y.key)) = L.filter (fun y : M.Item => decide (y.key < x.key)) ++ [x] ++ (L.take k).filter (fun y : M.Item => decide (x.key < y.key)) ++ [y]) := Lib.hid (by rw [HK.out, if_pos (decide_eq_true hq)]; simp only [List.append_assoc])
                clear hq
                have b1 : (wr.alloc (.cells #[.int .i64 y.key, .slice Au y.pos.length cu, .int .i64 y.tags] 59)).cell? ⟨w.heap.size, 0, none⟩ = some (.int .i64 x.key) := (HB.out.alloc _).cell 0
                have G1 := Lib.hid (World.grownBy_alloc wr (.cells #[.int .i64 y.key, .slice Au y.pos.length cu, .int .i64 y.tags] 59) none)
                clear b0
                go_wp2_with fail
                clear b1
                refine (copyItem_impl _ _ 0 _ y hpl ((HU.out.keep G1.out (Nat.le_refl _)).wide (Nat.le_refl _) G1.out.size) (Nat.le_refl _)).mono ?_
                rintro e w3 ⟨Ac, cc, rfl, hc, hg⟩
                have G3 := Lib.hid (gb_trans G1.out hg)
                have HC := Lib.hid (hc.wide (show wr.heap.size ≤ _ from G1.out.size))
                clear hc hg
                obtain ⟨LV, hLV, hO, hI, hP⟩ := O.out
                have hlv : LV.length ≤ 40 := by
                  have a5 := congrArg List.length hLV
                  rw [List.length_map] at a5
                  have := HLEN.out
                  omega
                have H1 := Lib.hid hLV
                have H2 := Lib.hid hO
                have H3 := Lib.hid hI
                have H4 := Lib.hid hP
                have H2b := Lib.hid (H2.out.kept G3.out (own_ge H2.out (by simp)))
                have hs3 := G3.out.size
                clear hLV hO hI hP
                go_wp2_with (at_builtin; refine wpList_append_own _ rfl (.tmp 53) (.tmp 56) 41 rfl w0.heap.size 59 i0 _ 3 40 Tryz.underlying41 hi0 hz0 hz1 hz2 rfl (by decide) u6 LV.length (cellsI LV) rfl (H2b.out.alloc _) ⟨w3.heap.size, 0, none⟩ 1 1 [.int .i64 y.key, .slice Ac y.pos.length cc, .int .i64 y.tags] rfl rfl (three_cell_at rfl) item_oneCell (by unfold maxLen; omega) (by omega) (by simp; omega) ?_; intro v' w4 hown' hgrow _; have T1 := Lib.hid hown'; have T2 := Lib.hid hgrow; clear hown' hgrow)
                go_roundw
                case rel =>
                  refine ⟨k + 1, by omega, by go_num, ?_, ?_, ?_⟩
                  · rw [HK2.out, ← H1.out]
                    exact push_step H2.out H3.out H4.out G3.out HC.out hszw (World.grownBy_alloc _ _ _) T1.out T2.out
                  · exact ((HB.out.grown G3.out (by simp)).alloc _).grown T2.out (fun e => by have := (H2.out.lt _ e.symm).1; have := HW0.out; omega)
                  · exact gb_new (gb_alloc (gb_trans G.out G3.out) _) T2.out (fun g hg => .inl (H2.out.lt g hg).1)
                case measure => simp [intOf]; omega
              · have tq : decide (x.key < y.key) = false := decide_eq_false hq
                have HK2 : Hid (L.filter (fun y : M.Item => decide (y.key < x.key)) ++ [x] ++ (L.take (k + 1)).filter (fun y : M.Item => decide (x.key < y.key)) = L.filter (fun y : M.Item => decide (y.key < x.key)) ++ [x] ++ (L.take k).filter (fun y : M.Item => decide (x.key < y.key))) := Lib.hid (by rw [HK.out, if_neg (by simp [hq]), List.append_nil])
                clear hq
                have b1 : (wr.alloc (.cells #[.int .i64 y.key, .slice Au y.pos.length cu, .int .i64 y.tags] 59)).cell? ⟨w.heap.size, 0, none⟩ = some (.int .i64 x.key) := (HB.out.alloc _).cell 0
                have G1 := Lib.hid (World.grownBy_alloc wr (.cells #[.int .i64 y.key, .slice Au y.pos.length cu, .int .i64 y.tags] 59) none)
                clear b0
                go_wp2_with fail
                go_roundw
                case rel => exact ⟨k + 1, by omega, by go_num, by rw [HK2.out]; exact (O.out.grown G1.out (by simp)), HB.out.grown G1.out (by simp), gb_trans G.out G1.out⟩
                case measure => simp [intOf]; omega
            · obtain rfl : k = n := by omega
              have HF : Hid (L.filter (fun y : M.Item => decide (y.key < x.key)) ++ [x] ++ (L.take k).filter (fun y : M.Item => decide (x.key < y.key)) = M.put L x) := Lib.hid (by rw [HL.out, List.take_of_length_le (Nat.le_refl _)]; rfl)
              rw [HF.out] at O
              obtain ⟨Av, cv, hv, hcv, _⟩ := O.out.rd
              subst hv
              have hs0 := GW.out.size
              have hsz2 := hszw
              have Z := Lib.hid (O.out.wide hs0)
              have GZ := Lib.hid (gb_trans GW.out G.out)
              clear O hcv HB b0 hszw
              generalize M.put L x = K at *
              by_cases hk16 : K.length ≤ 16
              · rw [if_pos hk16] at HY
                have : decide ((16 : Int) < K.length) = false := decide_eq_false (by omega)
                generalize K.length = m at *
                go_wp2_with fail
                go_ret2
                rw [HY.out]
                exact putDone_some Z.out GZ.out
              · rw [if_neg hk16] at HY
                have : decide ((16 : Int) < K.length) = true := decide_eq_true (by omega)
                generalize K.length = m at *
                go_wp2_with fail
                go_ret2
                rw [HY.out]
                exact putDone_none GZ.out
set_option maxHeartbeats 1000000 in
theorem DropItem_impl {w : World} {A : Option Addr} {c : Nat} {L : List M.Item} {q : Int} (D : SeesI w A L) :
    Calls Tryz.prog 32 #[.slice A L.length c, .int .i64 q] w (PutDone w (M.DropItem L q)) := by
  obtain ⟨i0, hi0, hz0, hz1, hz2⟩ := info_parts info_item'
  have HD := Lib.hid D
  have HV := Lib.hid (vs_impl (c := c) D)
  have HK : Hid (∀ W, w.grownBy W none → Calls Tryz.prog 54 #[.slice A L.length c, .int .i64 q] W fun e w' => e = .returned (.int .i64 (M.keyAt L q)) ∧ W.grownBy w' none) := Lib.hid fun W hW => indexOf_impl (D.on hW)
  clear D
  cases hv : M.validStore L
  · have HY : Hid (M.DropItem L q = none) := Lib.hid (by unfold M.DropItem; rw [if_neg (by simp [hv])])
    rw [HY.out]
    rw [hv] at HV
    clear hv
    generalize L.length = n at *
    go_enter Tryz.func32, Tryz.ntmps32
    go_wp2_with fail
    refine HV.out.mono ?_
    rintro e w1 ⟨rfl, hg⟩
    have G := Lib.hid hg
    clear hg
    go_wp2_with fail
    go_ret2
    exact putDone_none G.out
  · rw [hv] at HV
    have hl16 := (M.validStore_of hv).1
    by_cases hk : 0 ≤ M.keyAt L q
    · have HY : Hid (M.DropItem L q = some (M.dropKey L q)) := Lib.hid (by unfold M.DropItem; rw [if_pos ⟨hv, hk⟩])
      have tk : decide (M.keyAt L q < 0) = false := decide_eq_false (by omega)
      clear hv hk
      obtain ⟨n, hn⟩ : ∃ n, n = L.length := ⟨_, rfl⟩
      rw [← hn] at HV HK hl16 ⊢
      have HL := Lib.hid hn
      clear hn
      generalize M.keyAt L q = z at *
      go_enter Tryz.func32, Tryz.ntmps32
      go_wp2_with fail
      refine HV.out.mono ?_
      rintro e w1 ⟨rfl, hg⟩
      have G := Lib.hid hg
      clear hg
      go_wp2_with fail
      refine (HK.out _ G.out).mono ?_
      rintro e w0 ⟨rfl, hg⟩
      have GW := Lib.hid (gb_trans G.out hg)
      have DW := Lib.hid (HD.out.on GW.out)
      clear hg G HV HK
      go_wp2_with fail
      go_loopw [6, 21] (fun v i wr => ∃ k : Nat, k ≤ n ∧ i = .int .i64 k ∧ OwnItems wr w0.heap.size v ((L.take k).filter (fun y : M.Item => decide (y.key ≠ q))) ∧ w0.grownBy wr none) (fun _ i _ => n - (intOf i).toNat)
      case atStart =>
        refine ⟨0, Nat.zero_le _, rfl, ⟨[], rfl, ?_, by simp, List.Pairwise.nil⟩, gb_alloc (gb_refl _ _) _⟩
        have := World.ownsRow_made (base := w0.heap.size) (e := 59) (size := 3) w0 #[] 0 (Nat.le_refl _) (by decide) rfl
        simpa [cellsI] using this
      case round =>
        obtain ⟨k, hk, rfl, hown, hg⟩ := hrel
        have G := Lib.hid hg
        have O := Lib.hid hown
        have hszw := hg.size
        clear hown hg
        by_cases hlt : k < n
        · have hkl : k < L.length := by rw [← HL.out]; exact hlt
          obtain ⟨b, o, rfl, hb1, hb2, hJ⟩ := DW.out.1.at_ (List.getElem?_eq_getElem hkl)
          obtain ⟨u, c0, c1, c2, hu⟩ := hJ.agree hb1 hb2 (Agree.of_grown G.out)
          obtain ⟨Au, cu, rfl, hcu, hru⟩ := hu
          have HU := Lib.hid ((show RdInts .i64 wr 0 w0.heap.size (.slice Au L[k].pos.length cu) L[k].pos from ⟨_, _, rfl, hcu, hru⟩).wide (Nat.le_refl _) hszw)
          have hpl : L[k].pos.length ≤ 1048576 := DW.out.2.2 _ (List.getElem_mem hkl)
          have kn : (k : Int) < n := by omega
          have k0 : (0 : Int) ≤ k := by omega
          clear hJ hcu hru
          have HK := Lib.hid (M.filter_take (p := fun y : M.Item => decide (y.key ≠ q)) hkl)
          have HLEN : Hid (((L.take k).filter (fun y : M.Item => decide (y.key ≠ q))).length ≤ 40) := Lib.hid (by
            have a1 := List.length_filter_le (fun y : M.Item => decide (y.key ≠ q)) (L.take k)
            have a3 : (L.take k).length ≤ k := List.length_take_le _ _
            omega)
          generalize L[k] = y at *
          have G1 := Lib.hid (World.grownBy_alloc wr (.cells #[.int .i64 y.key, .slice Au y.pos.length cu, .int .i64 y.tags] 59) none)
          by_cases hq : y.key = q
          · have tq : (y.key != q) = false := by simp [hq]
            have HK2 : Hid ((L.take (k + 1)).filter (fun y : M.Item => decide (y.key ≠ q)) = (L.take k).filter (fun y : M.Item => decide (y.key ≠ q))) := Lib.hid (by rw [HK.out, if_neg (by simp [hq]), List.append_nil])
            clear hq
            go_wp2_with fail
            go_roundw
            case rel => exact ⟨k + 1, by omega, by go_num, by rw [HK2.out]; exact (O.out.grown G1.out (by simp)), gb_trans G.out G1.out⟩
            case measure => simp [intOf]; omega
          · have tq : (y.key != q) = true := by simpa using hq
            have HK2 : Hid ((L.take (k + 1)).filter (fun y : M.Item => decide (y.key ≠ q)) = (L.take k).filter (fun y : M.Item => decide (y.key ≠ q)) ++ [y]) := Lib.hid (by rw [HK.out, if_pos (by simpa using hq)])
            clear hq
            go_wp2_with fail
            refine (copyItem_impl _ _ 0 _ y hpl ((HU.out.keep G1.out (Nat.le_refl _)).wide (Nat.le_refl _) G1.out.size) (Nat.le_refl _)).mono ?_
            rintro e w3 ⟨Ac, cc, rfl, hc, hg⟩
            have G3 := Lib.hid (gb_trans G1.out hg)
            have HC := Lib.hid (hc.wide (show wr.heap.size ≤ _ from G1.out.size))
            clear hc hg
            obtain ⟨LV, hLV, hO, hI, hP⟩ := O.out
            have hlv : LV.length ≤ 40 := by
              have a5 := congrArg List.length hLV
              rw [List.length_map] at a5
              have := HLEN.out
              omega
            have H1 := Lib.hid hLV
            have H2 := Lib.hid hO
            have H3 := Lib.hid hI
            have H4 := Lib.hid hP
            have H2b := Lib.hid (H2.out.kept G3.out (own_ge H2.out (by simp)))
            have hs3 := G3.out.size
            clear hLV hO hI hP
            go_wp2_with (at_builtin; refine wpList_append_own _ rfl (.tmp 29) (.tmp 32) 41 rfl w0.heap.size 59 i0 _ 3 40 Tryz.underlying41 hi0 hz0 hz1 hz2 rfl (by decide) u6 LV.length (cellsI LV) rfl (H2b.out.alloc _) ⟨w3.heap.size, 0, none⟩ 1 1 [.int .i64 y.key, .slice Ac y.pos.length cc, .int .i64 y.tags] rfl rfl (three_cell_at rfl) item_oneCell (by unfold maxLen; omega) (by omega) (by simp; omega) ?_; intro v' w4 hown' hgrow _; have T1 := Lib.hid hown'; have T2 := Lib.hid hgrow; clear hown' hgrow)
            go_roundw
            case rel =>
              refine ⟨k + 1, by omega, by go_num, ?_, ?_⟩
              · rw [HK2.out, ← H1.out]
                exact push_step H2.out H3.out H4.out G3.out HC.out hszw (World.grownBy_alloc _ _ _) T1.out T2.out
              · exact gb_new (gb_alloc (gb_trans G.out G3.out) _) T2.out (fun g hg => .inl (H2.out.lt g hg).1)
            case measure => simp [intOf]; omega
        · obtain rfl : k = n := by omega
          have HF : Hid ((L.take k).filter (fun y : M.Item => decide (y.key ≠ q)) = M.dropKey L q) := Lib.hid (by rw [HL.out, List.take_of_length_le (Nat.le_refl _)]; rfl)
          rw [HF.out] at O
          have hs0 := GW.out.size
          go_wp2_with fail
          go_ret2
          rw [HY.out]
          exact putDone_some (O.out.wide hs0) (gb_trans GW.out G.out)
    · have HY : Hid (M.DropItem L q = none) := Lib.hid (by unfold M.DropItem; rw [if_neg (fun h => hk h.2)])
      have tk : decide (M.keyAt L q < 0) = true := decide_eq_true (by omega)
      rw [HY.out]
      clear hv hk
      generalize L.length = n at *
      generalize M.keyAt L q = z at *
      go_enter Tryz.func32, Tryz.ntmps32
      go_wp2_with fail
      refine HV.out.mono ?_
      rintro e w1 ⟨rfl, hg⟩
      have G := Lib.hid hg
      clear hg
      go_wp2_with fail
      refine (HK.out _ G.out).mono ?_
      rintro e w2 ⟨rfl, hg⟩
      replace G := Lib.hid (gb_trans G.out hg)
      clear hg
      go_wp2_with fail
      go_ret2
      exact putDone_none G.out
set_option maxHeartbeats 1000000 in
theorem DropItem_spec {w : World} {A : Option Addr} {c : Nat} {L : List M.Item} {q : Int} (D : SeesI w A L) :
    Calls Tryz.prog 63 #[.slice A L.length c, .int .i64 q] w (PutDone w (M.DropItem L q)) := by
  obtain ⟨i0, hi0, hz0, hz1, hz2⟩ := info_parts info_item'
  have HD := Lib.hid D
  have HV := Lib.hid (vs_spec (c := c) D)
  have HK : Hid (∀ W, w.grownBy W none → Calls Tryz.prog 83 #[.slice A L.length c, .int .i64 q] W fun e w' => e = .returned (.int .i64 (M.keyAt L q)) ∧ W.grownBy w' none) := Lib.hid fun W hW => keyAt_spec (D.on hW)
  clear D
  cases hv : M.validStore L
  · have HY : Hid (M.DropItem L q = none) := Lib.hid (by unfold M.DropItem; rw [if_neg (by simp [hv])])
    rw [HY.out]
    rw [hv] at HV
    clear hv
    generalize L.length = n at *
    go_enter Tryz.func63, Tryz.ntmps63
    go_wp2_with fail
    refine HV.out.mono ?_
    rintro e w1 ⟨rfl, hg⟩
    have G := Lib.hid hg
    clear hg
    go_wp2_with fail
    go_ret2
    exact putDone_none G.out
  · rw [hv] at HV
    have hl16 := (M.validStore_of hv).1
    by_cases hk : 0 ≤ M.keyAt L q
    · have HY : Hid (M.DropItem L q = some (M.dropKey L q)) := Lib.hid (by unfold M.DropItem; rw [if_pos ⟨hv, hk⟩])
      have tk : decide (M.keyAt L q < 0) = false := decide_eq_false (by omega)
      clear hv hk
      obtain ⟨n, hn⟩ : ∃ n, n = L.length := ⟨_, rfl⟩
      rw [← hn] at HV HK hl16 ⊢
      have HL := Lib.hid hn
      clear hn
      generalize M.keyAt L q = z at *
      go_enter Tryz.func63, Tryz.ntmps63
      go_wp2_with fail
      refine HV.out.mono ?_
      rintro e w1 ⟨rfl, hg⟩
      have G := Lib.hid hg
      clear hg
      go_wp2_with fail
      refine (HK.out _ G.out).mono ?_
      rintro e w0 ⟨rfl, hg⟩
      have GW := Lib.hid (gb_trans G.out hg)
      have DW := Lib.hid (HD.out.on GW.out)
      clear hg G HV HK
      go_wp2_with fail
      go_loopw [6, 7] (fun v i wr => ∃ k : Nat, k ≤ n ∧ i = .int .i64 k ∧ OwnItems wr w0.heap.size v ((L.take k).filter (fun y : M.Item => decide (y.key ≠ q))) ∧ w0.grownBy wr none) (fun _ i _ => n - (intOf i).toNat)
      case atStart =>
        refine ⟨0, Nat.zero_le _, rfl, ⟨[], rfl, ?_, by simp, List.Pairwise.nil⟩, gb_alloc (gb_refl _ _) _⟩
        have := World.ownsRow_made (base := w0.heap.size) (e := 59) (size := 3) w0 #[] 0 (Nat.le_refl _) (by decide) rfl
        simpa [cellsI] using this
      case round =>
        obtain ⟨k, hk, rfl, hown, hg⟩ := hrel
        have G := Lib.hid hg
        have O := Lib.hid hown
        have hszw := hg.size
        clear hown hg
        by_cases hlt : k < n
        · have hkl : k < L.length := by rw [← HL.out]; exact hlt
          obtain ⟨b, o, rfl, hb1, hb2, hJ⟩ := DW.out.1.at_ (List.getElem?_eq_getElem hkl)
          obtain ⟨u, c0, c1, c2, hu⟩ := hJ.agree hb1 hb2 (Agree.of_grown G.out)
          obtain ⟨Au, cu, rfl, hcu, hru⟩ := hu
          have HU := Lib.hid ((show RdInts .i64 wr 0 w0.heap.size (.slice Au L[k].pos.length cu) L[k].pos from ⟨_, _, rfl, hcu, hru⟩).wide (Nat.le_refl _) hszw)
          have hpl : L[k].pos.length ≤ 1048576 := DW.out.2.2 _ (List.getElem_mem hkl)
          have kn : (k : Int) < n := by omega
          have k0 : (0 : Int) ≤ k := by omega
          clear hJ hcu hru
          have HK := Lib.hid (M.filter_take (p := fun y : M.Item => decide (y.key ≠ q)) hkl)
          have HLEN : Hid (((L.take k).filter (fun y : M.Item => decide (y.key ≠ q))).length ≤ 40) := Lib.hid (by
            have a1 := List.length_filter_le (fun y : M.Item => decide (y.key ≠ q)) (L.take k)
            have a3 : (L.take k).length ≤ k := List.length_take_le _ _
            omega)
          generalize L[k] = y at *
          have G1 := Lib.hid (gb_refl wr none)
          by_cases hq : y.key = q
          · have tq : (y.key != q) = false := by simp [hq]
            have HK2 : Hid ((L.take (k + 1)).filter (fun y : M.Item => decide (y.key ≠ q)) = (L.take k).filter (fun y : M.Item => decide (y.key ≠ q))) := Lib.hid (by rw [HK.out, if_neg (by simp [hq]), List.append_nil])
            clear hq
            go_wp2_with fail
            go_roundw
            case rel => exact ⟨k + 1, by omega, by go_num, by rw [HK2.out]; exact (O.out.grown G1.out (by simp)), gb_trans G.out G1.out⟩
            case measure => simp [intOf]; omega
          · have tq : (y.key != q) = true := by simpa using hq
            have HK2 : Hid ((L.take (k + 1)).filter (fun y : M.Item => decide (y.key ≠ q)) = (L.take k).filter (fun y : M.Item => decide (y.key ≠ q)) ++ [y]) := Lib.hid (by rw [HK.out, if_pos (by simpa using hq)])
            clear hq
            go_wp2_with fail
            refine (copyItem_spec _ _ 0 _ y hpl ((HU.out.keep G1.out (Nat.le_refl _)).wide (Nat.le_refl _) G1.out.size) (Nat.le_refl _)).mono ?_
            rintro e w3 ⟨Ac, cc, rfl, hc, hg⟩
            have G3 := Lib.hid (gb_trans G1.out hg)
            have HC := Lib.hid (hc.wide (show wr.heap.size ≤ _ from G1.out.size))
            clear hc hg
            obtain ⟨LV, hLV, hO, hI, hP⟩ := O.out
            have hlv : LV.length ≤ 40 := by
              have a5 := congrArg List.length hLV
              rw [List.length_map] at a5
              have := HLEN.out
              omega
            have H1 := Lib.hid hLV
            have H2 := Lib.hid hO
            have H3 := Lib.hid hI
            have H4 := Lib.hid hP
            have H2b := Lib.hid (H2.out.kept G3.out (own_ge H2.out (by simp)))
            have hs3 := G3.out.size
            clear hLV hO hI hP
            go_wp2_with (at_builtin; refine wpList_append_own _ rfl (.tmp 31) (.tmp 37) 41 rfl w0.heap.size 59 i0 _ 3 40 Tryz.underlying41 hi0 hz0 hz1 hz2 rfl (by decide) u6 LV.length (cellsI LV) rfl (H2b.out.alloc _) ⟨w3.heap.size, 0, none⟩ 1 1 [.int .i64 y.key, .slice Ac y.pos.length cc, .int .i64 y.tags] rfl rfl (three_cell_at rfl) item_oneCell (by unfold maxLen; omega) (by omega) (by simp; omega) ?_; intro v' w4 hown' hgrow _; have T1 := Lib.hid hown'; have T2 := Lib.hid hgrow; clear hown' hgrow)
            go_roundw
            case rel =>
              refine ⟨k + 1, by omega, by go_num, ?_, ?_⟩
              · rw [HK2.out, ← H1.out]
                exact push_step H2.out H3.out H4.out G3.out HC.out hszw (World.grownBy_alloc _ _ _) T1.out T2.out
              · exact gb_new (gb_alloc (gb_trans G.out G3.out) _) T2.out (fun g hg => .inl (H2.out.lt g hg).1)
            case measure => simp [intOf]; omega
        · obtain rfl : k = n := by omega
          have HF : Hid ((L.take k).filter (fun y : M.Item => decide (y.key ≠ q)) = M.dropKey L q) := Lib.hid (by rw [HL.out, List.take_of_length_le (Nat.le_refl _)]; rfl)
          rw [HF.out] at O
          have hs0 := GW.out.size
          go_wp2_with fail
          go_ret2
          rw [HY.out]
          exact putDone_some (O.out.wide hs0) (gb_trans GW.out G.out)
    · have HY : Hid (M.DropItem L q = none) := Lib.hid (by unfold M.DropItem; rw [if_neg (fun h => hk h.2)])
      have tk : decide (M.keyAt L q < 0) = true := decide_eq_true (by omega)
      rw [HY.out]
      clear hv hk
      generalize L.length = n at *
      generalize M.keyAt L q = z at *
      go_enter Tryz.func63, Tryz.ntmps63
      go_wp2_with fail
      refine HV.out.mono ?_
      rintro e w1 ⟨rfl, hg⟩
      have G := Lib.hid hg
      clear hg
      go_wp2_with fail
      refine (HK.out _ G.out).mono ?_
      rintro e w2 ⟨rfl, hg⟩
      replace G := Lib.hid (gb_trans G.out hg)
      clear hg
      go_wp2_with fail
      go_ret2
      exact putDone_none G.out
/-- what PutItem and DropItem hand back, in one shape -/
def PutGot (w : World) (r : Option (List M.Item)) (e : Ending) (w' : World) : Prop :=
  ∃ A c, e = .returned (.tuple #[.slice A (r.getD []).length c, .bool r.isSome]) ∧ (r.getD []).length ≤ c ∧ OwnItems w' w.heap.size (.slice A (r.getD []).length c) (r.getD []) ∧ (r = none → A = none ∧ c = 0) ∧ w.grownBy w' none
theorem PutDone.got {w w' : World} {r : Option (List M.Item)} {e : Ending} (h : PutDone w r e w') : PutGot w r e w' := by
  obtain ⟨vs, rfl, ha, hg⟩ := h
  cases r with
  | none =>
    have h : vs = [.slice none 0 0, .bool false] := ha
    subst h
    exact ⟨none, 0, rfl, Nat.le_refl _, ⟨[], rfl, ⟨rfl, .inl ⟨rfl, rfl⟩⟩, by simp, List.Pairwise.nil⟩, fun _ => ⟨rfl, rfl⟩, hg⟩
  | some L =>
    obtain ⟨v, h, ho⟩ := ha
    subst h
    obtain ⟨A, c, rfl, hc, _⟩ := ho.rd
    exact ⟨A, c, rfl, hc, ho, (fun h => by cases h), hg⟩
theorem PutGot.done {w w' : World} {r : Option (List M.Item)} {e : Ending} (h : PutGot w r e w') : PutDone w r e w' := by
  obtain ⟨A, c, rfl, hc, ho, hn, hg⟩ := h
  cases r with
  | none =>
    obtain ⟨rfl, rfl⟩ := hn rfl
    exact putDone_none hg
  | some L => exact putDone_some ho hg
theorem PutDone.on {w w0 w' : World} {r : Option (List M.Item)} {e : Ending} (h : PutDone w0 r e w') (hg : w.grownBy w0 none) : PutDone w r e w' := by
  obtain ⟨A, c, rfl, hc, ho, hn, hg'⟩ := h.got
  exact PutGot.done ⟨A, c, rfl, hc, ho.wide hg.size, hn, gb_trans hg hg'⟩
theorem OwnItems.sees {w : World} {lo : Nat} {A : Option Addr} {n c : Nat} {L : List M.Item} (h : OwnItems w lo (.slice A n c) L) (hs : Small L) : SeesI w A L := ⟨h.rd.rd.wide (Nat.zero_le _) (Nat.le_refl _), hs⟩
theorem small_put {L : List M.Item} {x : M.Item} (hL : Small L) (hx : x.pos.length ≤ 1048576) : Small ((M.PutItem L x).getD []) := by
  cases h : M.PutItem L x with
  | none => exact Small.nil_
  | some K => exact Small.of_valid (M.PutItem_valid h)
theorem small_drop {L : List M.Item} {q : Int} : Small ((M.DropItem L q).getD []) := by
  cases h : M.DropItem L q with
  | none => exact Small.nil_
  | some K => exact Small.of_valid (M.DropItem_valid h)
/-- a store and a count are handed back -/
def RepMade (w : World) (r : List M.Item × Int) (e : Ending) (w' : World) : Prop :=
  ∃ A c, e = .returned (.tuple #[.slice A r.1.length c, .int .i64 r.2]) ∧ r.1.length ≤ c ∧ OwnItems w' w.heap.size (.slice A r.1.length c) r.1 ∧ w.grownBy w' none
theorem repMade_none {w w' : World} {r : List M.Item × Int} (hr : r = ([], -1)) (h : w.grownBy w' none) : RepMade w r (.returned (.tuple #[.slice none 0 0, .int .i64 (-1)])) w' := by
  subst hr
  exact ⟨none, 0, rfl, Nat.le_refl _, ⟨[], rfl, ⟨rfl, .inl ⟨rfl, rfl⟩⟩, by simp, List.Pairwise.nil⟩, h⟩
theorem repMade_some {w w' : World} {r : List M.Item × Int} {K : List M.Item} {A : Option Addr} {c k : Nat} (hr : r = (K, (k : Int))) (hc : K.length ≤ c) (ho : OwnItems w' w.heap.size (.slice A K.length c) K) (h : w.grownBy w' none) : RepMade w r (.returned (.tuple #[.slice A K.length c, .int .i64 k])) w' := by
  subst hr
  exact ⟨A, c, rfl, hc, ho, h⟩
theorem RepMade.on {w w0 w' : World} {r : List M.Item × Int} {e : Ending} (h : RepMade w0 r e w') (hg : w.grownBy w0 none) : RepMade w r e w' := by
  obtain ⟨A, c, rfl, hc, ho, hg'⟩ := h
  exact ⟨A, c, rfl, hc, ho.wide hg.size, gb_trans hg hg'⟩
def repInt (r : List M.Item × Nat) : List M.Item × Int := (r.1, (r.2 : Int))
theorem kind_of {l : List M.Entry} (h : M.validLog l = true) : ∀ x ∈ l, x.kind = 1 ∨ x.kind = 2 := fun x hx => by
  unfold M.validLog at h
  simp only [Bool.and_eq_true, List.all_eq_true] at h
  have := h.1 x hx
  unfold M.validEntry at this
  split at this
  · exact .inr ‹_›
  · simp only [Bool.and_eq_true, decide_eq_true_eq] at this
    exact .inl this.1
/-- replay, seen from the entry at place k -/
def At (L : List M.Item) (l : List M.Entry) (k : Nat) (K : List M.Item) : Prop := M.replay L l = ((M.replay K (l.drop k)).1, k + (M.replay K (l.drop k)).2)
theorem At.zero (L : List M.Item) (l : List M.Entry) : At L l 0 L := by unfold At; simp
theorem At.stop {L K : List M.Item} {l : List M.Entry} {k : Nat} (h : At L l k K) (hk : k < l.length) (ha : M.apply K l[k] = none) : repInt (M.replay L l) = (K, (k : Int)) := by
  unfold At at h
  rw [List.drop_eq_getElem_cons hk, M.replay_none ha] at h
  rw [h]; rfl
theorem At.next {L K K' : List M.Item} {l : List M.Entry} {k : Nat} (h : At L l k K) (hk : k < l.length) (ha : M.apply K l[k] = some K') : At L l (k + 1) K' := by
  unfold At at h ⊢
  rw [List.drop_eq_getElem_cons hk, M.replay_some ha] at h
  rw [h]
  show (_, _) = (_, _)
  congr 1
  show k + ((M.replay K' (l.drop (k + 1))).2 + 1) = _
  omega
theorem At.done {L K : List M.Item} {l : List M.Entry} (h : At L l l.length K) : repInt (M.replay L l) = (K, (l.length : Int)) := by
  unfold At at h
  rw [List.drop_of_length_le (Nat.le_refl _), M.replay_nil] at h
  rw [h]; rfl
end Go.Proofs.YtibbpbbgmgdpdaaGreatDoor
