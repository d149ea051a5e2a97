/- FnAddEntry: added entries count from their times on: proved for every input, with no condition. -/
import Derived.Test.YthoakomccjjhbaaFrame
import Derived.Deep.RegionHeld3
import Derived.Test.YthoakomccjjhbaaRegX
import Derived.Test.YthoakomccjjhbaaHisK
import Derived.Test.YthoakomccjjhbaaGetF
namespace Go.Proofs.Ythoakomccjjhbaa
open Go.ChangeShapes Go.WideShapes Go.ChangeAt Go.RowKit
set_option linter.unusedVariables false
set_option linter.unusedSimpArgs false
namespace fnAddEntry
set_option maxRecDepth 100000 in
set_option maxHeartbeats 2000000 in
theorem walk (w : World) (A : Option Addr) (c : Nat) (bs : List Int) (h2 : bs.length ≤ c) (h3 : ∀ x ∈ bs, 0 ≤ x ∧ x ≤ 255) (h4 : Rd w 0 w.heap.size A (bs.map (.int .u8))) :
    Calls Try.prog 3 #[.slice A bs.length c] w fun e w' => e = .returned (.bool true) ∧ w.grownBy w' none := by
  have H2 := Lib.hid h2
  have H3 := Lib.hid h3
  have H4 := Lib.hid h4
  clear h2 h3 h4
  by_cases hb : bs.length ≤ 1048576
  rotate_left
  · have hb' : (1048576 : Int) < bs.length := by omega
    generalize bs.length = L at *
    go_enter Try.func3, Try.ntmps3
    go_wp2
    go_ret
    exact ⟨rfl, gb_refl _ _⟩
  have hb' : (bs.length : Int) ≤ 1048576 := by omega
  go_enter Try.func3, Try.ntmps3
  go_wp2_with fail
  refine (DrawAddEntry_any w A c bs H2.out hb H3.out H4.out).mono ?_
  rintro e W ⟨h, A1, B1, c1, d1, y, Ay, cy, t, rfl, hf, hs, hu, hyl, hg⟩
  obtain ⟨l, ts⟩ := h
  have HF := Lib.hid hf
  obtain ⟨hlc, hld, hl1, hl2⟩ := hf
  change l.length ≤ c1 at hlc
  change ts.length ≤ d1 at hld
  change l.length ≤ 40 at hl1
  change ts.length ≤ 40 at hl2
  have D0 := Lib.hid (SeesGH.sees hs)
  have G0 := Lib.hid hg
  clear hs hg
  go_wp2_with fail
  refine calls_name (fun V => SeesH V A1 B1 ⟨l, ts⟩ ∧ Row V W.heap.size 26 [.slice A1 l.length c1, .slice B1 ts.length d1] ∧ Row V (W.heap.size + 1) 30 [.int .i64 y.kind, .int .i64 y.item.key, .slice Ay y.item.pos.length cy, .int .i64 y.item.tags] ∧ RdInts .i64 V 0 V.heap.size (.slice Ay y.item.pos.length cy) y.item.pos ∧ w.grownBy V none) ⟨(D0.out.on (World.grownBy_alloc W _ none)).on (World.grownBy_alloc _ _ none), (Row.new W _ rfl).alloc _, (by have := Row.new (W.alloc (.cells #[.slice A1 l.length c1, .slice B1 ts.length d1] 26)) 30 (ca := #[.int .i64 y.kind, .int .i64 y.item.key, .slice Ay y.item.pos.length cy, .int .i64 y.item.tags]) rfl; simpa using this), RdInts.on (RdInts.on hu (World.grownBy_alloc W _ none)) (World.grownBy_alloc _ _ none), gb_alloc (gb_alloc G0.out _) _⟩ ?_
  obtain ⟨hb, hhb⟩ : ∃ hb, hb = W.heap.size := ⟨_, rfl⟩
  rw [← hhb]
  rintro V ⟨hs, hx, he, hu', hg⟩
  have D := Lib.hid hs
  have X := Lib.hid hx
  have N := Lib.hid he
  have U := Lib.hid hu'
  have G := Lib.hid hg
  clear hs hx hg hhb he hu hu'
  obtain ⟨r, hr⟩ : ∃ r, r = M.AddEntry ⟨l, ts⟩ y t := ⟨_, rfl⟩
  have HR := Lib.hid hr
  have hyl' : y.item.pos.length ≤ 1048576 := by omega
  have HI : Hid (∀ W, SeesH W A1 B1 ⟨l, ts⟩ → RdInts .i64 W 0 W.heap.size (.slice Ay y.item.pos.length cy) y.item.pos → Calls Try.prog 12 #[.agg #[.slice A1 l.length c1, .slice B1 ts.length d1], .agg #[.int .i64 y.kind, .int .i64 y.item.key, .slice Ay y.item.pos.length cy, .int .i64 y.item.tags], .int .i64 t] W (GotH W r)) := Lib.hid fun W h u => by rw [hr]; exact ae_impl h hld u hyl'
  have HS : Hid (∀ W, SeesH W A1 B1 ⟨l, ts⟩ → RdInts .i64 W 0 W.heap.size (.slice Ay y.item.pos.length cy) y.item.pos → Calls Try.prog 13 #[.agg #[.slice A1 l.length c1, .slice B1 ts.length d1], .agg #[.int .i64 y.kind, .int .i64 y.item.key, .slice Ay y.item.pos.length cy, .int .i64 y.item.tags], .int .i64 t] W (GotH W r)) := Lib.hid fun W h u => by rw [hr]; exact ae_spec h hld u hyl'
  clear hr D0 G0
  cases r with
  | none =>
    refine ((HI.out _ D.out U.out).mono (fun _ _ => gotH_none)).mono ?_
    rintro e W ⟨A2, c2, B2, d2, rfl, hs, hg⟩
    replace D := Lib.hid (D.out.on hg)
    replace X := Lib.hid (X.out.on hg)
    replace N := Lib.hid (N.out.on hg)
    replace U := Lib.hid (U.out.on hg)
    replace G := Lib.hid (gb_trans G.out hg)
    clear hg
    have F := Lib.hid hs
    clear hs
    try clear q0 q1
    try clear q0 q1
    have q0 := (X.out.alloc (.cells #[.slice A2 0 c2, .slice B2 0 d2] 26)).cell 0
    have q1 := (X.out.alloc (.cells #[.slice A2 0 c2, .slice B2 0 d2] 26)).cell 1
    simp only [List.getElem?_cons_zero, List.getElem?_cons_succ] at q0 q1
    try clear k0 k1 k2 k3
    have k0 := (N.out.alloc (.cells #[.slice A2 0 c2, .slice B2 0 d2] 26)).cell 0
    have k1 := (N.out.alloc (.cells #[.slice A2 0 c2, .slice B2 0 d2] 26)).cell 1
    have k2 := (N.out.alloc (.cells #[.slice A2 0 c2, .slice B2 0 d2] 26)).cell 2
    have k3 := (N.out.alloc (.cells #[.slice A2 0 c2, .slice B2 0 d2] 26)).cell 3
    simp only [List.getElem?_cons_zero, List.getElem?_cons_succ] at k0 k1 k2 k3
    go_wp2_with fail
    refine calls_name (fun V => W.grownBy V none ∧ Row V W.heap.size 26 [.slice A2 0 c2, .slice B2 0 d2]) ⟨World.grownBy_alloc W _ none, Row.new W _ rfl⟩ ?_
    obtain ⟨hy2, hhy2⟩ : ∃ hy2, hy2 = W.heap.size := ⟨_, rfl⟩
    rw [← hhy2]
    rintro W ⟨hg, hy⟩
    have Y := Lib.hid hy
    replace D := Lib.hid (D.out.on hg)
    replace X := Lib.hid (X.out.on hg)
    replace N := Lib.hid (N.out.on hg)
    replace U := Lib.hid (U.out.on hg)
    replace F := Lib.hid (F.out.on hg)
    replace G := Lib.hid (gb_trans G.out hg)
    clear hg hy hhy2
    refine ((HS.out _ D.out U.out).mono (fun _ _ => gotH_none)).mono ?_
    rintro e W ⟨A3, c3, B3, d3, rfl, hs, hg⟩
    replace D := Lib.hid (D.out.on hg)
    replace X := Lib.hid (X.out.on hg)
    replace N := Lib.hid (N.out.on hg)
    replace U := Lib.hid (U.out.on hg)
    replace F := Lib.hid (F.out.on hg)
    replace Y := Lib.hid (Y.out.on hg)
    replace G := Lib.hid (gb_trans G.out hg)
    clear hg
    have F' := Lib.hid hs
    clear hs
    try clear p0 p1
    try clear p0 p1
    have p0 := (Y.out.alloc (.cells #[.slice A3 0 c3, .slice B3 0 d3] 26)).cell 0
    have p1 := (Y.out.alloc (.cells #[.slice A3 0 c3, .slice B3 0 d3] 26)).cell 1
    simp only [List.getElem?_cons_zero, List.getElem?_cons_succ] at p0 p1
    go_wp2_with fail
    refine calls_name (fun V => W.grownBy V none ∧ Row V W.heap.size 26 [.slice A3 0 c3, .slice B3 0 d3]) ⟨World.grownBy_alloc W _ none, Row.new W _ rfl⟩ ?_
    obtain ⟨hy3, hhy3⟩ : ∃ hy3, hy3 = W.heap.size := ⟨_, rfl⟩
    rw [← hhy3]
    rintro W ⟨hg, hy⟩
    have Z := Lib.hid hy
    replace D := Lib.hid (D.out.on hg)
    replace X := Lib.hid (X.out.on hg)
    replace N := Lib.hid (N.out.on hg)
    replace U := Lib.hid (U.out.on hg)
    replace F := Lib.hid (F.out.on hg)
    replace F' := Lib.hid (F'.out.on hg)
    replace Y := Lib.hid (Y.out.on hg)
    replace G := Lib.hid (gb_trans G.out hg)
    clear hg hy hhy3
    refine (eqh_nil F.out F'.out).mono ?_
    rintro e W ⟨rfl, hg⟩
    replace D := Lib.hid (D.out.on hg)
    replace X := Lib.hid (X.out.on hg)
    replace N := Lib.hid (N.out.on hg)
    replace U := Lib.hid (U.out.on hg)
    replace F := Lib.hid (F.out.on hg)
    replace F' := Lib.hid (F'.out.on hg)
    replace Y := Lib.hid (Y.out.on hg)
    replace Z := Lib.hid (Z.out.on hg)
    replace G := Lib.hid (gb_trans G.out hg)
    clear hg
    try clear q0 q1
    have q0 := X.out.cell 0
    have q1 := X.out.cell 1
    simp only [List.getElem?_cons_zero, List.getElem?_cons_succ] at q0 q1
    try clear p0 p1
    have p0 := Y.out.cell 0
    have p1 := Y.out.cell 1
    simp only [List.getElem?_cons_zero, List.getElem?_cons_succ] at p0 p1
    try clear z0 z1
    have z0 := Z.out.cell 0
    have z1 := Z.out.cell 1
    simp only [List.getElem?_cons_zero, List.getElem?_cons_succ] at z0 z1
    go_wp2_with fail
    refine (eqh_nil F.out F'.out).mono ?_
    rintro e W ⟨rfl, hg⟩
    replace D := Lib.hid (D.out.on hg)
    replace G := Lib.hid (gb_trans G.out hg)
    clear hg
    go_wp2_with fail
    go_ret
    exact ⟨rfl, G.out⟩
  | some g9 =>
    obtain ⟨l2, ts2⟩ := g9
    have HI1 := Lib.hid (fun W h u => (HI.out W h u).mono (fun _ _ => gotH_some))
    have HS1 := Lib.hid (fun W h u => (HS.out W h u).mono (fun _ _ => gotH_some))
    clear HI HS
    refine (HI1.out _ D.out U.out).mono ?_
    rintro e W ⟨A2, c2, B2, d2, rfl, hc2, hd2, hs, hg⟩
    replace D := Lib.hid (D.out.on hg)
    replace X := Lib.hid (X.out.on hg)
    replace N := Lib.hid (N.out.on hg)
    replace U := Lib.hid (U.out.on hg)
    replace G := Lib.hid (gb_trans G.out hg)
    clear hg
    have F := Lib.hid hs
    clear hs
    try clear q0 q1
    try clear q0 q1
    have q0 := (X.out.alloc (.cells #[.slice A2 l2.length c2, .slice B2 ts2.length d2] 26)).cell 0
    have q1 := (X.out.alloc (.cells #[.slice A2 l2.length c2, .slice B2 ts2.length d2] 26)).cell 1
    simp only [List.getElem?_cons_zero, List.getElem?_cons_succ] at q0 q1
    try clear k0 k1 k2 k3
    have k0 := (N.out.alloc (.cells #[.slice A2 l2.length c2, .slice B2 ts2.length d2] 26)).cell 0
    have k1 := (N.out.alloc (.cells #[.slice A2 l2.length c2, .slice B2 ts2.length d2] 26)).cell 1
    have k2 := (N.out.alloc (.cells #[.slice A2 l2.length c2, .slice B2 ts2.length d2] 26)).cell 2
    have k3 := (N.out.alloc (.cells #[.slice A2 l2.length c2, .slice B2 ts2.length d2] 26)).cell 3
    simp only [List.getElem?_cons_zero, List.getElem?_cons_succ] at k0 k1 k2 k3
    go_wp2_with fail
    refine calls_name (fun V => W.grownBy V none ∧ Row V W.heap.size 26 [.slice A2 l2.length c2, .slice B2 ts2.length d2]) ⟨World.grownBy_alloc W _ none, Row.new W _ rfl⟩ ?_
    obtain ⟨hy2, hhy2⟩ : ∃ hy2, hy2 = W.heap.size := ⟨_, rfl⟩
    rw [← hhy2]
    rintro W ⟨hg, hy⟩
    have Y := Lib.hid hy
    replace D := Lib.hid (D.out.on hg)
    replace X := Lib.hid (X.out.on hg)
    replace N := Lib.hid (N.out.on hg)
    replace U := Lib.hid (U.out.on hg)
    replace F := Lib.hid (F.out.on hg)
    replace G := Lib.hid (gb_trans G.out hg)
    clear hg hy hhy2
    refine (HS1.out _ D.out U.out).mono ?_
    rintro e W ⟨A3, c3, B3, d3, rfl, hc3, hd3, hs, hg⟩
    replace D := Lib.hid (D.out.on hg)
    replace X := Lib.hid (X.out.on hg)
    replace N := Lib.hid (N.out.on hg)
    replace U := Lib.hid (U.out.on hg)
    replace F := Lib.hid (F.out.on hg)
    replace Y := Lib.hid (Y.out.on hg)
    replace G := Lib.hid (gb_trans G.out hg)
    clear hg
    have F' := Lib.hid hs
    clear hs HI1 HS1
    try clear p0 p1
    try clear p0 p1
    have p0 := (Y.out.alloc (.cells #[.slice A3 l2.length c3, .slice B3 ts2.length d3] 26)).cell 0
    have p1 := (Y.out.alloc (.cells #[.slice A3 l2.length c3, .slice B3 ts2.length d3] 26)).cell 1
    simp only [List.getElem?_cons_zero, List.getElem?_cons_succ] at p0 p1
    go_wp2_with fail
    refine calls_name (fun V => W.grownBy V none ∧ Row V W.heap.size 26 [.slice A3 l2.length c3, .slice B3 ts2.length d3]) ⟨World.grownBy_alloc W _ none, Row.new W _ rfl⟩ ?_
    obtain ⟨hy3, hhy3⟩ : ∃ hy3, hy3 = W.heap.size := ⟨_, rfl⟩
    rw [← hhy3]
    rintro W ⟨hg, hy⟩
    have Z := Lib.hid hy
    replace D := Lib.hid (D.out.on hg)
    replace X := Lib.hid (X.out.on hg)
    replace N := Lib.hid (N.out.on hg)
    replace U := Lib.hid (U.out.on hg)
    replace F := Lib.hid (F.out.on hg)
    replace F' := Lib.hid (F'.out.on hg)
    replace Y := Lib.hid (Y.out.on hg)
    replace G := Lib.hid (gb_trans G.out hg)
    clear hg hy hhy3
    refine (eqh_same F.out F'.out).mono ?_
    rintro e W ⟨rfl, hg⟩
    replace D := Lib.hid (D.out.on hg)
    replace X := Lib.hid (X.out.on hg)
    replace N := Lib.hid (N.out.on hg)
    replace U := Lib.hid (U.out.on hg)
    replace F := Lib.hid (F.out.on hg)
    replace F' := Lib.hid (F'.out.on hg)
    replace Y := Lib.hid (Y.out.on hg)
    replace Z := Lib.hid (Z.out.on hg)
    replace G := Lib.hid (gb_trans G.out hg)
    clear hg
    try clear q0 q1
    have q0 := X.out.cell 0
    have q1 := X.out.cell 1
    simp only [List.getElem?_cons_zero, List.getElem?_cons_succ] at q0 q1
    try clear p0 p1
    have p0 := Y.out.cell 0
    have p1 := Y.out.cell 1
    simp only [List.getElem?_cons_zero, List.getElem?_cons_succ] at p0 p1
    try clear z0 z1
    have z0 := Z.out.cell 0
    have z1 := Z.out.cell 1
    simp only [List.getElem?_cons_zero, List.getElem?_cons_succ] at z0 z1
    obtain ⟨e1, e2, e3⟩ := ae_some HR.out.symm
    obtain ⟨e4, e5, e6, e7⟩ := M.add_valid_of e2
    have i1 : M.inR t 0 1000 = true := by simp only [M.inR, decide_eq_true_eq]; omega
    have i2 : M.inR (t - 1) 0 1000 = true := by simp only [M.inR, decide_eq_true_eq]; omega
    have vg : M.validHist ⟨l2, ts2⟩ = true := by rw [e3]; exact e2
    obtain ⟨K, hK⟩ : ∃ K, K = M.StoreAt ⟨l2, ts2⟩ t := ⟨_, rfl⟩
    obtain ⟨K1, hK1⟩ : ∃ K, K = M.StoreAt ⟨l, ts⟩ (t - 1) := ⟨_, rfl⟩
    have s1 : M.StoreAt ⟨l2, ts2⟩ (t - 1) = K1 := by
      rw [hK1]
      unfold M.StoreAt
      rw [if_pos ⟨vg, i2⟩, if_pos ⟨e1, i2⟩, e3]
      exact M.storeAt_add_early e1 (by omega)
    have s2 : M.GetItem K y.item.key = M.effect y := by
      have hk : K = M.storeAt (M.addH ⟨l, ts⟩ y t) t := by
        rw [hK]
        unfold M.StoreAt
        rw [if_pos ⟨vg, i1⟩, e3]
      unfold M.GetItem
      rw [hk, if_pos (M.store_valid _ _)]
      exact M.storeAt_add e2
    have HA : Hid (∀ W, SeesH W A2 B2 ⟨l2, ts2⟩ → Calls Try.prog 16 #[.agg #[.slice A2 l2.length c2, .slice B2 ts2.length d2], .int .i64 t] W (GotI W K)) := Lib.hid fun W h => by rw [hK]; exact sa_impl h hd2
    have HB : Hid (∀ W, SeesH W A2 B2 ⟨l2, ts2⟩ → Calls Try.prog 16 #[.agg #[.slice A2 l2.length c2, .slice B2 ts2.length d2], .int .i64 (t - 1)] W (GotI W K1)) := Lib.hid fun W h => by rw [← s1]; exact sa_impl h hd2
    have HC : Hid (∀ W, SeesH W A1 B1 ⟨l, ts⟩ → Calls Try.prog 16 #[.agg #[.slice A1 l.length c1, .slice B1 ts.length d1], .int .i64 (t - 1)] W (GotI W K1)) := Lib.hid fun W h => by rw [hK1]; exact sa_impl h hld
    have HV : Hid (∀ W, SeesH W A2 B2 ⟨l2, ts2⟩ → Calls Try.prog 19 #[.agg #[.slice A2 l2.length c2, .slice B2 ts2.length d2]] W fun e w' => e = .returned (.bool true) ∧ W.grownBy w' none) := Lib.hid fun W h => by
      have e := ValidHistory_impl (c := c2) (d := d2) h
      rw [vg] at e
      exact e
    obtain ⟨sm, hsm⟩ : ∃ sm, sm = (y.kind == 1) := ⟨_, rfl⟩
    obtain ⟨zi, hzi⟩ : ∃ zi, zi = if y.kind = 1 then y.item else ⟨0, [], 0⟩ := ⟨_, rfl⟩
    have HG : Hid (∀ W A c, SeesI W A K → Calls Try.prog 15 #[.slice A K.length c, .int .i64 y.item.key] W (fun e w' => ∃ A c, e = .returned (.tuple #[.agg #[.int .i64 zi.key, .slice A zi.pos.length c, .int .i64 zi.tags], .bool sm]) ∧ RdInts .i64 w' W.heap.size w'.heap.size (.slice A zi.pos.length c) zi.pos ∧ W.grownBy w' none)) := Lib.hid fun W A c h => by
      have e := GetItem_fresh (c := c) (q := y.item.key) h
      rw [s2] at e
      unfold M.effect at e
      by_cases hk : y.kind = 1
      · rw [if_pos hk] at e hzi
        rw [hzi, hsm, hk]
        exact e
      · rw [if_neg hk] at e hzi
        have hf : (y.kind == 1) = false := beq_eq_false_iff_ne.2 hk
        rw [hzi, hsm, hf]
        exact e
    have HZI : Hid (sm = true → zi = y.item) := Lib.hid fun h => by
      rw [hsm] at h
      rw [hzi, if_pos (beq_iff_eq.1 h)]
    have HSM := Lib.hid hsm
    have hw : IntKind.i64.wrap (t - 1) = t - 1 := IntWalk.i64_in _ (by omega)
    clear e1 e2 e3 e4 e5 e6 e7 i1 i2 vg hK hK1 s1 s2 hsm hzi
    try clear k0 k1 k2 k3
    have k0 := N.out.cell 0
    have k1 := N.out.cell 1
    have k2 := N.out.cell 2
    have k3 := N.out.cell 3
    simp only [List.getElem?_cons_zero, List.getElem?_cons_succ] at k0 k1 k2 k3
    have HCE : Hid (∀ V, W.grownBy V none → V.cell? ⟨hy2, 0, none⟩ = some (.slice A2 l2.length c2) ∧ V.cell? ⟨hy2, 1, none⟩ = some (.slice B2 ts2.length d2) ∧ V.cell? ⟨hb + 1, 1, none⟩ = some (.int .i64 y.item.key)) := Lib.hid fun V hV => ⟨hV.cell p0 (by simp), hV.cell p1 (by simp), hV.cell k1 (by simp)⟩
    have HB1 := Lib.hid (World.grownBy_alloc W (.cells #[.int .i64 0, .slice none 0 0, .int .i64 0] 28) none)
    go_wp2_with fail
    go_cut [10, 11] (fun s10 s11 wx => ∃ (hx : Nat) (Ax : Option Addr) (cx : Nat), s10 = .pointer (some ⟨hx, 0, none⟩) ∧ s11 = .bool sm ∧ Row wx hx 28 [.int .i64 zi.key, .slice Ax zi.pos.length cx, .int .i64 zi.tags] ∧ RdInts .i64 wx 0 wx.heap.size (.slice Ax zi.pos.length cx) zi.pos ∧ W.grownBy wx none)
    case first =>
      go_region_held3 (fun V => V.cell? ⟨hy2, 0, none⟩ = some (.slice A2 l2.length c2) ∧ V.cell? ⟨hy2, 1, none⟩ = some (.slice B2 ts2.length d2) ∧ V.cell? ⟨hb + 1, 1, none⟩ = some (.int .i64 y.item.key))
        (first | exact HCE.out _ (gb_setCell (gb_setCell (gb_setCell S6.out (.inl (Nat.le_refl _)) _) (.inl (Nat.le_refl _)) _) (.inl (Nat.le_refl _)) _) | exact HCE.out _ (gb_setCell (gb_setCell (gb_setCell S6.out (.inl S5.out.size) _) (.inl S5.out.size) _) (.inl S5.out.size) _) | exact HCE.out _ S6.out | exact HCE.out _ (gb_alloc S6.out _) | exact HCE.out _ S5.out | exact HCE.out _ (gb_alloc S5.out _) | exact HCE.out _ (gb_drew (gb_refl _ _)) | exact HCE.out _ (gb_drew HB1.out) | exact HCE.out _ HB1.out)
        (first
          | (go_at_call 15; refine (HG.out _ _ c5 (P5.out.on (World.grownBy_alloc w5 (.cells #[.int .i64 0, .slice none 0 0, .int .i64 0] 28) none))).mono ?_; rintro e w6 ⟨Ax, cx, rfl, hx, hg⟩; have RX := Lib.hid (show RdInts .i64 w6 (w5.alloc (.cells #[.int .i64 0, .slice none 0 0, .int .i64 0] 28)).heap.size w6.heap.size (.slice Ax zi.pos.length cx) zi.pos from hx); have S6 : Hid (W.grownBy w6 none) := Lib.hid (gb_trans (gb_alloc S5.out (.cells #[.int .i64 0, .slice none 0 0, .int .i64 0] 28)) hg); have C6 := Lib.hid ((Row.new w5 28 (ca := #[.int .i64 0, .slice none 0 0, .int .i64 0]) rfl).on hg); have b0 := C6.out.cell 0; have b1 := C6.out.cell 1; have b2 := C6.out.cell 2; have bf0 := C6.out.frozen 0; have bf1 := C6.out.frozen 1; have bf2 := C6.out.frozen 2; simp only [List.getElem?_cons_zero, List.getElem?_cons_succ] at b0 b1 b2; clear hx hg)
          | (go_at_call 15; have B5' := B5.out; refine (HG.out _ _ c5 P5.out).mono ?_; rintro e w6 ⟨Ax, cx, rfl, hx, hg⟩; have RX := Lib.hid (show RdInts .i64 w6 w5.heap.size w6.heap.size (.slice Ax zi.pos.length cx) zi.pos from hx); have S6 : Hid (W.grownBy w6 none) := Lib.hid (gb_trans S5.out hg); have B6 := Lib.hid (B5.out.on hg); have b0 := B6.out.cell 0; have b1 := B6.out.cell 1; have b2 := B6.out.cell 2; have bf0 := B6.out.frozen 0; have bf1 := B6.out.frozen 1; have bf2 := B6.out.frozen 2; simp only [List.getElem?_cons_zero, List.getElem?_cons_succ] at b0 b1 b2; clear hx hg B5')
          | (go_at_call 15; refine (HG.out _ _ c5 P5.out).mono ?_; rintro e w6 ⟨Ax, cx, rfl, hx, hg⟩; have RX := Lib.hid (show RdInts .i64 w6 w5.heap.size w6.heap.size (.slice Ax zi.pos.length cx) zi.pos from hx); have S6 : Hid (W.grownBy w6 none) := Lib.hid (gb_trans S5.out hg); have N6 := Lib.hid hg; clear hx hg)
          | (go_at_call 16; refine (HA.out W.drew (F.out.on (gb_drew (gb_refl _ _)))).mono ?_; rintro e w5 ⟨A5, c5, rfl, hc5, hs, hg⟩; have P5 := Lib.hid hs; have S5 : Hid (W.grownBy w5 none) := Lib.hid (gb_trans (gb_drew (gb_refl W none)) hg); clear hc5 hs hg)
          | (go_at_call 16; refine (HA.out (W.alloc (.cells #[.int .i64 0, .slice none 0 0, .int .i64 0] 28)).drew (F.out.on (gb_drew HB1.out))).mono ?_; rintro e w5 ⟨A5, c5, rfl, hc5, hs, hg⟩; have P5 := Lib.hid hs; have S5 : Hid (W.grownBy w5 none) := Lib.hid (gb_trans (gb_drew HB1.out) hg); have B5 := Lib.hid ((Row.new W 28 (ca := #[.int .i64 0, .slice none 0 0, .int .i64 0]) rfl).on (gb_trans (gb_drew (gb_refl _ none)) hg)); clear hc5 hs hg))
      all_goals
        go_wp2_with fail
        go_meet
        first
          | (have q9 := N6.out
             exact ⟨_, Ax, cx, rfl, rfl, Row.new w6 28 rfl, (RX.out.keep (World.grownBy_alloc w6 _ none) (Nat.le_refl _)).wide (Nat.zero_le _) (World.grownBy_alloc w6 _ none).size, gb_alloc S6.out _⟩)
          | (have q9 := B6.out
             have ha := (((Agree.refl w5.heap.size w6.heap.size w6).set_ (p := ⟨W.heap.size, 0, none⟩) (.inl B5.out.lt) (.int .i64 zi.key)).set_ (p := ⟨W.heap.size, 1, none⟩) (.inl B5.out.lt) (.slice Ax zi.pos.length cx)).set_ (p := ⟨W.heap.size, 2, none⟩) (.inl B5.out.lt) (.int .i64 zi.tags)
             exact ⟨_, Ax, cx, rfl, rfl, ((q9.set_ 0 _).set_ 1 _).set_ 2 _, (RX.out.agree ha).wide (Nat.zero_le _) (by simp), gb_setCell (gb_setCell (gb_setCell S6.out (.inl (Nat.le_refl _)) _) (.inl (Nat.le_refl _)) _) (.inl (Nat.le_refl _)) _⟩)
          | (have q9 := C6.out
             have hlo : w5.heap.size < (w5.alloc (.cells #[.int .i64 0, .slice none 0 0, .int .i64 0] 28)).heap.size := by simp
             have ha := (((Agree.refl (w5.alloc (.cells #[.int .i64 0, .slice none 0 0, .int .i64 0] 28)).heap.size w6.heap.size w6).set_ (p := ⟨w5.heap.size, 0, none⟩) (.inl hlo) (.int .i64 zi.key)).set_ (p := ⟨w5.heap.size, 1, none⟩) (.inl hlo) (.slice Ax zi.pos.length cx)).set_ (p := ⟨w5.heap.size, 2, none⟩) (.inl hlo) (.int .i64 zi.tags)
             exact ⟨_, Ax, cx, rfl, rfl, ((q9.set_ 0 _).set_ 1 _).set_ 2 _, (RX.out.agree ha).wide (Nat.zero_le _) (by simp), gb_setCell (gb_setCell (gb_setCell S6.out (.inl S5.out.size) _) (.inl S5.out.size) _) (.inl S5.out.size) _⟩)
    case rest =>
      obtain ⟨hx, Ax, cx, rfl, rfl, hrx, hrv, hg⟩ := hcut
      have Z9 := Lib.hid hrx
      have RX := Lib.hid hrv
      replace D := Lib.hid (D.out.on hg)
      replace X := Lib.hid (X.out.on hg)
      replace N := Lib.hid (N.out.on hg)
      replace U := Lib.hid (U.out.on hg)
      replace F := Lib.hid (F.out.on hg)
      replace Y := Lib.hid (Y.out.on hg)
      replace G := Lib.hid (gb_trans G.out hg)
      clear hrx hrv hg HCE HB1 p0 p1 k0 k1 k2 k3
      have p0 := Y.out.cell 0
      have p1 := Y.out.cell 1
      have q0 := X.out.cell 0
      have q1 := X.out.cell 1
      have k0 := N.out.cell 0
      have k1 := N.out.cell 1
      have k2 := N.out.cell 2
      have k3 := N.out.cell 3
      have x0 := Z9.out.cell 0
      have x1 := Z9.out.cell 1
      have x2 := Z9.out.cell 2
      simp only [List.getElem?_cons_zero, List.getElem?_cons_succ] at p0 p1 q0 q1 k0 k1 k2 k3 x0 x1 x2
      have HCE : Hid (∀ V, wc.grownBy V none → V.cell? ⟨hy2, 0, none⟩ = some (.slice A2 l2.length c2) ∧ V.cell? ⟨hy2, 1, none⟩ = some (.slice B2 ts2.length d2) ∧ V.cell? ⟨hb, 0, none⟩ = some (.slice A1 l.length c1) ∧ V.cell? ⟨hb, 1, none⟩ = some (.slice B1 ts.length d1) ∧ V.cell? ⟨hb + 1, 0, none⟩ = some (.int .i64 y.kind) ∧ V.cell? ⟨hb + 1, 1, none⟩ = some (.int .i64 y.item.key) ∧ V.cell? ⟨hb + 1, 2, none⟩ = some (.slice Ay y.item.pos.length cy) ∧ V.cell? ⟨hb + 1, 3, none⟩ = some (.int .i64 y.item.tags) ∧ V.cell? ⟨hx, 0, none⟩ = some (.int .i64 zi.key) ∧ V.cell? ⟨hx, 1, none⟩ = some (.slice Ax zi.pos.length cx) ∧ V.cell? ⟨hx, 2, none⟩ = some (.int .i64 zi.tags)) := Lib.hid fun V hV => ⟨hV.cell p0 (by simp), hV.cell p1 (by simp), hV.cell q0 (by simp), hV.cell q1 (by simp), hV.cell k0 (by simp), hV.cell k1 (by simp), hV.cell k2 (by simp), hV.cell k3 (by simp), hV.cell x0 (by simp), hV.cell x1 (by simp), hV.cell x2 (by simp)⟩
      have HE : Hid (sm = true → ∀ V, wc.grownBy V none → Calls Try.prog 18 #[.agg #[.int .i64 zi.key, .slice Ax zi.pos.length cx, .int .i64 zi.tags], .agg #[.int .i64 y.item.key, .slice Ay y.item.pos.length cy, .int .i64 y.item.tags]] V fun e w' => e = .returned (.bool true) ∧ V.grownBy w' none) := Lib.hid fun h V hV => by
        have hz := HZI.out h
        have h1 := RX.out.on hV
        have h2 := U.out.on hV
        rw [hz] at h1 ⊢
        have e := equalItem_any V _ _ 0 V.heap.size 0 V.heap.size y.item y.item hyl' h1 h2 (Nat.le_refl _) (Nat.le_refl _)
        rwa [eqItemB_self] at e
      have hk9 : (y.kind == 1) = sm := HSM.out.symm
      have hk8 : (y.kind != 1) = !sm := by rw [← hk9]; rfl
      cases sm
      · go_wp2_with fail
        refine wp_region_held_drew (S := (fun V => V.cell? ⟨hy2, 0, none⟩ = some (.slice A2 l2.length c2) ∧ V.cell? ⟨hy2, 1, none⟩ = some (.slice B2 ts2.length d2) ∧ V.cell? ⟨hb, 0, none⟩ = some (.slice A1 l.length c1) ∧ V.cell? ⟨hb, 1, none⟩ = some (.slice B1 ts.length d1) ∧ V.cell? ⟨hb + 1, 0, none⟩ = some (.int .i64 y.kind) ∧ V.cell? ⟨hb + 1, 1, none⟩ = some (.int .i64 y.item.key) ∧ V.cell? ⟨hb + 1, 2, none⟩ = some (.slice Ay y.item.pos.length cy) ∧ V.cell? ⟨hb + 1, 3, none⟩ = some (.int .i64 y.item.tags) ∧ V.cell? ⟨hx, 0, none⟩ = some (.int .i64 zi.key) ∧ V.cell? ⟨hx, 1, none⟩ = some (.slice Ax zi.pos.length cx) ∧ V.cell? ⟨hx, 2, none⟩ = some (.int .i64 zi.tags))) (by kernel_rfl) ?_ (fun hHeld => ?_)
        · (try dsimp only)
          first | exact HCE.out _ S9.out | exact HCE.out _ S8.out | exact HCE.out _ S7.out | exact HCE.out _ S6.out | exact HCE.out _ S5.out | exact HCE.out _ (gb_drew (gb_refl _ _))
        refine region_take (i := 0) (v := ?_) rfl (by kernel_rfl) (by kernel_rfl) (by kernel_rfl) (fun _ _ _ h => h) (by rfl) (by assumption) ?_ ?_
        rotate_left
        · (intro w hSw; (try dsimp only at hSw); go_simp)
          try with_reducible rfl
        try simp only [Act.put, List.setIfInBounds_toArray, List.set_cons_zero, List.set_cons_succ]
        refine region_take (i := 1) (v := ?_) rfl (by kernel_rfl) (by kernel_rfl) (by kernel_rfl) (fun _ _ _ h => h) (by rfl) (by assumption) ?_ ?_
        rotate_left
        · (intro w hSw; (try dsimp only at hSw); go_simp)
          try with_reducible rfl
        try simp only [Act.put, List.setIfInBounds_toArray, List.set_cons_zero, List.set_cons_succ]
        refine region_take (i := 2) (v := ?_) rfl (by kernel_rfl) (by kernel_rfl) (by kernel_rfl) (fun _ _ _ h => h) (by rfl) (by assumption) ?_ ?_
        rotate_left
        · (intro w hSw; (try dsimp only at hSw); go_simp)
          try with_reducible rfl
        try simp only [Act.put, List.setIfInBounds_toArray, List.set_cons_zero, List.set_cons_succ]
        refine region_take (i := 4) (v := ?_) rfl (by kernel_rfl) (by kernel_rfl) (by kernel_rfl) (fun _ _ _ h => h) (by rfl) (by assumption) ?_ ?_
        rotate_left
        · (intro w hSw; (try dsimp only at hSw); go_simp)
          try with_reducible rfl
        try simp only [Act.put, List.setIfInBounds_toArray, List.set_cons_zero, List.set_cons_succ]
        refine region_take (i := 5) (v := ?_) rfl (by kernel_rfl) (by kernel_rfl) (by kernel_rfl) (fun _ _ _ h => h) (by rfl) (by assumption) ?_ ?_
        rotate_left
        · (intro w hSw; (try dsimp only at hSw); go_simp)
          try with_reducible rfl
        try simp only [Act.put, List.setIfInBounds_toArray, List.set_cons_zero, List.set_cons_succ]
        refine region_take (i := 6) (v := ?_) rfl (by kernel_rfl) (by kernel_rfl) (by kernel_rfl) (fun _ _ _ h => h) (by rfl) (by assumption) ?_ ?_
        rotate_left
        · (intro w hSw; (try dsimp only at hSw); go_simp)
          try with_reducible rfl
        try simp only [Act.put, List.setIfInBounds_toArray, List.set_cons_zero, List.set_cons_succ]
        refine wpAnyH_ready (rs := [3]) (by kernel_rfl) (by simp) ?_
        refine region_cons (i := 3) rfl (fun K hK => ?_) AllReadyH.nil
        go_simp
        go_at_call 16; refine (HB.out wc.drew (F.out.on (gb_drew (gb_refl _ _)))).mono ?_; rintro e w5 ⟨A5, c5, rfl, hc5, hs, hg⟩; have P5 := Lib.hid hs; have S5 : Hid (wc.grownBy w5 none) := Lib.hid (gb_trans (gb_drew (gb_refl wc none)) hg); clear hc5 hs hg
        first | (go_wp2_with fail) | skip
        refine hK.out _ _ ?_ (fun hHeld9 => ?_)
        · (try dsimp only)
          first | exact HCE.out _ S9.out | exact HCE.out _ S8.out | exact HCE.out _ S7.out | exact HCE.out _ S6.out | exact HCE.out _ S5.out | exact HCE.out _ (gb_drew (gb_refl _ _))
        clear hK K hHeld
        have hHeld := hHeld9
        clear hHeld9
        try simp only [Act.put, List.setIfInBounds_toArray, List.set_cons_zero, List.set_cons_succ]
        refine wpAnyH_ready (rs := [7]) (by kernel_rfl) (by simp) ?_
        refine region_cons (i := 7) rfl (fun K hK => ?_) AllReadyH.nil
        go_simp
        go_at_call 16; refine (HC.out _ (D.out.on S5.out)).mono ?_; rintro e w6 ⟨A6, c6, rfl, hc6, hs, hg⟩; have P6 := Lib.hid hs; have G6 := Lib.hid hg; have S6 : Hid (wc.grownBy w6 none) := Lib.hid (gb_trans S5.out hg); clear hc6 hs hg
        first | (go_wp2_with fail) | skip
        refine hK.out _ _ ?_ (fun hHeld9 => ?_)
        · (try dsimp only)
          first | exact HCE.out _ S9.out | exact HCE.out _ S8.out | exact HCE.out _ S7.out | exact HCE.out _ S6.out | exact HCE.out _ S5.out | exact HCE.out _ (gb_drew (gb_refl _ _))
        clear hK K hHeld
        have hHeld := hHeld9
        clear hHeld9
        try simp only [Act.put, List.setIfInBounds_toArray, List.set_cons_zero, List.set_cons_succ]
        refine wpAnyH_ready (rs := [8]) (by kernel_rfl) (by simp) ?_
        refine region_cons (i := 8) rfl (fun K hK => ?_) AllReadyH.nil
        go_simp
        go_at_call 17; refine (eqi_same (P5.out.on G6.out) P6.out).mono ?_; rintro e w7 ⟨rfl, hg⟩; have S7 : Hid (wc.grownBy w7 none) := Lib.hid (gb_trans S6.out hg); clear hg
        first | (go_wp2_with fail) | skip
        refine hK.out _ _ ?_ (fun hHeld9 => ?_)
        · (try dsimp only)
          first | exact HCE.out _ S9.out | exact HCE.out _ S8.out | exact HCE.out _ S7.out | exact HCE.out _ S6.out | exact HCE.out _ S5.out | exact HCE.out _ (gb_drew (gb_refl _ _))
        clear hK K hHeld
        have hHeld := hHeld9
        clear hHeld9
        try simp only [Act.put, List.setIfInBounds_toArray, List.set_cons_zero, List.set_cons_succ]
        refine region_take (i := 9) (v := ?_) rfl (by kernel_rfl) (by kernel_rfl) (by kernel_rfl) (fun _ _ _ h => h) (by rfl) (by assumption) ?_ ?_
        rotate_left
        · (intro w hSw; (try dsimp only at hSw); go_simp)
          try with_reducible rfl
        try simp only [Act.put, List.setIfInBounds_toArray, List.set_cons_zero, List.set_cons_succ]
        refine region_take (i := 10) (v := ?_) rfl (by kernel_rfl) (by kernel_rfl) (by kernel_rfl) (fun _ _ _ h => h) (by rfl) (by assumption) ?_ ?_
        rotate_left
        · (intro w hSw; (try dsimp only at hSw); go_simp)
          try with_reducible rfl
        try simp only [Act.put, List.setIfInBounds_toArray, List.set_cons_zero, List.set_cons_succ]
        refine region_take (i := 11) (v := ?_) rfl (by kernel_rfl) (by kernel_rfl) (by kernel_rfl) (fun _ _ _ h => h) (by rfl) (by assumption) ?_ ?_
        rotate_left
        · (intro w hSw; (try dsimp only at hSw); go_simp)
          try with_reducible rfl
        try simp only [Act.put, List.setIfInBounds_toArray, List.set_cons_zero, List.set_cons_succ]
        refine region_take (i := 12) (v := ?_) rfl (by kernel_rfl) (by kernel_rfl) (by kernel_rfl) (fun _ _ _ h => h) (by rfl) (by assumption) ?_ ?_
        rotate_left
        · (intro w hSw; (try dsimp only at hSw); go_simp)
          try with_reducible rfl
        try simp only [Act.put, List.setIfInBounds_toArray, List.set_cons_zero, List.set_cons_succ]
        refine region_take (i := 13) (v := ?_) rfl (by kernel_rfl) (by kernel_rfl) (by kernel_rfl) (fun _ _ _ h => h) (by rfl) (by assumption) ?_ ?_
        rotate_left
        · (intro w hSw; (try dsimp only at hSw); go_simp)
          try with_reducible rfl
        try simp only [Act.put, List.setIfInBounds_toArray, List.set_cons_zero, List.set_cons_succ]
        refine region_take (i := 14) (v := ?_) rfl (by kernel_rfl) (by kernel_rfl) (by kernel_rfl) (fun _ _ _ h => h) (by rfl) (by assumption) ?_ ?_
        rotate_left
        · (intro w hSw; (try dsimp only at hSw); go_simp)
          try with_reducible rfl
        try simp only [Act.put, List.setIfInBounds_toArray, List.set_cons_zero, List.set_cons_succ]
        refine region_take (i := 15) (v := ?_) rfl (by kernel_rfl) (by kernel_rfl) (by kernel_rfl) (fun _ _ _ h => h) (by rfl) (by assumption) ?_ ?_
        rotate_left
        · (intro w hSw; (try dsimp only at hSw); go_simp)
          try with_reducible rfl
        try simp only [Act.put, List.setIfInBounds_toArray, List.set_cons_zero, List.set_cons_succ]
        refine region_take (i := 16) (v := ?_) rfl (by kernel_rfl) (by kernel_rfl) (by kernel_rfl) (fun _ _ _ h => h) (by rfl) (by assumption) ?_ ?_
        rotate_left
        · (intro w hSw; (try dsimp only at hSw); go_simp)
          try with_reducible rfl
        try simp only [Act.put, List.setIfInBounds_toArray, List.set_cons_zero, List.set_cons_succ]
        refine region_take (i := 17) (v := ?_) rfl (by kernel_rfl) (by kernel_rfl) (by kernel_rfl) (fun _ _ _ h => h) (by rfl) (by assumption) ?_ ?_
        rotate_left
        · (intro w hSw; (try dsimp only at hSw); go_simp)
          try with_reducible rfl
        try simp only [Act.put, List.setIfInBounds_toArray, List.set_cons_zero, List.set_cons_succ]
        refine region_take (i := 18) (v := ?_) rfl (by kernel_rfl) (by kernel_rfl) (by kernel_rfl) (fun _ _ _ h => h) (by rfl) (by assumption) ?_ ?_
        rotate_left
        · (intro w hSw; (try dsimp only at hSw); go_simp)
          try with_reducible rfl
        try simp only [Act.put, List.setIfInBounds_toArray, List.set_cons_zero, List.set_cons_succ]
        refine region_take (i := 19) (v := ?_) rfl (by kernel_rfl) (by kernel_rfl) (by kernel_rfl) (fun _ _ _ h => h) (by rfl) (by assumption) ?_ ?_
        rotate_left
        · (intro w hSw; (try dsimp only at hSw); go_simp)
          try with_reducible rfl
        try simp only [Act.put, List.setIfInBounds_toArray, List.set_cons_zero, List.set_cons_succ]
        refine region_skip (i := 20) rfl (by kernel_rfl) (by kernel_rfl) (by kernel_rfl) (fun _ _ _ h => h) (by rfl) (by assumption) ?_
        try simp only [Act.put, List.setIfInBounds_toArray, List.set_cons_zero, List.set_cons_succ]
        refine region_skip (i := 21) rfl (by kernel_rfl) (by kernel_rfl) (by kernel_rfl) (fun _ _ _ h => h) (by rfl) (by assumption) ?_
        try simp only [Act.put, List.setIfInBounds_toArray, List.set_cons_zero, List.set_cons_succ]
        refine region_skip (i := 22) rfl (by kernel_rfl) (by kernel_rfl) (by kernel_rfl) (fun _ _ _ h => h) (by rfl) (by assumption) ?_
        try simp only [Act.put, List.setIfInBounds_toArray, List.set_cons_zero, List.set_cons_succ]
        refine wpAnyH_ready (rs := [23]) (by kernel_rfl) (by simp) ?_
        refine region_cons (i := 23) rfl (fun K hK => ?_) AllReadyH.nil
        refine skip_op rfl ?_
        refine hK.out _ _ ?_ (fun hHeld9 => ?_)
        · (try dsimp only)
          first | exact HCE.out _ S9.out | exact HCE.out _ S8.out | exact HCE.out _ S7.out | exact HCE.out _ S6.out | exact HCE.out _ S5.out | exact HCE.out _ (gb_drew (gb_refl _ _))
        clear hK K hHeld
        have hHeld := hHeld9
        clear hHeld9
        try simp only [Act.put, List.setIfInBounds_toArray, List.set_cons_zero, List.set_cons_succ]
        refine region_take (i := 24) (v := ?_) rfl (by kernel_rfl) (by kernel_rfl) (by kernel_rfl) (fun _ _ _ h => h) (by rfl) (by assumption) ?_ ?_
        rotate_left
        · (intro w hSw; (try dsimp only at hSw); go_simp)
          try with_reducible rfl
        try simp only [Act.put, List.setIfInBounds_toArray, List.set_cons_zero, List.set_cons_succ]
        refine region_take (i := 25) (v := ?_) rfl (by kernel_rfl) (by kernel_rfl) (by kernel_rfl) (fun _ _ _ h => h) (by rfl) (by assumption) ?_ ?_
        rotate_left
        · (intro w hSw; (try dsimp only at hSw); go_simp)
          try with_reducible rfl
        try simp only [Act.put, List.setIfInBounds_toArray, List.set_cons_zero, List.set_cons_succ]
        refine region_take (i := 26) (v := ?_) rfl (by kernel_rfl) (by kernel_rfl) (by kernel_rfl) (fun _ _ _ h => h) (by rfl) (by assumption) ?_ ?_
        rotate_left
        · (intro w hSw; (try dsimp only at hSw); go_simp)
          try with_reducible rfl
        try simp only [Act.put, List.setIfInBounds_toArray, List.set_cons_zero, List.set_cons_succ]
        refine region_take (i := 27) (v := ?_) rfl (by kernel_rfl) (by kernel_rfl) (by kernel_rfl) (fun _ _ _ h => h) (by rfl) (by assumption) ?_ ?_
        rotate_left
        · (intro w hSw; (try dsimp only at hSw); go_simp)
          try with_reducible rfl
        try simp only [Act.put, List.setIfInBounds_toArray, List.set_cons_zero, List.set_cons_succ]
        refine wpAnyH_ready (rs := [28]) (by kernel_rfl) (by simp) ?_
        refine region_cons (i := 28) rfl (fun K hK => ?_) AllReadyH.nil
        go_simp
        go_at_call 19; refine (HV.out _ (F.out.on S7.out)).mono ?_; rintro e w9 ⟨rfl, hg⟩; have S9 : Hid (wc.grownBy w9 none) := Lib.hid (gb_trans S7.out hg); clear hg
        first | (go_wp2_with fail) | skip
        refine hK.out _ _ ?_ (fun hHeld9 => ?_)
        · (try dsimp only)
          first | exact HCE.out _ S9.out | exact HCE.out _ S8.out | exact HCE.out _ S7.out | exact HCE.out _ S6.out | exact HCE.out _ S5.out | exact HCE.out _ (gb_drew (gb_refl _ _))
        clear hK K hHeld
        have hHeld := hHeld9
        clear hHeld9
        try simp only [Act.put, List.setIfInBounds_toArray, List.set_cons_zero, List.set_cons_succ]
        refine region_take (i := 29) (v := ?_) rfl (by kernel_rfl) (by kernel_rfl) (by kernel_rfl) (fun _ _ _ h => h) (by rfl) (by assumption) ?_ ?_
        rotate_left
        · (intro w hSw; (try dsimp only at hSw); go_simp)
          try with_reducible rfl
        try simp only [Act.put, List.setIfInBounds_toArray, List.set_cons_zero, List.set_cons_succ]
        refine region_take (i := 30) (v := ?_) rfl (by kernel_rfl) (by kernel_rfl) (by kernel_rfl) (fun _ _ _ h => h) (by rfl) (by assumption) ?_ ?_
        rotate_left
        · (intro w hSw; (try dsimp only at hSw); go_simp)
          try with_reducible rfl
        try simp only [Act.put, List.setIfInBounds_toArray, List.set_cons_zero, List.set_cons_succ]
        refine wpAnyH_done (by kernel_rfl) ?_ _
        go_wp2_with fail
        go_ret
        exact ⟨rfl, gb_trans G.out S9.out⟩
      · go_wp2_with fail
        go_region_held3 (fun V => V.cell? ⟨hy2, 0, none⟩ = some (.slice A2 l2.length c2) ∧ V.cell? ⟨hy2, 1, none⟩ = some (.slice B2 ts2.length d2) ∧ V.cell? ⟨hb, 0, none⟩ = some (.slice A1 l.length c1) ∧ V.cell? ⟨hb, 1, none⟩ = some (.slice B1 ts.length d1) ∧ V.cell? ⟨hb + 1, 0, none⟩ = some (.int .i64 y.kind) ∧ V.cell? ⟨hb + 1, 1, none⟩ = some (.int .i64 y.item.key) ∧ V.cell? ⟨hb + 1, 2, none⟩ = some (.slice Ay y.item.pos.length cy) ∧ V.cell? ⟨hb + 1, 3, none⟩ = some (.int .i64 y.item.tags) ∧ V.cell? ⟨hx, 0, none⟩ = some (.int .i64 zi.key) ∧ V.cell? ⟨hx, 1, none⟩ = some (.slice Ax zi.pos.length cx) ∧ V.cell? ⟨hx, 2, none⟩ = some (.int .i64 zi.tags))
          (first | exact HCE.out _ S9.out | exact HCE.out _ S8.out | exact HCE.out _ S7.out | exact HCE.out _ S6.out | exact HCE.out _ S5.out | exact HCE.out _ (gb_drew (gb_refl _ _)))
          (first
            | (go_at_call 19; refine (HV.out _ (F.out.on S8.out)).mono ?_; rintro e w9 ⟨rfl, hg⟩; have S9 : Hid (wc.grownBy w9 none) := Lib.hid (gb_trans S8.out hg); clear hg)
            | (go_at_call 19; refine (HV.out _ (F.out.on S7.out)).mono ?_; rintro e w9 ⟨rfl, hg⟩; have S9 : Hid (wc.grownBy w9 none) := Lib.hid (gb_trans S7.out hg); clear hg)
            | (go_at_call 18; refine (HE.out (by trivial) _ S7.out).mono ?_; rintro e w8 ⟨rfl, hg⟩; have S8 : Hid (wc.grownBy w8 none) := Lib.hid (gb_trans S7.out hg); clear hg)
            | (go_at_call 17; refine (eqi_same (P5.out.on G6.out) P6.out).mono ?_; rintro e w7 ⟨rfl, hg⟩; have S7 : Hid (wc.grownBy w7 none) := Lib.hid (gb_trans S6.out hg); clear hg)
            | (go_at_call 16; refine (HC.out _ (D.out.on S5.out)).mono ?_; rintro e w6 ⟨A6, c6, rfl, hc6, hs, hg⟩; have P6 := Lib.hid hs; have G6 := Lib.hid hg; have S6 : Hid (wc.grownBy w6 none) := Lib.hid (gb_trans S5.out hg); clear hc6 hs hg)
            | (go_at_call 16; refine (HB.out wc.drew (F.out.on (gb_drew (gb_refl _ _)))).mono ?_; rintro e w5 ⟨A5, c5, rfl, hc5, hs, hg⟩; have P5 := Lib.hid hs; have S5 : Hid (wc.grownBy w5 none) := Lib.hid (gb_trans (gb_drew (gb_refl wc none)) hg); clear hc5 hs hg))
        go_wp2_with fail
        go_ret
        exact ⟨rfl, gb_trans G.out S9.out⟩
end fnAddEntry
/-! the row's step -/
namespace fnAddEntry
set_option maxRecDepth 100000 in
theorem lifted (os : Os) (started : os.Started) (H : Type) (enc : TypeId × Value → H) :
    ReturnsInHanded {} Try.checked os 3 .any (Rows.fnAddEntrySpec.pre6 enc Try.prog Try.f3 Rows.fnAddEntryRow.domain false) (Rows.fnAddEntrySpec.post enc Try.prog Try.f3 false true false false) := by
  refine returnsInHanded_of_change (C := Try.checked) own started (by kernel_rfl) Try.func3
    (ChangeSpec.witness6 (enc := enc) (C := Try.checked) false ⟨#[], #[.slice none 0 0], []⟩ 8 (by kernel_rfl) (by kernel_rfl) (by kernel_rfl) (by kernel_rfl)) ?_
  intro W base args ds gs before hval0 hW hcnd _
  have hval : ∀ (j : Nat) t v, Try.f3.params[j]? = some t → args[j]? = some v → Value.okWide Try.prog W .any base t v := hval0
  have hW' := hW
  obtain ⟨p, q, hA0, hV, rfl, hfz, hnd⟩ := hW
  have hA : DataW.TrodAll enc Try.prog W 0 (fun _ => true) true Try.f3.params.toList args.toList ds p := hA0
  rw [Try.params3] at hA hval
  obtain ⟨v0, vs0, d0, ds0, p0, q0, hargs, rfl, rfl, h0, r0⟩ := trodAll_cons hA
  obtain ⟨rfl, rfl, rfl⟩ := trodAll_nil r0
  obtain rfl : args = #[v0] := by cases args; simp_all
  obtain ⟨rfl, rfl⟩ := trodVars_none hV
  obtain ⟨a0, len0, cap0, rfl⟩ := okWide_slice Try.underlying22 (hval 0 22 v0 rfl rfl)
  have k0 := h0
  have lt0 : ∀ x ∈ p0, x.block < W.heap.size := by obtain ⟨m, hm⟩ := k0; exact DataW.trod_lt m _ _ _ hm
  obtain ⟨L0, rfl, b00, b01, b02⟩ := code_row h0
  clear hA0 hval0
  refine (walk W a0 cap0 L0 b00 b01 b02).mono fun e W' ⟨he, bel0⟩ => ?_
  have bel := gb_below bel0
  subst he
  exact ⟨_, rfl, _, _, _, [], _, [], hW', trodAll_mk1 (shut_bool Try.underlying4 _), (trodAll_cons_mk (Below.trod laidOut (by kernel_rfl) (of_decide_eq_true (by kernel_rfl)) k0 bel lt0) trodAll_mk0), rfl, bel.frame _, fun h => by cases h⟩
set_option maxRecDepth 100000 in
theorem over : Rows.fnAddEntryRow.holds Try.pinned (OpenSpec.ofChange Rows.fnAddEntrySpec) :=
  OpenClaim.holds_of_wide 3 Try.f3 rfl rfl rfl rfl rfl rfl rfl ⟨rfl, rfl, rfl, rfl, rfl⟩ rfl rfl rfl rfl rfl (by kernel_rfl) Try.func3 (by kernel_rfl)
    (of_decide_eq_true (by kernel_rfl)) (by unfold Func.isWrapper; first | (rw [if_pos (by decide +kernel)]; kernel_rfl) | (rw [if_neg (by decide +kernel)]; exact ⟨rfl, rfl⟩))
    (fun os started H enc _ => lifted os started H enc)
theorem proved : Rows.FnAddEntrySaid := over
end fnAddEntry
end Go.Proofs.Ythoakomccjjhbaa
