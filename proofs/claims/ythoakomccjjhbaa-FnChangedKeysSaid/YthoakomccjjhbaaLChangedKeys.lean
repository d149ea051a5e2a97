/- FnChangedKeys: changed keys are different: proved for every input, with no condition. -/
import Derived.Test.YthoakomccjjhbaaFrame
import Derived.Test.YthoakomccjjhbaaHisC
namespace Go.Proofs.Ythoakomccjjhbaa
open Go.ChangeShapes Go.WideShapes Go.ChangeAt Go.RowKit
set_option linter.unusedVariables false
set_option linter.unusedSimpArgs false
theorem RdInts.on' {k : IntKind} {w w' : World} {v : Value} {l : List Int} (h : RdInts k w 0 w.heap.size v l) (hg : w.grownBy w' none) : RdInts k w' 0 w'.heap.size v l := h.on hg
theorem eqB_sameB (x y : M.Item) : eqItemB x y = M.sameB x y := by rw [Bool.eq_iff_iff, eqItemB_iff, M.sameB_iff]
theorem differ_eq (r q : Option M.Item) : M.differ r q = !((r.isSome == q.isSome) && eqItemB (r.getD ⟨0, [], 0⟩) (q.getD ⟨0, [], 0⟩)) := by
  cases r with
  | none =>
    cases q with
    | none => rfl
    | some y => rfl
  | some x =>
    cases q with
    | none => rfl
    | some y =>
      show (!M.sameB x y) = !(true && eqItemB x y)
      rw [eqB_sameB, Bool.true_and]
theorem mem_changed {a b : List M.Item} {k : Int} (hk : 1 ≤ k ∧ k ≤ 99) : decide (k ∈ M.changed a b) = M.differ (M.get a k) (M.get b k) := by
  rw [Bool.eq_iff_iff, decide_eq_true_eq]
  unfold M.changed
  rw [List.mem_filter]
  exact ⟨fun h => h.2, fun h => ⟨M.mem_keys99.2 hk, h⟩⟩
theorem getD_small {L : List M.Item} (hs : Small L) (k : Int) : ((M.get L k).getD ⟨0, [], 0⟩).pos.length ≤ 1048576 := by
  rw [get_find]
  cases h : L.find? (fun x => decide (x.key = k)) with
  | none => exact Nat.zero_le _
  | some x => exact hs.2 x (List.mem_of_find?_eq_some h)
namespace fnChangedKeys
set_option maxRecDepth 100000 in
set_option maxHeartbeats 2000000 in
theorem walk (w : World) (A : Option Addr) (c : Nat) (bs : List Int) (h2 : bs.length ≤ c) (h3 : ∀ x ∈ bs, 0 ≤ x ∧ x ≤ 255) (h4 : Rd w 0 w.heap.size A (bs.map (.int .u8))) :
    Calls Try.prog 10 #[.slice A bs.length c] w fun e w' => e = .returned (.bool true) ∧ w.grownBy w' none := by
  have H2 := Lib.hid h2
  have H3 := Lib.hid h3
  have H4 := Lib.hid h4
  clear h2 h3 h4
  by_cases hb : bs.length ≤ 1048576
  rotate_left
  · have hb' : (1048576 : Int) < bs.length := by omega
    generalize bs.length = L at *
    go_enter Try.func10, Try.ntmps10
    go_wp2
    go_ret
    exact ⟨rfl, gb_refl _ _⟩
  have hb' : (bs.length : Int) ≤ 1048576 := by omega
  go_enter Try.func10, Try.ntmps10
  go_wp2_with fail
  refine (DrawChangedKeys_any w A c bs H2.out hb H3.out H4.out).mono ?_
  rintro e W ⟨h, A1, B1, c1, d1, s, t, rfl, hf, hs, hg⟩
  obtain ⟨l, ts⟩ := h
  have HF := Lib.hid hf
  obtain ⟨hlc, hld, hl1, hl2⟩ := hf
  change l.length ≤ c1 at hlc
  change ts.length ≤ d1 at hld
  change l.length ≤ 40 at hl1
  change ts.length ≤ 40 at hl2
  have D0 := Lib.hid (SeesGH.sees hs)
  have G0 := Lib.hid hg
  clear hs hg
  go_wp2_with fail
  refine calls_name (fun V => SeesH V A1 B1 ⟨l, ts⟩ ∧ Row V W.heap.size 26 [.slice A1 l.length c1, .slice B1 ts.length d1] ∧ w.grownBy V none ∧ W.grownBy V none) ⟨D0.out.on (World.grownBy_alloc W _ none), Row.new W _ rfl, gb_alloc G0.out _, World.grownBy_alloc W _ none⟩ ?_
  obtain ⟨hb, hhb⟩ : ∃ hb, hb = W.heap.size := ⟨_, rfl⟩
  rw [← hhb]
  rintro V ⟨hs, hx, hg, hv⟩
  have D := Lib.hid hs
  have X := Lib.hid hx
  have G := Lib.hid hg
  have GV := Lib.hid hv
  clear hs hx hg hv hhb
  obtain ⟨K, hK⟩ : ∃ K, K = M.ChangedKeys ⟨l, ts⟩ s t := ⟨_, rfl⟩
  have HK := Lib.hid hK
  have HI : Hid (∀ W, SeesH W A1 B1 ⟨l, ts⟩ → Calls Try.prog 37 #[.agg #[.slice A1 l.length c1, .slice B1 ts.length d1], .int .i64 s, .int .i64 t] W (GotN .i64 W K)) := Lib.hid fun W h => by rw [hK]; exact ck_impl h hld
  have HS : Hid (∀ W, SeesH W A1 B1 ⟨l, ts⟩ → Calls Try.prog 36 #[.agg #[.slice A1 l.length c1, .slice B1 ts.length d1], .int .i64 s, .int .i64 t] W (GotN .i64 W K)) := Lib.hid fun W h => by rw [hK]; exact ck_spec h hlc
  clear hK D0 G0 GV
  refine (HI.out _ D.out).mono ?_
  rintro e W ⟨A2, c2, rfl, hc2, hs, hg⟩
  replace D := Lib.hid (D.out.on hg)
  replace X := Lib.hid (X.out.on hg)
  replace G := Lib.hid (gb_trans G.out hg)
  clear hg
  have F := Lib.hid hs
  clear hs
  try clear q0 q1
  have q0 := X.out.cell 0
  have q1 := X.out.cell 1
  simp only [List.getElem?_cons_zero, List.getElem?_cons_succ] at q0 q1
  go_wp2_with fail
  refine (HS.out _ D.out).mono ?_
  rintro e W ⟨A3, c3, rfl, hc3, hs, hg⟩
  replace D := Lib.hid (D.out.on hg)
  replace X := Lib.hid (X.out.on hg)
  replace F := Lib.hid (F.out.on hg)
  replace G := Lib.hid (gb_trans G.out hg)
  clear hg
  have F' := Lib.hid hs
  clear hs
  go_wp2_with fail
  refine (ein_same F.out F'.out).mono ?_
  rintro e W ⟨rfl, hg⟩
  replace D := Lib.hid (D.out.on hg)
  replace X := Lib.hid (X.out.on hg)
  replace F := Lib.hid (F.out.on hg)
  replace G := Lib.hid (gb_trans G.out hg)
  clear hg
  try clear q0 q1
  have q0 := X.out.cell 0
  have q1 := X.out.cell 1
  simp only [List.getElem?_cons_zero, List.getElem?_cons_succ] at q0 q1
  by_cases hl0 : K.length = 0
  · have t0 : ((K.length : Int) == 0) = true := by rw [hl0]; rfl
    clear hl0
    go_wp2_with fail
    refine (HS.out _ D.out).mono ?_
    rintro e W ⟨A4, c4, rfl, hc4, hs, hg⟩
    replace D := Lib.hid (D.out.on hg)
    replace X := Lib.hid (X.out.on hg)
    replace F := Lib.hid (F.out.on hg)
    replace G := Lib.hid (gb_trans G.out hg)
    clear hg
    have F4 := Lib.hid hs
    clear hs
    go_wp2_with fail
    refine (ein_same F.out F4.out).mono ?_
    rintro e W ⟨rfl, hg⟩
    replace D := Lib.hid (D.out.on hg)
    replace G := Lib.hid (gb_trans G.out hg)
    clear hg
    go_wp2_with fail
    go_ret
    exact ⟨rfl, G.out⟩
  · have t0 : ((K.length : Int) == 0) = false := by rw [beq_eq_false_iff_ne]; omega
    have hcond : M.validHist ⟨l, ts⟩ = true ∧ (0 ≤ s ∧ s ≤ 1000) ∧ (0 ≤ t ∧ t ≤ 1000) := by
      by_cases hc : M.validHist ⟨l, ts⟩ = true ∧ M.inR s 0 1000 = true ∧ M.inR t 0 1000 = true
      · exact ⟨hc.1, M.inR_true hc.2.1, M.inR_true hc.2.2⟩
      · exfalso
        apply hl0
        rw [HK.out]
        unfold M.ChangedKeys
        rw [if_neg hc]
        rfl
    obtain ⟨hv, hs9, ht9⟩ := hcond
    obtain ⟨Sa, hSa⟩ : ∃ S, S = M.storeAt ⟨l, ts⟩ s := ⟨_, rfl⟩
    obtain ⟨Sb, hSb⟩ : ∃ S, S = M.storeAt ⟨l, ts⟩ t := ⟨_, rfl⟩
    have hva : M.validStore Sa = true := by rw [hSa]; exact M.store_valid _ _
    have hvb : M.validStore Sb = true := by rw [hSb]; exact M.store_valid _ _
    have hKc : K = M.changed Sa Sb := by rw [HK.out, ck_of hv hs9 ht9, hSa, hSb]
    have r1 : M.StoreAt ⟨l, ts⟩ s = Sa := by rw [sa_of hv hs9, hSa]
    have r2 : M.StoreAt ⟨l, ts⟩ t = Sb := by rw [sa_of hv ht9, hSb]
    have r3 : M.ChangedKeys ⟨l, ts⟩ t s = K := by rw [ck_of hv ht9 hs9, ← hSa, ← hSb, hKc]; exact M.changed_comm _ _
    have HA : Hid (∀ W, SeesH W A1 B1 ⟨l, ts⟩ → Calls Try.prog 16 #[.agg #[.slice A1 l.length c1, .slice B1 ts.length d1], .int .i64 s] W (GotI W Sa)) := Lib.hid fun W h => by rw [← r1]; exact sa_impl h hld
    have HB : Hid (∀ W, SeesH W A1 B1 ⟨l, ts⟩ → Calls Try.prog 16 #[.agg #[.slice A1 l.length c1, .slice B1 ts.length d1], .int .i64 t] W (GotI W Sb)) := Lib.hid fun W h => by rw [← r2]; exact sa_impl h hld
    have HC : Hid (∀ W, SeesH W A1 B1 ⟨l, ts⟩ → Calls Try.prog 37 #[.agg #[.slice A1 l.length c1, .slice B1 ts.length d1], .int .i64 t, .int .i64 s] W (GotN .i64 W K)) := Lib.hid fun W h => by rw [← r3]; exact ck_impl h hld
    have HGA : Hid (∀ q W A c, SeesI W A Sa → Calls Try.prog 15 #[.slice A Sa.length c, .int .i64 q] W (GotG W (M.get Sa q))) := Lib.hid fun q W A c h => by
      have e := GetItem_impl (c := c) (q := q) h
      unfold M.GetItem at e
      rwa [if_pos hva] at e
    have HGB : Hid (∀ q W A c, SeesI W A Sb → Calls Try.prog 15 #[.slice A Sb.length c, .int .i64 q] W (GotG W (M.get Sb q))) := Lib.hid fun q W A c h => by
      have e := GetItem_impl (c := c) (q := q) h
      unfold M.GetItem at e
      rwa [if_pos hvb] at e
    have HDI : Hid (∀ q, 1 ≤ q ∧ q ≤ 99 → decide (q ∈ K) = !(((M.get Sa q).isSome == (M.get Sb q).isSome) && eqItemB ((M.get Sa q).getD ⟨0, [], 0⟩) ((M.get Sb q).getD ⟨0, [], 0⟩))) := Lib.hid fun q hq => by rw [hKc, mem_changed hq, differ_eq]
    have HSA := Lib.hid (getD_small (Small.of_valid hva))
    have HSB := Lib.hid (getD_small (Small.of_valid hvb))
    clear hl0 hv hs9 ht9 hSa hSb hva hvb hKc r1 r2 r3
    obtain ⟨w0, hw0⟩ : ∃ w0 : World, w0 = W := ⟨_, rfl⟩
    rw [← hw0] at D X F G ⊢
    clear hw0
    try clear q0 q1
    go_wp2_with fail
    go_loopw [7] (fun i wr => ∃ k : Nat, k ≤ 99 ∧ i = .int .i64 ((k : Int) + 1) ∧ w0.grownBy wr none) (fun i _ => 100 - (intOf i).toNat)
    case atStart => exact ⟨0, by omega, rfl, gb_refl _ _⟩
    case round =>
      obtain ⟨k, hk, rfl, hg⟩ := hrel
      have GW := Lib.hid hg
      replace D := Lib.hid (D.out.on hg)
      replace X := Lib.hid (X.out.on hg)
      replace F := Lib.hid (F.out.on hg)
      replace G := Lib.hid (gb_trans G.out hg)
      clear hg
      obtain ⟨W, hW⟩ : ∃ V, V = wr := ⟨_, rfl⟩
      rw [← hW] at D X F G GW ⊢
      clear hW
      try clear q0 q1
      have q0 := X.out.cell 0
      have q1 := X.out.cell 1
      simp only [List.getElem?_cons_zero, List.getElem?_cons_succ] at q0 q1
      by_cases hlt : k < 99
      · have kn : (k : Int) + 1 ≤ 99 := by omega
        have HBI := Lib.hid (HDI.out ((k : Int) + 1) (by omega))
        have HXL := Lib.hid (HSA.out ((k : Int) + 1))
        have HYL := Lib.hid (HSB.out ((k : Int) + 1))
        have HG1 : Hid (∀ W A c, SeesI W A Sa → Calls Try.prog 15 #[.slice A Sa.length c, .int .i64 ((k : Int) + 1)] W (GotG W (M.get Sa ((k : Int) + 1)))) := Lib.hid (HGA.out ((k : Int) + 1))
        have HG2 : Hid (∀ W A c, SeesI W A Sb → Calls Try.prog 15 #[.slice A Sb.length c, .int .i64 ((k : Int) + 1)] W (GotG W (M.get Sb ((k : Int) + 1)))) := Lib.hid (HGB.out ((k : Int) + 1))
        unfold GotG at HG1 HG2
        generalize M.get Sa ((k : Int) + 1) = r at HBI HXL HG1
        generalize M.get Sb ((k : Int) + 1) = r' at HBI HYL HG2
        generalize r.getD ⟨0, [], 0⟩ = x at HBI HXL HG1
        generalize r'.getD ⟨0, [], 0⟩ = y at HBI HYL HG2
        generalize r.isSome = b1 at HBI HG1
        generalize r'.isSome = b2 at HBI HG2
        obtain ⟨bi, hbi⟩ : ∃ bi, bi = decide (((k : Int) + 1) ∈ K) := ⟨_, rfl⟩
        have HIN : Hid (∀ W, SeesN .i64 W A2 K → Calls Try.prog 43 #[.slice A2 K.length c2, .int .i64 ((k : Int) + 1)] W fun e w' => e = .returned (.bool bi) ∧ W.grownBy w' none) := Lib.hid fun W h => by rw [hbi]; exact isIn_any h
        rw [← hbi] at HBI
        obtain ⟨eb, heb⟩ : ∃ eb, eb = eqItemB x y := ⟨_, rfl⟩
        have HEQ : Hid (∀ W Ax Ay cx cy, RdInts .i64 W 0 W.heap.size (.slice Ax x.pos.length cx) x.pos → RdInts .i64 W 0 W.heap.size (.slice Ay y.pos.length cy) y.pos → Calls Try.prog 18 #[.agg #[.int .i64 x.key, .slice Ax x.pos.length cx, .int .i64 x.tags], .agg #[.int .i64 y.key, .slice Ay y.pos.length cy, .int .i64 y.tags]] W fun e w' => e = .returned (.bool eb) ∧ W.grownBy w' none) := Lib.hid fun W Ax Ay cx cy h1 h2 => by
          rw [heb]
          exact equalItem_any W _ _ 0 W.heap.size 0 W.heap.size x y HXL.out h1 h2 (Nat.le_refl _) (Nat.le_refl _)
        rw [← heb] at HBI
        clear hbi heb
        go_wp2_with fail
        refine (HA.out _ D.out).mono ?_
        rintro e W ⟨A5, c5, rfl, hc5, hs, hg⟩
        replace D := Lib.hid (D.out.on hg)
        replace X := Lib.hid (X.out.on hg)
        replace F := Lib.hid (F.out.on hg)
        replace G := Lib.hid (gb_trans G.out hg)
        replace GW := Lib.hid (gb_trans GW.out hg)
        clear hg
        have P5 := Lib.hid hs
        clear hs hc5
        go_wp2_with fail
        refine (HG1.out _ _ c5 P5.out).mono ?_
        rintro e W ⟨Ax, cx, rfl, hs, hg⟩
        replace D := Lib.hid (D.out.on hg)
        replace X := Lib.hid (X.out.on hg)
        replace F := Lib.hid (F.out.on hg)
        replace G := Lib.hid (gb_trans G.out hg)
        replace GW := Lib.hid (gb_trans GW.out hg)
        clear hg
        have RX := Lib.hid hs
        clear hs
        try clear q0 q1
        have q0 := (X.out.alloc (.cells #[.int .i64 x.key, .slice Ax x.pos.length cx, .int .i64 x.tags] 28)).cell 0
        have q1 := (X.out.alloc (.cells #[.int .i64 x.key, .slice Ax x.pos.length cx, .int .i64 x.tags] 28)).cell 1
        simp only [List.getElem?_cons_zero, List.getElem?_cons_succ] at q0 q1
        go_wp2_with fail
        refine calls_name (fun V => W.grownBy V none ∧ Row V W.heap.size 28 [.int .i64 x.key, .slice Ax x.pos.length cx, .int .i64 x.tags]) ⟨World.grownBy_alloc W _ none, Row.new W _ rfl⟩ ?_
        obtain ⟨bx, hbx⟩ : ∃ bx, bx = W.heap.size := ⟨_, rfl⟩
        rw [← hbx]
        rintro W ⟨hg, hy⟩
        have BX := Lib.hid hy
        replace D := Lib.hid (D.out.on hg)
        replace X := Lib.hid (X.out.on hg)
        replace F := Lib.hid (F.out.on hg)
        replace RX := Lib.hid (RX.out.on hg)
        replace G := Lib.hid (gb_trans G.out hg)
        replace GW := Lib.hid (gb_trans GW.out hg)
        clear hg hy hbx
        refine (HB.out _ D.out).mono ?_
        rintro e W ⟨A6, c6, rfl, hc6, hs, hg⟩
        replace D := Lib.hid (D.out.on hg)
        replace X := Lib.hid (X.out.on hg)
        replace F := Lib.hid (F.out.on hg)
        replace RX := Lib.hid (RX.out.on hg)
        replace BX := Lib.hid (BX.out.on hg)
        replace G := Lib.hid (gb_trans G.out hg)
        replace GW := Lib.hid (gb_trans GW.out hg)
        clear hg
        have P6 := Lib.hid hs
        clear hs hc6
        go_wp2_with fail
        refine (HG2.out _ _ c6 P6.out).mono ?_
        rintro e W ⟨Ay, cy, rfl, hs, hg⟩
        replace D := Lib.hid (D.out.on hg)
        replace X := Lib.hid (X.out.on hg)
        replace F := Lib.hid (F.out.on hg)
        replace RX := Lib.hid (RX.out.on hg)
        replace BX := Lib.hid (BX.out.on hg)
        replace G := Lib.hid (gb_trans G.out hg)
        replace GW := Lib.hid (gb_trans GW.out hg)
        clear hg
        have RY := Lib.hid hs
        clear hs
        go_wp2_with fail
        refine calls_name (fun V => W.grownBy V none ∧ Row V W.heap.size 28 [.int .i64 y.key, .slice Ay y.pos.length cy, .int .i64 y.tags]) ⟨World.grownBy_alloc W _ none, Row.new W _ rfl⟩ ?_
        obtain ⟨bby, hbby⟩ : ∃ bby, bby = W.heap.size := ⟨_, rfl⟩
        rw [← hbby]
        rintro W ⟨hg, hy⟩
        have BY := Lib.hid hy
        replace D := Lib.hid (D.out.on hg)
        replace X := Lib.hid (X.out.on hg)
        replace F := Lib.hid (F.out.on hg)
        replace RX := Lib.hid (RX.out.on hg)
        replace RY := Lib.hid (RY.out.on hg)
        replace BX := Lib.hid (BX.out.on hg)
        replace G := Lib.hid (gb_trans G.out hg)
        replace GW := Lib.hid (gb_trans GW.out hg)
        clear hg hy hbby
        refine (HIN.out _ F.out).mono ?_
        rintro e W ⟨rfl, hg⟩
        replace D := Lib.hid (D.out.on hg)
        replace X := Lib.hid (X.out.on hg)
        replace F := Lib.hid (F.out.on hg)
        replace RX := Lib.hid (RX.out.on hg)
        replace RY := Lib.hid (RY.out.on hg)
        replace BX := Lib.hid (BX.out.on hg)
        replace BY := Lib.hid (BY.out.on hg)
        replace G := Lib.hid (gb_trans G.out hg)
        replace GW := Lib.hid (gb_trans GW.out hg)
        clear hg
        have x0 := BX.out.cell 0
        have x1 := BX.out.cell 1
        have x2 := BX.out.cell 2
        have y0 := BY.out.cell 0
        have y1 := BY.out.cell 1
        have y2 := BY.out.cell 2
        simp only [List.getElem?_cons_zero, List.getElem?_cons_succ] at x0 x1 x2 y0 y1 y2
        have hbi := HBI.out
        clear HBI
        cases b1
        all_goals
          cases b2
        · obtain rfl : bi = !eb := by rw [hbi]; cases eb <;> rfl
          clear hbi
          cases eb
          all_goals
            go_wp2_with fail
            refine (HEQ.out _ _ _ cx cy RX.out RY.out).mono ?_
            rintro e W ⟨rfl, hg⟩
            replace D := Lib.hid (D.out.on hg)
            replace G := Lib.hid (gb_trans G.out hg)
            replace GW := Lib.hid (gb_trans GW.out hg)
            clear hg
            go_wp2_with fail
            go_roundw
            case rel => exact ⟨k + 1, by omega, by go_num, GW.out⟩
            case measure => simp [intOf]; omega
        · obtain rfl : bi = true := by rw [hbi]; rfl
          clear hbi
          go_wp2_with fail
          go_roundw
          case rel => exact ⟨k + 1, by omega, by go_num, GW.out⟩
          case measure => simp [intOf]; omega
        · obtain rfl : bi = true := by rw [hbi]; rfl
          clear hbi
          go_wp2_with fail
          go_roundw
          case rel => exact ⟨k + 1, by omega, by go_num, GW.out⟩
          case measure => simp [intOf]; omega
        · obtain rfl : bi = !eb := by rw [hbi]; cases eb <;> rfl
          clear hbi
          cases eb
          all_goals
            go_wp2_with fail
            refine (HEQ.out _ _ _ cx cy RX.out RY.out).mono ?_
            rintro e W ⟨rfl, hg⟩
            replace D := Lib.hid (D.out.on hg)
            replace G := Lib.hid (gb_trans G.out hg)
            replace GW := Lib.hid (gb_trans GW.out hg)
            clear hg
            go_wp2_with fail
            go_roundw
            case rel => exact ⟨k + 1, by omega, by go_num, GW.out⟩
            case measure => simp [intOf]; omega
      · obtain rfl : k = 99 := by omega
        go_wp2_with fail
        refine (HC.out _ D.out).mono ?_
        rintro e W ⟨A7, c7, rfl, hc7, hs, hg⟩
        replace F := Lib.hid (F.out.on hg)
        replace G := Lib.hid (gb_trans G.out hg)
        clear hg
        have P7 := Lib.hid hs
        clear hs hc7
        go_wp2_with fail
        refine (ein_same P7.out F.out).mono ?_
        rintro e W ⟨rfl, hg⟩
        replace F := Lib.hid (F.out.on hg)
        replace G := Lib.hid (gb_trans G.out hg)
        clear hg
        go_wp2_with fail
        go_ret
        exact ⟨rfl, G.out⟩
end fnChangedKeys
/-! the row's step -/
namespace fnChangedKeys
set_option maxRecDepth 100000 in
theorem lifted (os : Os) (started : os.Started) (H : Type) (enc : TypeId × Value → H) :
    ReturnsInHanded {} Try.checked os 10 .any (Rows.fnChangedKeysSpec.pre6 enc Try.prog Try.f10 Rows.fnChangedKeysRow.domain false) (Rows.fnChangedKeysSpec.post enc Try.prog Try.f10 false true false false) := by
  refine returnsInHanded_of_change (C := Try.checked) own started (by kernel_rfl) Try.func10
    (ChangeSpec.witness6 (enc := enc) (C := Try.checked) false ⟨#[], #[.slice none 0 0], []⟩ 8 (by kernel_rfl) (by kernel_rfl) (by kernel_rfl) (by kernel_rfl)) ?_
  intro W base args ds gs before hval0 hW hcnd _
  have hval : ∀ (j : Nat) t v, Try.f10.params[j]? = some t → args[j]? = some v → Value.okWide Try.prog W .any base t v := hval0
  have hW' := hW
  obtain ⟨p, q, hA0, hV, rfl, hfz, hnd⟩ := hW
  have hA : DataW.TrodAll enc Try.prog W 0 (fun _ => true) true Try.f10.params.toList args.toList ds p := hA0
  rw [Try.params10] at hA hval
  obtain ⟨v0, vs0, d0, ds0, p0, q0, hargs, rfl, rfl, h0, r0⟩ := trodAll_cons hA
  obtain ⟨rfl, rfl, rfl⟩ := trodAll_nil r0
  obtain rfl : args = #[v0] := by cases args; simp_all
  obtain ⟨rfl, rfl⟩ := trodVars_none hV
  obtain ⟨a0, len0, cap0, rfl⟩ := okWide_slice Try.underlying22 (hval 0 22 v0 rfl rfl)
  have k0 := h0
  have lt0 : ∀ x ∈ p0, x.block < W.heap.size := by obtain ⟨m, hm⟩ := k0; exact DataW.trod_lt m _ _ _ hm
  obtain ⟨L0, rfl, b00, b01, b02⟩ := code_row h0
  clear hA0 hval0
  refine (walk W a0 cap0 L0 b00 b01 b02).mono fun e W' ⟨he, bel0⟩ => ?_
  have bel := gb_below bel0
  subst he
  exact ⟨_, rfl, _, _, _, [], _, [], hW', trodAll_mk1 (shut_bool Try.underlying4 _), (trodAll_cons_mk (Below.trod laidOut (by kernel_rfl) (of_decide_eq_true (by kernel_rfl)) k0 bel lt0) trodAll_mk0), rfl, bel.frame _, fun h => by cases h⟩
set_option maxRecDepth 100000 in
theorem over : Rows.fnChangedKeysRow.holds Try.pinned (OpenSpec.ofChange Rows.fnChangedKeysSpec) :=
  OpenClaim.holds_of_wide 10 Try.f10 rfl rfl rfl rfl rfl rfl rfl ⟨rfl, rfl, rfl, rfl, rfl⟩ rfl rfl rfl rfl rfl (by kernel_rfl) Try.func10 (by kernel_rfl)
    (of_decide_eq_true (by kernel_rfl)) (by unfold Func.isWrapper; first | (rw [if_pos (by decide +kernel)]; kernel_rfl) | (rw [if_neg (by decide +kernel)]; exact ⟨rfl, rfl⟩))
    (fun os started H enc _ => lifted os started H enc)
theorem proved : Rows.FnChangedKeysSaid := over
end fnChangedKeys
end Go.Proofs.Ythoakomccjjhbaa
