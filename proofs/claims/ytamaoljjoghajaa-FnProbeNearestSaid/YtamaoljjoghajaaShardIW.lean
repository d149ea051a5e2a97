/- The walks of the items of a shard. -/
import Derived.Test.YtamaoljjoghajaaCopyW
namespace Go.Proofs.Ytamaoljjoghajaa
open Go.RowKit
set_option linter.unusedVariables false
set_option maxRecDepth 100000

theorem info_item' : (Try.prog.info? 54).map (fun i => (i.zero, i.size, i.bytes)) = some (some (.agg #[.int .i64 0, .slice none 0 0, .int .i64 0]), 3, 40) := by kernel_rfl
theorem key_range' {x : M.Item} (h : M.validItem x = true) : 1 ≤ x.key ∧ x.key ≤ 99 := by
  unfold M.validItem at h
  simp only [Bool.and_eq_true] at h
  exact M.inR_true h.1.1
theorem three_cell_at {w : World} {t : TypeId} {x y z : Value} {g : Nat} (hg : g = w.heap.size) : ∀ (j : Nat) (u : Value), [x, y, z][j]? = some u → (w.alloc (.cells #[x, y, z] t)).cell? ((⟨g, 0, none⟩ : Addr).add j) = some u := by
  subst hg
  intro j u hu
  rw [Addr.add_lit, Nat.zero_add, cell_of_row _ _ _ #[x, y, z] t (0, 0) (heap_alloc_new w _)]
  simpa using hu
theorem item_oneCell {k t : Int} {A : Option Addr} {n c : Nat} : ∀ u ∈ [Value.int .i64 k, Value.slice A n c, Value.int .i64 t], u.oneCell' = true := by
  intro u hu
  simp at hu
  rcases hu with rfl | rfl | rfl <;> rfl
theorem push_step {wr w1 w2 w4 : World} {B : Nat} {v v' u : Value} {LV : List (M.Item × Value)} {y : M.Item} (hO : wr.ownsRow B 54 3 v LV.length (cellsI LV)) (hI : ∀ p ∈ LV, OwnInts .i64 3 wr B p.2 p.1.pos)
    (hP : LV.Pairwise (fun p q => p.2.ownBlock = none ∨ p.2.ownBlock ≠ q.2.ownBlock)) (h1 : wr.grownBy w1 none) (hc : OwnInts .i64 3 w1 wr.heap.size u y.pos) (hB : B ≤ wr.heap.size) (h12 : w1.grownBy w2 none)
    (T1 : w4.ownsRow B 54 3 v' (LV.length + 1) (cellsI LV ++ [.int .i64 y.key, u, .int .i64 y.tags])) (T2 : w2.grownBy w4 v.ownBlock) : OwnItems w4 B v' (LV.map (·.1) ++ [y]) := by
  have hv2 : w2.ownsRow B 54 3 v LV.length (cellsI LV) := (hO.kept h1 (own_ge hO (by simp))).kept h12 (own_ge hO (by simp))
  refine OwnItems.push (p := (y, u)) (by rw [cellsI_one]; exact T1) (fun q hq => ?_) hP ?_ (fun q hq => ?_)
  · have h := ((hI q hq).grown h1 (by simp)).grown h12 (by simp)
    exact h.kept T2 (own_types' h hv2)
  · have h := (hc.grown h12 (by simp)).wide hB
    exact h.kept T2 (own_types' h hv2)
  · cases hb : q.2.ownBlock with
    | none => exact .inl rfl
    | some b =>
      refine .inr fun e => ?_
      have a1 := ((hI q hq).lt b hb).2
      have a2 := (hc.lt b e.symm).1
      omega

theorem shardItems_take {L : List M.Item} {k : Nat} (hk : k < L.length) (s n : Int) : M.shardItems (L.take (k + 1)) s n = M.shardItems (L.take k) s n ++ (if M.sh L[k].key s = n then [L[k]] else []) := by
  unfold M.shardItems
  rw [List.take_succ_eq_append_getElem hk, List.filter_append]
  congr 1
  by_cases h : M.sh L[k].key s = n
  · simp [h]
  · simp [h]
theorem shardItems_mem {L : List M.Item} {s n : Int} {x : M.Item} (h : x ∈ M.shardItems L s n) : x ∈ L := (List.mem_filter.1 h).1
theorem shardItems_le (L : List M.Item) (s n : Int) : (M.shardItems L s n).length ≤ L.length := List.length_filter_le _ _

set_option maxHeartbeats 1000000 in
theorem shardItems_spec (w : World) (A : Option Addr) (c lo hi : Nat) (L : List M.Item) (s m : Int) (hl : L.length ≤ 16) (hv : ∀ x ∈ L, M.validItem x = true) (hp : ∀ x ∈ L, x.pos.length ≤ 1048576) (hr : RdI w lo hi A L) (hhi : hi ≤ w.heap.size) (hs1 : 1 ≤ s) (hs2 : s ≤ 8) :
    Calls Try.prog 38 #[.slice A L.length c, .int .i64 s, .int .i64 m] w fun e w' => ∃ v, e = .returned v ∧ OwnItems w' w.heap.size v (M.shardItems L s m) ∧ w.grownBy w' none := by
  obtain ⟨i0, hi0, hz0, hz1, hz2⟩ := info_parts info_item'
  obtain ⟨n, hn⟩ : ∃ n, n = L.length := ⟨_, rfl⟩
  rw [← hn] at hl ⊢
  have HL := Lib.hid hn
  have HR := Lib.hid hr
  have HP := Lib.hid hp
  have HV := Lib.hid hv
  clear hn hr hp hv
  go_enter Try.func38, Try.ntmps38
  go_wp2_with fail
  go_loopw [7, 8] (fun v i wr => ∃ k : Nat, k ≤ n ∧ i = .int .i64 k ∧ OwnItems wr w.heap.size v (M.shardItems (L.take k) s m) ∧ w.grownBy wr none) (fun _ i _ => n - (intOf i).toNat)
  case atStart => exact ⟨0, Nat.zero_le _, rfl, ⟨[], rfl, World.ownsRow_made w #[] 0 (Nat.le_refl _) (by decide) rfl, by simp, List.Pairwise.nil⟩, gb_alloc (gb_refl _ _) _⟩
  case round =>
    obtain ⟨k, hk, rfl, hown, hg⟩ := hrel
    have HGR := Lib.hid hg
    obtain ⟨LV, hLV, hO, hI, hP⟩ := hown
    have H1 := Lib.hid hLV
    have H2 := Lib.hid hO
    have H3 := Lib.hid hI
    have H4 := Lib.hid hP
    have hlv : LV.length ≤ 16 := by
      have a1 := shardItems_le (L.take k) s m
      rw [← hLV, List.length_map, List.length_take] at a1
      omega
    clear hLV hO hI hP hg
    by_cases hlt : k < n
    · have hkl : k < L.length := by rw [← HL.out]; exact hlt
      obtain ⟨b, o, rfl, hb1, hb2, hJ⟩ := HR.out.at_ (List.getElem?_eq_getElem hkl)
      obtain ⟨u, c0, c1, c2, hu⟩ := hJ.agree hb1 hb2 (fun b _ h => (Agree.of_grown HGR.out) b (Nat.zero_le _) (by omega))
      obtain ⟨Au, cu, rfl, hcu, hru⟩ := hu
      have HK := Lib.hid (shardItems_take hkl s m)
      have hky := key_range' (HV.out _ (List.getElem_mem hkl))
      have hpl : L[k].pos.length ≤ 1048576 := HP.out _ (List.getElem_mem hkl)
      have HU := Lib.hid (show RdInts .i64 wr lo hi (.slice Au L[k].pos.length cu) L[k].pos from ⟨_, _, rfl, hcu, hru⟩)
      have hsz : hi ≤ wr.heap.size := by have := HGR.out.size; omega
      clear hJ hcu hru
      generalize L[k] = y at *
      have HC1 : Hid (∀ W : World, Calls Try.prog 78 #[.int .i64 y.key, .int .i64 s] W fun e w' => e = .returned (.int .i64 (M.sh y.key s)) ∧ W = w') := Lib.hid fun W => shardOf_spec y.key s W hky.1 hky.2 hs1 hs2
      generalize hq1 : M.sh y.key s = q1 at *
      clear hq1
      by_cases hq : q1 = m
      · have tq : (q1 == m) = true := by simp [hq]
        have HK2 : Hid (M.shardItems (L.take (k + 1)) s m = LV.map (·.1) ++ [y]) := Lib.hid (HK.out.trans (by rw [if_pos hq, H1.out]))
        clear hq
        go_wp2_with (go_at_call 78; refine (HC1.out _).mono ?_; rintro e w' ⟨rfl, rfl⟩)
        refine (copyItem_spec wr _ lo hi y hpl HU.out hsz).mono ?_
        rintro e w1 ⟨Ac, cc, rfl, hc, hg1⟩
        have HC := Lib.hid hc
        have HG1 := Lib.hid hg1
        have H2b := Lib.hid (H2.out.kept hg1 (own_ge H2.out (by simp)))
        clear hc hg1
        go_wp2_with (at_builtin; refine wpList_append_own _ rfl (.tmp 25) (.tmp 31) 27 rfl w.heap.size 54 i0 _ 3 40 Try.underlying27 hi0 hz0 hz1 hz2 rfl (by decide) u7 LV.length (cellsI LV) rfl (H2b.out.alloc _) ⟨w1.heap.size, 0, none⟩ 1 1 [.int .i64 y.key, .slice Ac y.pos.length cc, .int .i64 y.tags] rfl rfl (three_cell_at rfl) item_oneCell (by unfold maxLen; omega) (by omega) (by have := HGR.out.size; have := HG1.out.size; simp; omega) ?_; intro v' w4 hown' hgrow _; have T1 := Lib.hid hown'; have T2 := Lib.hid hgrow; clear hown' hgrow)
        go_roundw
        case rel =>
          refine ⟨k + 1, by omega, by go_num, ?_, ?_⟩
          · rw [HK2.out]
            exact push_step H2.out H3.out H4.out HG1.out HC.out HGR.out.size (World.grownBy_alloc _ _ _) T1.out T2.out
          · exact gb_new (gb_alloc (gb_trans HGR.out HG1.out) _) T2.out (fun g hg => .inl (H2.out.lt g hg).1)
        case measure => simp [intOf]; omega
      · have tq : (q1 == m) = false := beq_eq_false_iff_ne.2 hq
        have HK2 : Hid (M.shardItems (L.take (k + 1)) s m = M.shardItems (L.take k) s m) := Lib.hid (HK.out.trans (by rw [if_neg hq, List.append_nil]))
        clear hq
        go_wp2_with (go_at_call 78; refine (HC1.out _).mono ?_; rintro e w' ⟨rfl, rfl⟩)
        go_roundw
        case rel => exact ⟨k + 1, by omega, by go_num, by rw [HK2.out]; exact ⟨LV, H1.out, H2.out, H3.out, H4.out⟩, HGR.out⟩
        case measure => simp [intOf]; omega
    · obtain rfl : k = n := by omega
      go_wp2_with fail
      go_ret
      refine ⟨_, rfl, ?_, HGR.out⟩
      have h := H1.out
      rw [HL.out, List.take_of_length_le (Nat.le_refl _)] at h
      exact ⟨LV, h, H2.out, H3.out, H4.out⟩

/-- a row of the call's own, the vectors elsewhere -/
theorem semi_rd {w : World} {B lo hi : Nat} {v : Value} {LV : List (M.Item × Value)} (h2 : w.ownsRow B 54 3 v LV.length (cellsI LV)) (h3 : ∀ p ∈ LV, RdInts .i64 w lo hi p.2 p.1.pos) (hh : hi ≤ w.heap.size) : RdItems w 0 w.heap.size v (LV.map (·.1)) := by
  rcases h2.2 with ⟨rfl, hn⟩ | ⟨g, cap, cur, rfl, hg, hb, hnc, hcm, hcs, htake⟩
  · have hl : LV = [] := List.eq_nil_of_length_eq_zero hn
    subst hl
    exact ⟨none, 0, rfl, Nat.le_refl _, RdI.nil_ _ _ _ _⟩
  · refine ⟨some ⟨g, 0, none⟩, cap, by rw [List.length_map], by rw [List.length_map]; exact hnc, fun _ => ⟨g, 0, rfl, Nat.zero_le _, lt_of_block hb, fun i x hx => ?_⟩⟩
    rw [List.getElem?_map] at hx
    obtain ⟨p, hp, rfl⟩ := Option.map_eq_some_iff.1 hx
    have hil : i < LV.length := (List.getElem?_eq_some_iff.1 hp).1
    obtain ⟨c0, c1, c2⟩ := cellsI_at hp
    have hr := fun j (hj : j < LV.length * 3) => h2.cellAt j hj
    refine ⟨p.2, ?_, ?_, ?_, (h3 p (List.mem_of_getElem? hp)).wide (Nat.zero_le _) hh⟩
    · rw [Nat.zero_add, hr _ (by omega)]; exact c0
    · rw [Nat.zero_add, hr _ (by omega)]; exact c1
    · rw [Nat.zero_add, hr _ (by omega)]; exact c2

set_option maxHeartbeats 1000000 in
theorem shardItems_impl (w : World) (A : Option Addr) (c lo hi : Nat) (L : List M.Item) (s m : Int) (hl : L.length ≤ 16) (hv : ∀ x ∈ L, M.validItem x = true) (hr : RdI w lo hi A L) (hhi : hi ≤ w.heap.size) (hs1 : 1 ≤ s) (hs2 : s ≤ 8) :
    Calls Try.prog 44 #[.slice A L.length c, .int .i64 s, .int .i64 m] w fun e w' => ∃ v, e = .returned v ∧ RdItems w' 0 w'.heap.size v (M.shardItems L s m) ∧ w.grownBy w' none := by
  obtain ⟨i0, hi0, hz0, hz1, hz2⟩ := info_parts info_item'
  obtain ⟨n, hn⟩ : ∃ n, n = L.length := ⟨_, rfl⟩
  rw [← hn] at hl ⊢
  have HL := Lib.hid hn
  have HR := Lib.hid hr
  have HV := Lib.hid hv
  clear hn hr hv
  go_enter Try.func44, Try.ntmps44
  go_wp2_with fail
  go_loopw [7, 13] (fun v i wr => ∃ (k : Nat) (LV : List (M.Item × Value)), k ≤ n ∧ i = .int .i64 k ∧ LV.map (·.1) = M.shardItems (L.take k) s m ∧ wr.ownsRow w.heap.size 54 3 v LV.length (cellsI LV) ∧ (∀ p ∈ LV, RdInts .i64 wr lo hi p.2 p.1.pos) ∧ w.grownBy wr none) (fun _ i _ => n - (intOf i).toNat)
  case atStart => exact ⟨0, [], Nat.zero_le _, rfl, rfl, World.ownsRow_made w #[] 0 (Nat.le_refl _) (by decide) rfl, by simp, gb_alloc (gb_refl _ _) _⟩
  case round =>
    obtain ⟨k, LV, hk, rfl, hLV, hO, hI, hg⟩ := hrel
    have HGR := Lib.hid hg
    have H1 := Lib.hid hLV
    have H2 := Lib.hid hO
    have H3 := Lib.hid hI
    have hlv : LV.length ≤ 16 := by
      have a1 := shardItems_le (L.take k) s m
      rw [← hLV, List.length_map, List.length_take] at a1
      omega
    clear hLV hO hI hg
    by_cases hlt : k < n
    · have hkl : k < L.length := by rw [← HL.out]; exact hlt
      obtain ⟨b, o, rfl, hb1, hb2, hJ⟩ := HR.out.at_ (List.getElem?_eq_getElem hkl)
      obtain ⟨u, c0, c1, c2, hu⟩ := hJ.agree hb1 hb2 (fun b _ h => (Agree.of_grown HGR.out) b (Nat.zero_le _) (by omega))
      obtain ⟨Au, cu, rfl, hcu, hru⟩ := hu
      have HK := Lib.hid (shardItems_take hkl s m)
      have hky := key_range' (HV.out _ (List.getElem_mem hkl))
      have HU := Lib.hid (show RdInts .i64 wr lo hi (.slice Au L[k].pos.length cu) L[k].pos from ⟨_, _, rfl, hcu, hru⟩)
      have hsz : hi ≤ wr.heap.size := by have := HGR.out.size; omega
      clear hJ hcu hru
      generalize L[k] = y at *
      have HC1 : Hid (∀ W : World, Calls Try.prog 85 #[.int .i64 y.key, .int .i64 s] W fun e w' => e = .returned (.int .i64 (M.sh y.key s)) ∧ W = w') := Lib.hid fun W => shardOf_impl y.key s W hky.1 hky.2 hs1 hs2
      generalize hq1 : M.sh y.key s = q1 at *
      clear hq1
      by_cases hq : q1 = m
      · have tq : (q1 == m) = true := by simp [hq]
        have HK2 : Hid (M.shardItems (L.take (k + 1)) s m = LV.map (·.1) ++ [y]) := Lib.hid (HK.out.trans (by rw [if_pos hq, H1.out]))
        clear hq
        go_wp2_with (first | (go_at_call 85; refine (HC1.out _).mono ?_; rintro e w' ⟨rfl, rfl⟩) | (at_builtin; refine wpList_append_own _ rfl (.tmp 23) (.tmp 25) 27 rfl w.heap.size 54 i0 _ 3 40 Try.underlying27 hi0 hz0 hz1 hz2 rfl (by decide) u7 LV.length (cellsI LV) rfl ((H2.out.alloc _).alloc _) ⟨wr.heap.size + 1, 0, none⟩ 1 1 [.int .i64 y.key, .slice Au y.pos.length cu, .int .i64 y.tags] rfl rfl (three_cell_at (by simp)) item_oneCell (by unfold maxLen; omega) (by omega) (by have := HGR.out.size; simp; omega) ?_; intro v' w4 hown' hgrow _; have T1 := Lib.hid hown'; have T2 := Lib.hid hgrow; clear hown' hgrow))
        go_roundw
        case rel =>
          have hown := HGR.out.size
          refine ⟨k + 1, LV ++ [(y, .slice Au y.pos.length cu)], by omega, by go_num, by rw [HK2.out]; simp, ?_, ?_, ?_⟩
          · rw [cellsI_append, cellsI_one]
            have := T1.out
            simpa using this
          · intro p hp
            have hpr : RdInts .i64 wr lo hi p.2 p.1.pos := by
              rw [List.mem_append] at hp
              rcases hp with hp | hp
              · exact H3.out p hp
              · simp at hp; subst hp; exact HU.out
            refine hpr.agree (fun b h1 h2 => (T2.out.block b (by simp; omega) (fun e => ?_)).trans ((Agree.of_grown (gb_alloc (gb_alloc (gb_refl wr none) _) _)) b (Nat.zero_le _) (by omega)))
            have := (H2.out.lt b e.symm).1
            omega
          · exact gb_new (gb_alloc (gb_alloc HGR.out _) _) T2.out (fun g hg => .inl (H2.out.lt g hg).1)
        case measure => simp [intOf]; omega
      · have tq : (q1 == m) = false := beq_eq_false_iff_ne.2 hq
        have HK2 : Hid (M.shardItems (L.take (k + 1)) s m = M.shardItems (L.take k) s m) := Lib.hid (HK.out.trans (by rw [if_neg hq, List.append_nil]))
        clear hq
        go_wp2_with (go_at_call 85; refine (HC1.out _).mono ?_; rintro e w' ⟨rfl, rfl⟩)
        go_roundw
        case rel => exact ⟨k + 1, LV, by omega, by go_num, by rw [HK2.out]; exact H1.out, H2.out.alloc _, fun p hp => (H3.out p hp).agree (fun b _ h => Below.heap_alloc _ _ _ (by omega)), gb_alloc HGR.out _⟩
        case measure => simp [intOf]; omega
    · obtain rfl : k = n := by omega
      go_wp2_with fail
      go_ret
      refine ⟨_, rfl, ?_, HGR.out⟩
      have h := H1.out
      rw [HL.out, List.take_of_length_le (Nat.le_refl _)] at h
      rw [← h]
      exact semi_rd H2.out H3.out (by have := HGR.out.size; omega)

end Go.Proofs.Ytamaoljjoghajaa
