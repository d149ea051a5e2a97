/- The walks of the moved keys. -/
import Derived.Test.YthohidhhhknnaaaItemW
import Derived.Test.YthohidhhhknnaaaBase
import Derived.Deep.RegionWith
namespace Go.Proofs.Ythohidhhhknnaaa
open Go.RowKit
set_option linter.unusedVariables false
set_option maxRecDepth 100000

theorem info_int : (Try.prog.info? 3).map (fun i => (i.zero, i.size, i.bytes)) = some (some (.int .i64 0), 1, 8) := by kernel_rfl
theorem moved_take {L : List M.Item} {k : Nat} (hk : k < L.length) (f t : Int) : M.moved (L.take (k + 1)) f t = M.moved (L.take k) f t ++ (if M.sh L[k].key f ≠ M.sh L[k].key t then [L[k].key] else []) := by
  unfold M.moved
  rw [List.take_succ_eq_append_getElem hk, List.filter_append, List.map_append]
  congr 1
  by_cases h : M.sh L[k].key f = M.sh L[k].key t
  · simp [h]
  · simp [h]
theorem moved_le (L : List M.Item) (f t : Int) : (M.moved L f t).length ≤ L.length := by
  unfold M.moved
  rw [List.length_map]
  exact List.length_filter_le _ _
theorem key_range {x : M.Item} (h : M.validItem x = true) : 1 ≤ x.key ∧ x.key ≤ 99 := by
  unfold M.validItem at h
  simp only [Bool.and_eq_true] at h
  exact M.inR_true h.1.1

set_option maxHeartbeats 1000000 in
theorem MovedKeys_impl (w : World) (A : Option Addr) (c lo hi : Nat) (L : List M.Item) (f t : Int) (hl : L.length ≤ 1048576) (hp : ∀ x ∈ L, x.pos.length ≤ 1048576) (hr : RdI w lo hi A L) (hhi : hi ≤ w.heap.size) :
    Calls Try.prog 20 #[.slice A L.length c, .int .i64 f, .int .i64 t] w fun e w' => ∃ v, e = .returned v ∧ OwnInts .i64 3 w' w.heap.size v (M.MovedKeys L f t) ∧ w.grownBy w' none := by
  have HR := Lib.hid hr
  have HP := Lib.hid hp
  clear hr hp
  have HNO : Hid (∀ wx, ¬ (M.validStore L = true ∧ M.inR f 1 8 = true ∧ M.inR t 1 8 = true) → OwnInts .i64 3 wx w.heap.size (.slice none 0 0) (M.MovedKeys L f t)) := Lib.hid fun wx h => by
    unfold M.MovedKeys
    rw [if_neg h]
    exact World.ownsRow_nil _ _ _ _
  cases hv : M.validStore L
  · have HV := Lib.hid hv
    clear hv
    go_enter Try.func20, Try.ntmps20
    go_wp2_with fail
    refine (ValidStore_impl w A c lo hi L hl HP.out HR.out hhi).mono ?_
    rintro e w1 ⟨rfl, hg1⟩
    rw [HV.out]
    have HG := Lib.hid hg1
    clear hg1
    go_wp2_with fail
    go_ret
    exact ⟨_, rfl, HNO.out _ (by rw [HV.out]; simp), HG.out⟩
  · have HV := Lib.hid hv
    clear hv
    cases hf : M.inR f 1 8
    · have HF := Lib.hid hf
      go_enter Try.func20, Try.ntmps20
      go_wp2_with fail
      refine (ValidStore_impl w A c lo hi L hl HP.out HR.out hhi).mono ?_
      rintro e w1 ⟨rfl, hg1⟩
      rw [HV.out]
      have HG := Lib.hid hg1
      clear hg1
      go_wp2_with (go_at_call 50; refine (areShards_any _ _).mono ?_; rintro e w' ⟨rfl, rfl⟩)
      go_ret
      exact ⟨_, rfl, HNO.out _ (by rw [HF.out]; simp), HG.out⟩
    · cases ht : M.inR t 1 8
      · have HF := Lib.hid ht
        go_enter Try.func20, Try.ntmps20
        go_wp2_with fail
        refine (ValidStore_impl w A c lo hi L hl HP.out HR.out hhi).mono ?_
        rintro e w1 ⟨rfl, hg1⟩
        rw [HV.out]
        have HG := Lib.hid hg1
        clear hg1
        go_wp2_with (go_at_call 50; refine (areShards_any _ _).mono ?_; rintro e w' ⟨rfl, rfl⟩)
        go_ret
        exact ⟨_, rfl, HNO.out _ (by rw [HF.out]; simp), HG.out⟩
      · have a1 := M.inR_true hf
        have a2 := M.inR_true ht
        have HY := Lib.hid (show M.MovedKeys L f t = M.moved L f t by unfold M.MovedKeys; rw [if_pos ⟨HV.out, hf, ht⟩])
        have HVS := Lib.hid (M.validStore_of HV.out)
        obtain ⟨i0, hi0, hz0, hz1, hz2⟩ := info_parts info_int
        go_enter Try.func20, Try.ntmps20
        go_wp2_with fail
        refine (ValidStore_impl w A c lo hi L hl HP.out HR.out hhi).mono ?_
        rintro e w1 ⟨rfl, hg1⟩
        rw [HV.out]
        have HG := Lib.hid hg1
        clear hg1
        go_wp2_with (go_at_call 50; refine (areShards_any _ _).mono ?_; rintro e w' ⟨rfl, rfl⟩)
        obtain ⟨n, hn⟩ : ∃ n, n = L.length := ⟨_, rfl⟩
        have HL := Lib.hid hn
        have hn16 : n ≤ 16 := by rw [hn]; exact HVS.out.1
        rw [← hn]
        clear hn hl hf ht
        go_loopw [7, 26] (fun v i wr => ∃ k : Nat, k ≤ n ∧ i = .int .i64 k ∧ wr.ownsRow w.heap.size 3 1 v (M.moved (L.take k) f t).length ((M.moved (L.take k) f t).map (.int .i64)) ∧ w.grownBy wr none) (fun _ i _ => n - (intOf i).toNat)
        case atStart => exact ⟨0, Nat.zero_le _, rfl, World.ownsRow_made w1 #[] 0 HG.out.size (by decide) rfl, gb_alloc HG.out _⟩
        case round =>
          obtain ⟨k, hk, rfl, hown, hg⟩ := hrel
          have HO := Lib.hid hown
          have HGR := Lib.hid hg
          clear hown hg
          by_cases hlt : k < n
          · have hkl : k < L.length := by rw [← HL.out]; exact hlt
            obtain ⟨b, o, rfl, hb1, hb2, hI⟩ := HR.out.at_ (List.getElem?_eq_getElem hkl)
            obtain ⟨u, c0, c1, c2, hu⟩ := hI.agree hb1 hb2 (fun b _ h => (Agree.of_grown HGR.out) b (Nat.zero_le _) (by omega))
            obtain ⟨Au, cu, rfl, hcu, hru⟩ := hu
            have HK := Lib.hid (moved_take hkl f t)
            have hky := key_range (HVS.out.2.1 _ (List.getElem_mem hkl))
            have hml : (M.moved (L.take k) f t).length ≤ 16 := by have := moved_le (L.take k) f t; rw [List.length_take] at this; omega
            clear hI hcu hru
            generalize L[k] = y at *
            have HC1 : Hid (∀ W : World, Calls Try.prog 51 #[.int .i64 y.key, .int .i64 f] W fun e w' => e = .returned (.int .i64 (M.sh y.key f)) ∧ W = w') := Lib.hid fun W => shardOf_impl y.key f W hky.1 hky.2 a1.1 a1.2
            have HC2 : Hid (∀ W : World, Calls Try.prog 51 #[.int .i64 y.key, .int .i64 t] W fun e w' => e = .returned (.int .i64 (M.sh y.key t)) ∧ W = w') := Lib.hid fun W => shardOf_impl y.key t W hky.1 hky.2 a2.1 a2.2
            generalize hq1 : M.sh y.key f = q1 at *
            generalize hq2 : M.sh y.key t = q2 at *
            generalize M.moved (L.take k) f t = l at *
            have HQ1 := Lib.hid hq1
            clear hq1 hq2
            by_cases hq : q1 = q2
            · subst hq
              have tq : (q1 != q1) = false := by simp
              have HK2 : Hid (M.moved (L.take (k + 1)) f t = l) := Lib.hid (HK.out.trans (by rw [if_neg (fun h => h rfl), List.append_nil]))
              go_wp2_with fail
              go_quiet ((first | (go_at_call_of 51 f; exact quiet_here (HC1.out _)) | (go_at_call_of 51 t; exact quiet_here (HC2.out _))))
              go_wp2_with fail
              go_roundw
              case rel => exact ⟨k + 1, by omega, by go_num, by rw [HK2.out]; exact own_drewN (HO.out.alloc _) _, gb_drewN (gb_alloc HGR.out _) _⟩
              case measure => simp [intOf]; omega
            · have tq : (q1 != q2) = true := by simpa using hq
              have HK2 : Hid (M.moved (L.take (k + 1)) f t = l ++ [y.key]) := Lib.hid (HK.out.trans (by rw [if_pos hq]))
              clear hq
              go_wp2_with fail
              go_quiet ((first | (go_at_call_of 51 f; exact quiet_here (HC1.out _)) | (go_at_call_of 51 t; exact quiet_here (HC2.out _))))
              go_wp2_with (at_builtin; refine wpList_append_own _ rfl (.tmp 39) (.tmp 42) 34 rfl w.heap.size 3 i0 (.int .i64 0) 1 8 Try.underlying34 hi0 hz0 hz1 hz2 rfl (by decide) u7 l.length (l.map (.int .i64)) rfl ((own_drewN (HO.out.alloc _) nq).alloc _) ⟨wr.heap.size + 1, 0, none⟩ 1 1 [.int .i64 y.key] rfl rfl (one_cell_at (by simp)) (one_cells rfl) (by unfold maxLen; omega) (by omega) (by have := HGR.out.size; simp; omega) ?_; intro v' w4 hown' hgrow _; have T1 := Lib.hid hown'; have T2 := Lib.hid hgrow; clear hown' hgrow)
              go_roundw
              case rel =>
                refine ⟨k + 1, by omega, by go_num, ?_, ?_⟩
                · rw [HK2.out]
                  have := T1.out
                  rw [show l.map (Value.int IntKind.i64) ++ [Value.int IntKind.i64 y.key] = (l ++ [y.key]).map (Value.int IntKind.i64) from by simp] at this
                  simpa using this
                · exact gb_new (gb_alloc (gb_drewN (gb_alloc HGR.out _) nq) _) T2.out (fun g hg => .inl (HO.out.lt g hg).1)
              case measure => simp [intOf]; omega
          · obtain rfl : k = n := by omega
            go_wp2_with fail
            go_ret
            refine ⟨_, rfl, ?_, HGR.out⟩
            have := HO.out
            rw [HL.out, List.take_of_length_le (Nat.le_refl _)] at this
            rw [HY.out]
            exact this

set_option maxHeartbeats 1000000 in
theorem MovedKeys_spec (w : World) (A : Option Addr) (c lo hi : Nat) (L : List M.Item) (f t : Int) (hl : L.length ≤ 1048576) (hp : ∀ x ∈ L, x.pos.length ≤ 1048576) (hr : RdI w lo hi A L) (hhi : hi ≤ w.heap.size) :
    Calls Try.prog 18 #[.slice A L.length c, .int .i64 f, .int .i64 t] w fun e w' => ∃ v, e = .returned v ∧ OwnInts .i64 3 w' w.heap.size v (M.MovedKeys L f t) ∧ w.grownBy w' none := by
  have HR0 := Lib.hid hr
  have HR := Lib.hid ((hr.agree (fun b _ h => Below.heap_alloc w (.cells #[] 3) b (by omega))).wide (Nat.le_refl _) (show hi ≤ w.heap.size + 1 by omega))
  have HP := Lib.hid hp
  clear hr hp
  have HNO : Hid (∀ wx, ¬ (M.validStore L = true ∧ M.inR f 1 8 = true ∧ M.inR t 1 8 = true) → OwnInts .i64 3 wx w.heap.size (.slice none 0 0) (M.MovedKeys L f t)) := Lib.hid fun wx h => by
    unfold M.MovedKeys
    rw [if_neg h]
    exact World.ownsRow_nil _ _ _ _
  cases hv : M.validStore L
  · have HV := Lib.hid hv
    clear hv
    go_enter Try.func18, Try.ntmps18
    go_wp2_with fail
    refine (validStore_spec _ A c lo _ L hl HP.out HR.out (by simp)).mono ?_
    rintro e w1 ⟨rfl, hg1⟩
    rw [HV.out]
    have HG := Lib.hid (gb_trans (gb_alloc (gb_refl w none) _) hg1)
    have HZ := Lib.hid ((World.ownsRow_made w (base := w.heap.size) (e := 3) (size := 1) #[] 0 (Nat.le_refl _) (by decide) rfl).kept hg1 (.inr (by simp [Value.ownBlock])))
    clear hg1
    go_wp2_with fail
    go_ret
    exact ⟨_, rfl, HNO.out _ (by rw [HV.out]; simp), HG.out⟩
  · have HV := Lib.hid hv
    clear hv
    cases hf : M.inR f 1 8
    · have HF := Lib.hid hf
      go_enter Try.func18, Try.ntmps18
      go_wp2_with fail
      refine (validStore_spec _ A c lo _ L hl HP.out HR.out (by simp)).mono ?_
      rintro e w1 ⟨rfl, hg1⟩
      rw [HV.out]
      have HG := Lib.hid (gb_trans (gb_alloc (gb_refl w none) _) hg1)
      have HZ := Lib.hid ((World.ownsRow_made w (base := w.heap.size) (e := 3) (size := 1) #[] 0 (Nat.le_refl _) (by decide) rfl).kept hg1 (.inr (by simp [Value.ownBlock])))
      clear hg1
      go_wp2_with (go_at_call 47; refine (inRange_any _ _ _ _).mono ?_; rintro e w' ⟨rfl, rfl⟩)
      go_ret
      exact ⟨_, rfl, HNO.out _ (by rw [HF.out]; simp), HG.out⟩
    · cases ht : M.inR t 1 8
      · have HF := Lib.hid ht
        go_enter Try.func18, Try.ntmps18
        go_wp2_with fail
        refine (validStore_spec _ A c lo _ L hl HP.out HR.out (by simp)).mono ?_
        rintro e w1 ⟨rfl, hg1⟩
        rw [HV.out]
        have HG := Lib.hid (gb_trans (gb_alloc (gb_refl w none) _) hg1)
        have HZ := Lib.hid ((World.ownsRow_made w (base := w.heap.size) (e := 3) (size := 1) #[] 0 (Nat.le_refl _) (by decide) rfl).kept hg1 (.inr (by simp [Value.ownBlock])))
        clear hg1
        go_wp2_with (go_at_call 47; refine (inRange_any _ _ _ _).mono ?_; rintro e w' ⟨rfl, rfl⟩)
        go_ret
        exact ⟨_, rfl, HNO.out _ (by rw [HF.out]; simp), HG.out⟩
      · have a1 := M.inR_true hf
        have a2 := M.inR_true ht
        have HY := Lib.hid (show M.MovedKeys L f t = M.moved L f t by unfold M.MovedKeys; rw [if_pos ⟨HV.out, hf, ht⟩])
        have HVS := Lib.hid (M.validStore_of HV.out)
        obtain ⟨i0, hi0, hz0, hz1, hz2⟩ := info_parts info_int
        go_enter Try.func18, Try.ntmps18
        go_wp2_with fail
        refine (validStore_spec _ A c lo _ L hl HP.out HR.out (by simp)).mono ?_
        rintro e w1 ⟨rfl, hg1⟩
        rw [HV.out]
        have HG := Lib.hid (gb_trans (gb_alloc (gb_refl w none) _) hg1)
        have HZ := Lib.hid ((World.ownsRow_made w (base := w.heap.size) (e := 3) (size := 1) #[] 0 (Nat.le_refl _) (by decide) rfl).kept hg1 (.inr (by simp [Value.ownBlock])))
        clear hg1
        go_wp2_with (go_at_call 47; refine (inRange_any _ _ _ _).mono ?_; rintro e w' ⟨rfl, rfl⟩)
        obtain ⟨n, hn⟩ : ∃ n, n = L.length := ⟨_, rfl⟩
        have HL := Lib.hid hn
        have hn16 : n ≤ 16 := by rw [hn]; exact HVS.out.1
        rw [← hn]
        clear hn hl hf ht
        go_loopw [7, 8] (fun v i wr => ∃ k : Nat, k ≤ n ∧ i = .int .i64 k ∧ wr.ownsRow w.heap.size 3 1 v (M.moved (L.take k) f t).length ((M.moved (L.take k) f t).map (.int .i64)) ∧ w.grownBy wr none) (fun _ i _ => n - (intOf i).toNat)
        case atStart => exact ⟨0, Nat.zero_le _, rfl, HZ.out, HG.out⟩
        case round =>
          obtain ⟨k, hk, rfl, hown, hg⟩ := hrel
          have HO := Lib.hid hown
          have HGR := Lib.hid hg
          clear hown hg
          by_cases hlt : k < n
          · have hkl : k < L.length := by rw [← HL.out]; exact hlt
            obtain ⟨b, o, rfl, hb1, hb2, hI⟩ := HR0.out.at_ (List.getElem?_eq_getElem hkl)
            obtain ⟨u, c0, c1, c2, hu⟩ := hI.agree hb1 hb2 (fun b _ h => (Agree.of_grown HGR.out) b (Nat.zero_le _) (by omega))
            obtain ⟨Au, cu, rfl, hcu, hru⟩ := hu
            have HK := Lib.hid (moved_take hkl f t)
            have hky := key_range (HVS.out.2.1 _ (List.getElem_mem hkl))
            have hml : (M.moved (L.take k) f t).length ≤ 16 := by have := moved_le (L.take k) f t; rw [List.length_take] at this; omega
            clear hI hcu hru
            have kn : (k : Int) < n := by omega
            have k0 : (0 : Int) ≤ k := by omega
            generalize L[k] = y at *
            have HC1 : Hid (∀ W : World, Calls Try.prog 48 #[.int .i64 y.key, .int .i64 f] W fun e w' => e = .returned (.int .i64 (M.sh y.key f)) ∧ W = w') := Lib.hid fun W => shardOf_spec y.key f W hky.1 hky.2 a1.1 a1.2
            have HC2 : Hid (∀ W : World, Calls Try.prog 48 #[.int .i64 y.key, .int .i64 t] W fun e w' => e = .returned (.int .i64 (M.sh y.key t)) ∧ W = w') := Lib.hid fun W => shardOf_spec y.key t W hky.1 hky.2 a2.1 a2.2
            generalize hq1 : M.sh y.key f = q1 at *
            generalize hq2 : M.sh y.key t = q2 at *
            generalize M.moved (L.take k) f t = l at *
            have HQ1 := Lib.hid hq1
            clear hq1 hq2
            by_cases hq : q1 = q2
            · subst hq
              have tq : (q1 != q1) = false := by simp
              have HK2 : Hid (M.moved (L.take (k + 1)) f t = l) := Lib.hid (HK.out.trans (by rw [if_neg (fun h => h rfl), List.append_nil]))
              go_wp2_with fail
              go_quiet ((first | (go_at_call_of 48 f; exact quiet_here (HC1.out _)) | (go_at_call_of 48 t; exact quiet_here (HC2.out _))))
              go_wp2_with fail
              go_roundw
              case rel => exact ⟨k + 1, by omega, by go_num, by rw [HK2.out]; exact own_drewN HO.out _, gb_drewN HGR.out _⟩
              case measure => simp [intOf]; omega
            · have tq : (q1 != q2) = true := by simpa using hq
              have HK2 : Hid (M.moved (L.take (k + 1)) f t = l ++ [y.key]) := Lib.hid (HK.out.trans (by rw [if_pos hq]))
              clear hq
              go_wp2_with fail
              go_quiet ((first | (go_at_call_of 48 f; exact quiet_here (HC1.out _)) | (go_at_call_of 48 t; exact quiet_here (HC2.out _))))
              go_wp2_with (at_builtin; refine wpList_append_own _ rfl (.tmp 44) (.tmp 50) 34 rfl w.heap.size 3 i0 (.int .i64 0) 1 8 Try.underlying34 hi0 hz0 hz1 hz2 rfl (by decide) u7 l.length (l.map (.int .i64)) rfl ((own_drewN HO.out nq).alloc _) ⟨wr.heap.size, 0, none⟩ 1 1 [.int .i64 y.key] rfl rfl (one_cell_at (by simp)) (one_cells rfl) (by unfold maxLen; omega) (by omega) (by have := HGR.out.size; simp; omega) ?_; intro v' w4 hown' hgrow _; have T1 := Lib.hid hown'; have T2 := Lib.hid hgrow; clear hown' hgrow)
              go_roundw
              case rel =>
                refine ⟨k + 1, by omega, by go_num, ?_, ?_⟩
                · rw [HK2.out]
                  have := T1.out
                  rw [show l.map (Value.int IntKind.i64) ++ [Value.int IntKind.i64 y.key] = (l ++ [y.key]).map (Value.int IntKind.i64) from by simp] at this
                  simpa using this
                · exact gb_new (gb_alloc (gb_drewN HGR.out nq) _) T2.out (fun g hg => .inl (HO.out.lt g hg).1)
              case measure => simp [intOf]; omega
          · obtain rfl : k = n := by omega
            go_wp2_with fail
            go_ret
            refine ⟨_, rfl, ?_, HGR.out⟩
            have := HO.out
            rw [HL.out, List.take_of_length_le (Nat.le_refl _)] at this
            rw [HY.out]
            exact this

end Go.Proofs.Ythohidhhhknnaaa
