/- The walks of pages: bytes of stores. -/
import Derived.Test.YtbfilliflfmaoaaCheckW
import Derived.Test.YtbfilliflfmaoaaItemW
import Derived.Test.YtbfilliflfmaoaaCopyW
import Derived.Test.YtbfilliflfmaoaaPurePg
import Derived.Test.YtbfilliflfmaoaaKeep
namespace Go.Proofs.Ytbfilliflfmaoaa
open Go.RowKit
set_option linter.unusedVariables false

theorem info_u8' : (Try.prog.info? 5).map (fun i => (i.zero, i.size, i.bytes)) = some (some (.int .u8 0), 1, 1) := by kernel_rfl
theorem two_cell_at {w : World} {t : TypeId} {x y : Value} {g : Nat} (hg : g = w.heap.size) : ∀ (j : Nat) (u : Value), [x, y][j]? = some u → (w.alloc (.cells #[x, y] t)).cell? ((⟨g, 0, none⟩ : Addr).add j) = some u := by
  subst hg
  intro j u hu
  rw [Addr.add_lit, Nat.zero_add, cell_of_row _ _ _ #[x, y] t (0, 0) (heap_alloc_new w _)]
  simpa using hu
theorem two_cells {k : IntKind} {x y : Int} : ∀ u ∈ [Value.int k x, Value.int k y], u.oneCell' = true := by
  intro u hu
  simp at hu
  rcases hu with rfl | rfl <;> rfl
def pre (L : List M.Item) (k : Nat) : List Int := (L.length : Int) :: (L.take k).flatMap M.ib
theorem pre_succ {L : List M.Item} {k : Nat} (hk : k < L.length) : pre L (k + 1) = pre L k ++ M.ib L[k] := by
  unfold pre
  rw [List.take_succ_eq_append_getElem hk, List.flatMap_append]
  simp
set_option maxHeartbeats 2000000 in
theorem formatPage_impl (w : World) (A : Option Addr) (c : Nat) (L : List M.Item) (hr : RdI w 0 w.heap.size A L) (hv : M.validStore L = true) :
    Calls Try.prog 34 #[.slice A L.length c] w fun e w' => ∃ v, e = .returned v ∧ OwnInts .u8 5 w' w.heap.size v (M.page L) ∧ w.grownBy w' none := by
  obtain ⟨i0, hi0, hz0, hz1, hz2⟩ := info_parts info_u8'
  have HV := Lib.hid (M.validStore_of hv)
  obtain ⟨n, hn⟩ : ∃ n, n = L.length := ⟨_, rfl⟩
  have hn16 : n ≤ 16 := by rw [hn]; exact HV.out.1
  rw [← hn]
  have HL := Lib.hid hn
  have HR := Lib.hid hr
  clear hn hr hv
  go_enter Try.func34, Try.ntmps34
  go_wp2_with fail
  go_loopw [3, 14] (fun v i wr => ∃ k : Nat, k ≤ n ∧ i = .int .i64 k ∧ wr.ownsRow w.heap.size 5 1 v (1 + 6 * k) ((pre L k).map (.int .u8)) ∧ w.grownBy wr none) (fun _ i _ => n - (intOf i).toNat)
  case atStart =>
    refine ⟨0, Nat.zero_le _, rfl, ?_, gb_alloc (gb_refl _ _) _⟩
    have := World.ownsRow_lit (base := w.heap.size) (e := 5) (size := 1) w #[.int .u8 n] 1 (Nat.le_refl _) (by decide) rfl
    simpa [pre, ← HL.out] using this
  case round =>
    obtain ⟨k, hk, rfl, hown, hg⟩ := hrel
    have O := Lib.hid hown
    have G := Lib.hid hg
    have hszw := hg.size
    clear hown hg
    by_cases hlt : k < n
    · have hkl : k < L.length := by rw [← HL.out]; exact hlt
      obtain ⟨b, o, rfl, hb1, hb2, hI⟩ := HR.out.at_ (List.getElem?_eq_getElem hkl)
      obtain ⟨u, c0, c1, c2, hu⟩ := hI.agree hb1 hb2 (Agree.of_grown G.out)
      obtain ⟨Au, cu, rfl, hcu, hru⟩ := hu
      have HY := Lib.hid (M.validItem_iff.1 (HV.out.2.1 _ (List.getElem_mem hkl)))
      have hk0 : 0 ≤ L[k].key ∧ L[k].key ≤ 255 := by have := HY.out.1; omega
      have ht0 : 0 ≤ L[k].tags ∧ L[k].tags ≤ 255 := by have := HY.out.2.2; omega
      have HP := Lib.hid (pre_succ hkl)
      have HU := Lib.hid (show RdInts .i64 w 0 w.heap.size (.slice Au L[k].pos.length cu) L[k].pos from by
        obtain ⟨u', d0, d1, d2, hu'⟩ := hI
        have e : (some u') = some (Value.slice Au L[k].pos.length cu) := d1.symm.trans (((Agree.of_grown G.out).cell (p := ⟨b, o + k * 3 + 1, none⟩) hb1 hb2).symm.trans c1)
        injection e with e
        rw [← e]
        exact hu')
      clear hI hcu hru
      generalize L[k] = y at *
      obtain ⟨q, hq⟩ : ∃ q, q = y.pos.length := ⟨_, rfl⟩
      have hq4 : q = 4 := hq.trans HY.out.2.1.1
      rw [← hq] at c1
      have HQ4 := Lib.hid hq4
      have HQ := Lib.hid hq
      have hq9 : q ≤ 4 := by omega
      clear hq hq4
      have O2 := Lib.hid ((O.out.alloc (.cells #[.int .i64 y.key, .slice Au q cu, .int .i64 y.tags] 45)).alloc (.cells #[.int .u8 y.key, .int .u8 y.tags] 5))
      have B2 := Lib.hid ((Row.new wr 45 (ca := #[.int .i64 y.key, .slice Au q cu, .int .i64 y.tags]) rfl).alloc (.cells #[.int .u8 y.key, .int .u8 y.tags] 5))
      have hub : Hid (∀ b, u3.ownBlock = some b → w.heap.size ≤ b ∧ b < wr.heap.size) := Lib.hid fun b hb => O.out.lt b hb
      go_wp2_with (at_builtin; refine wpList_append_own _ rfl (.tmp 18) (.tmp 25) 24 rfl w.heap.size 5 i0 (.int .u8 0) 1 1 Try.underlying24 hi0 hz0 hz1 hz2 rfl (by decide) _ (1 + 6 * k) ((pre L k).map (.int .u8)) rfl (O2.out) ⟨wr.heap.size + 1, 0, none⟩ 2 2 [.int .u8 y.key, .int .u8 y.tags] rfl rfl (two_cell_at (by simp)) (two_cells) (by unfold maxLen; omega) (by omega) (by simp; omega) ?_; intro v' w4 hown' hgrow _; have T1 := Lib.hid hown'; have T2 := Lib.hid hgrow; clear hown' hgrow; have B4 := Lib.hid (B2.out.grown T2.out (fun e => by have := (hub.out _ e.symm).2; omega)); have d1 : w4.cell? ⟨wr.heap.size, 1, none⟩ = some (.slice Au q cu) := B4.out.cell 1)
      have G4 := Lib.hid (gb_new (gb_alloc (gb_alloc G.out (.cells #[.int .i64 y.key, .slice Au q cu, .int .i64 y.tags] 45)) (.cells #[.int .u8 y.key, .int .u8 y.tags] 5)) T2.out (fun b hb => .inl (hub.out b hb).1))
      clear T2 B2 O2 c0 c1 c2
      go_loopw [3, 30] (fun v i wr => ∃ j : Nat, j ≤ q ∧ i = .int .i64 j ∧ wr.ownsRow w.heap.size 5 1 v (1 + 6 * k + 2 + j) ((pre L k ++ [y.key, y.tags] ++ (y.pos.take j).map (· + 128)).map (.int .u8)) ∧ w.grownBy wr none) (fun _ i _ => q - (intOf i).toNat)
      case atStart => exact ⟨0, Nat.zero_le _, rfl, by simpa using T1.out, G4.out⟩
      case round =>
        obtain ⟨j, hj, rfl, hown, hg⟩ := hrel
        have O := Lib.hid hown
        have G := Lib.hid hg
        have hszv := hg.size
        clear hown hg
        by_cases hjq : j < q
        · have hjl : j < y.pos.length := by rw [← HQ.out]; exact hjq
          obtain ⟨b', o', hA', hb3, hb4, hc'⟩ := HU.out.rd.at_ (j := j) (u := .int .i64 y.pos[j]) (by simp [hjl])
          subst hA'
          have e0 : wr.cell? ⟨b', o' + j, none⟩ = some (.int .i64 y.pos[j]) := ((Agree.of_grown G.out).cell (p := ⟨b', o' + j, none⟩) (Nat.zero_le _) hb4).trans hc'
          have hx := HY.out.2.1.2 _ (List.getElem_mem hjl)
          have HT := Lib.hid (show (y.pos.take (j + 1)).map (· + 128) = (y.pos.take j).map (· + 128) ++ [y.pos[j] + 128] by rw [List.take_succ_eq_append_getElem hjl, List.map_append]; rfl)
          clear hc'
          generalize y.pos[j] = z at *
          have hub : Hid (∀ b, u3.ownBlock = some b → w.heap.size ≤ b) := Lib.hid fun b hb => (O.out.lt b hb).1
          go_wp2_with (at_builtin; refine wpList_append_own _ rfl (.tmp 34) (.tmp 38) 24 rfl w.heap.size 5 i0 (.int .u8 0) 1 1 Try.underlying24 hi0 hz0 hz1 hz2 rfl (by decide) _ (1 + 6 * k + 2 + j) ((pre L k ++ [y.key, y.tags] ++ (y.pos.take j).map (· + 128)).map (.int .u8)) rfl (O.out.alloc _) ⟨wr.heap.size, 0, none⟩ 1 1 [.int .u8 (z + 128)] rfl rfl (one_cell_new) (one_cells rfl) (by unfold maxLen; omega) (by omega) (by simp; omega) ?_; intro v' w4 hown' hgrow _; have T1 := Lib.hid hown'; have T2 := Lib.hid hgrow; clear hown' hgrow)
          go_roundw
          case rel =>
            refine ⟨j + 1, by omega, by go_num, ?_, gb_new (gb_alloc G.out _) T2.out (fun b hb => .inl (hub.out b hb))⟩
            rw [HT.out]
            have := T1.out
            rw [show 1 + 6 * k + 2 + j + 1 = 1 + 6 * k + 2 + (j + 1) by omega] at this
            simpa using this
          case measure => simp [intOf]; omega
        · obtain rfl : j = q := by omega
          go_wp2_with fail
          go_roundw
          case rel =>
            refine ⟨k + 1, by omega, by go_num, ?_, G.out⟩
            have := O.out
            rw [HQ.out, List.take_of_length_le (Nat.le_refl _), ← HQ.out, HQ4.out] at this
            rw [HP.out, show 1 + 6 * (k + 1) = 1 + 6 * k + 2 + 4 by omega]
            simpa [M.ib] using this
          case measure => simp [intOf]; omega
    · obtain rfl : k = n := by omega
      have HB : Hid (pre L k = M.body L) := Lib.hid (by unfold pre M.body; rw [HL.out, List.take_of_length_le (Nat.le_refl _)])
      rw [HB.out] at O
      have hbl : (M.body L).length = 1 + 6 * k := by have := O.out.1; simpa using this
      have HBL := Lib.hid hbl
      obtain ⟨Ao, co, hvo, hco, hro⟩ := OwnInts.rd (k := .u8) (t := 5) (l := M.body L) (show OwnInts .u8 5 wr w.heap.size u3 (M.body L) from by unfold OwnInts; rw [hbl]; exact O.out)
      subst hvo
      rw [hbl] at O ⊢
      have hch := M.chk_rng (M.body L)
      have HC := Lib.hid (checkOf_impl wr Ao co _ _ (M.body L) (by omega) (M.body_bytes (by rw [← HL.out]; omega) HV.out.2.1) hro)
      rw [hbl] at HC
      clear hbl hro hco
      go_wp2_with fail
      refine HC.out.mono ?_
      rintro e w' ⟨rfl, rfl⟩
      obtain ⟨z, hz⟩ : ∃ z, z = M.chk (M.body L) := ⟨_, rfl⟩
      have HZ := Lib.hid hz
      rw [← hz] at hch ⊢
      clear hz HC
      go_wp2_with (at_builtin; refine wpList_append_own _ rfl (.tmp 42) (.tmp 46) 24 rfl w.heap.size 5 i0 (.int .u8 0) 1 1 Try.underlying24 hi0 hz0 hz1 hz2 rfl (by decide) _ (1 + 6 * k) ((M.body L).map (.int .u8)) rfl (O.out.alloc _) ⟨wr.heap.size, 0, none⟩ 1 1 [.int .u8 z] rfl rfl (one_cell_new) (one_cells rfl) (by unfold maxLen; omega) (by omega) (by simp; omega) ?_; intro v' w4 hown' hgrow _; have T1 := Lib.hid hown'; have T2 := Lib.hid hgrow; clear hown' hgrow)
      go_ret
      refine ⟨v', rfl, ?_, gb_new (gb_alloc G.out _) T2.out (fun b hb => .inl (O.out.lt b hb).1)⟩
      unfold OwnInts
      have e : (M.page L).length = 1 + 6 * k + 1 := by unfold M.page; rw [List.length_append, HBL.out]; rfl
      rw [e]
      have := T1.out
      rw [HZ.out] at this
      simpa [M.page] using this
theorem FormatPage_impl {w : World} {A : Option Addr} {c : Nat} {L : List M.Item} (hl : L.length ≤ 1048576) (hp : ∀ x ∈ L, x.pos.length ≤ 1048576) (hr : RdI w 0 w.heap.size A L) :
    Calls Try.prog 13 #[.slice A L.length c] w fun e w' => ∃ v, e = .returned v ∧ OwnInts .u8 5 w' w.heap.size v (M.FormatPage L) ∧ w.grownBy w' none := by
  have HR := Lib.hid hr
  have HP := Lib.hid hp
  clear hr hp
  cases hv : M.validStore L
  · have HF : Hid (M.FormatPage L = []) := Lib.hid (by unfold M.FormatPage; rw [hv]; rfl)
    rw [HF.out]
    have HC := Lib.hid (hv ▸ ValidStore_impl w A c 0 w.heap.size L hl HP.out HR.out (Nat.le_refl _))
    clear hv
    go_enter Try.func13, Try.ntmps13
    go_wp2_with fail
    refine HC.out.mono ?_
    rintro e w1 ⟨rfl, hg⟩
    have G := Lib.hid hg
    clear hg
    go_wp2_with fail
    go_ret
    exact ⟨_, rfl, ⟨rfl, .inl ⟨rfl, rfl⟩⟩, G.out⟩
  · have HF : Hid (M.FormatPage L = M.page L) := Lib.hid (by unfold M.FormatPage; rw [hv]; rfl)
    rw [HF.out]
    have HV := Lib.hid hv
    have HC := Lib.hid (hv ▸ ValidStore_impl w A c 0 w.heap.size L hl HP.out HR.out (Nat.le_refl _))
    clear hv
    go_enter Try.func13, Try.ntmps13
    go_wp2_with fail
    refine HC.out.mono ?_
    rintro e w1 ⟨rfl, hg⟩
    have G := Lib.hid hg
    clear hg
    go_wp2_with fail
    refine (formatPage_impl w1 A c L ((HR.out.keep G.out (Nat.le_refl _)).wide (Nat.le_refl _) G.out.size) HV.out).mono ?_
    rintro e w2 ⟨v, rfl, ho, hg⟩
    have O := Lib.hid ho
    have hs := G.out.size
    have G2 := Lib.hid (gb_trans G.out hg)
    clear hg ho
    go_wp2_with fail
    go_ret
    exact ⟨_, rfl, OwnInts.wide (k := .u8) (t := 5) O.out hs, G2.out⟩

/-- the bytes of an item -/
theorem itemBytes_spec (w : World) (u : Value) (x : M.Item) (hv : M.validItem x = true) (hr : RdInts .i64 w 0 w.heap.size u x.pos) :
    Calls Try.prog 31 #[.agg #[.int .i64 x.key, u, .int .i64 x.tags]] w fun e w' => ∃ v, e = .returned v ∧ OwnInts .u8 5 w' w.heap.size v (M.ib x) ∧ w.grownBy w' none := by
  obtain ⟨i0, hi0, hz0, hz1, hz2⟩ := info_parts info_u8'
  obtain ⟨Au, cu, rfl, hcu, hru⟩ := hr
  have HY := Lib.hid (M.validItem_iff.1 hv)
  have hk0 : 0 ≤ x.key ∧ x.key ≤ 255 := by have := HY.out.1; omega
  have ht0 : 0 ≤ x.tags ∧ x.tags ≤ 255 := by have := HY.out.2.2; omega
  have HU := Lib.hid hru
  obtain ⟨q, hq⟩ : ∃ q, q = x.pos.length := ⟨_, rfl⟩
  have hq4 : q = 4 := hq.trans HY.out.2.1.1
  rw [← hq]
  have HQ4 := Lib.hid hq4
  have HQ := Lib.hid hq
  have hq9 : q ≤ 4 := by omega
  clear hq hq4 hru hcu hv
  go_enter Try.func31, Try.ntmps31
  go_wp2_with fail
  go_loopw [3, 4] (fun v i wr => ∃ j : Nat, j ≤ q ∧ i = .int .i64 j ∧ Row wr w.heap.size 45 [.int .i64 x.key, .slice Au q cu, .int .i64 x.tags] ∧ wr.ownsRow (w.heap.size + 1) 5 1 v (2 + j) ((x.key :: x.tags :: (x.pos.take j).map (· + 128)).map (.int .u8)) ∧ w.grownBy wr none) (fun _ i _ => q - (intOf i).toNat)
  case atStart =>
    refine ⟨0, Nat.zero_le _, rfl, (Row.new w _ rfl).alloc _, ?_, gb_alloc (gb_alloc (gb_refl _ _) _) _⟩
    have := World.ownsRow_lit (base := w.heap.size + 1) (e := 5) (size := 1) (w.alloc (.cells #[.int .i64 x.key, .slice Au q cu, .int .i64 x.tags] 45)) #[.int .u8 x.key, .int .u8 x.tags] 2 (by simp) (by decide) rfl
    simpa using this
  case round =>
    obtain ⟨j, hj, rfl, hbox, hown, hg⟩ := hrel
    have B := Lib.hid hbox
    have O := Lib.hid hown
    have G := Lib.hid hg
    have hszv := hbox.lt
    have b1 : wr.cell? ⟨w.heap.size, 1, none⟩ = some (.slice Au q cu) := hbox.cell 1
    clear hown hg hbox
    by_cases hjq : j < q
    · have hjl : j < x.pos.length := by rw [← HQ.out]; exact hjq
      obtain ⟨b', o', hA', hb3, hb4, hc'⟩ := HU.out.at_ (j := j) (u := .int .i64 x.pos[j]) (by simp [hjl])
      subst hA'
      have e0 : wr.cell? ⟨b', o' + j, none⟩ = some (.int .i64 x.pos[j]) := ((Agree.of_grown G.out).cell (p := ⟨b', o' + j, none⟩) (Nat.zero_le _) hb4).trans hc'
      have hx := HY.out.2.1.2 _ (List.getElem_mem hjl)
      have HT := Lib.hid (show (x.pos.take (j + 1)).map (· + 128) = (x.pos.take j).map (· + 128) ++ [x.pos[j] + 128] by rw [List.take_succ_eq_append_getElem hjl, List.map_append]; rfl)
      clear hc'
      generalize x.pos[j] = z at *
      have hub : Hid (∀ b, u3.ownBlock = some b → w.heap.size + 1 ≤ b) := Lib.hid fun b hb => (O.out.lt b hb).1
      go_wp2_with (at_builtin; refine wpList_append_own _ rfl (.tmp 19) (.tmp 27) 24 rfl (w.heap.size + 1) 5 i0 (.int .u8 0) 1 1 Try.underlying24 hi0 hz0 hz1 hz2 rfl (by decide) _ (2 + j) ((x.key :: x.tags :: (x.pos.take j).map (· + 128)).map (.int .u8)) rfl (O.out.alloc _) ⟨wr.heap.size, 0, none⟩ 1 1 [.int .u8 (z + 128)] rfl rfl one_cell_new (one_cells rfl) (by unfold maxLen; omega) (by omega) (by simp; omega) ?_; intro v' w4 hown' hgrow _; have T1 := Lib.hid hown'; have T2 := Lib.hid hgrow; clear hown' hgrow)
      go_roundw
      case rel =>
        refine ⟨j + 1, by omega, by go_num, (B.out.alloc _).grown T2.out (fun e => by have := hub.out _ e.symm; omega), ?_, gb_new (gb_alloc G.out _) T2.out (fun b hb => .inl (by have := hub.out b hb; omega))⟩
        rw [HT.out]
        have := T1.out
        rw [show 2 + j + 1 = 2 + (j + 1) by omega] at this
        simpa using this
      case measure => simp [intOf]; omega
    · obtain rfl : j = q := by omega
      have HL6 := Lib.hid (M.ib_length (x := x) (M.validItem_iff.2 HY.out))
      go_wp2_with fail
      go_ret
      refine ⟨_, rfl, ?_, G.out⟩
      have := O.out
      rw [HQ.out, List.take_of_length_le (Nat.le_refl _), ← HQ.out, HQ4.out] at this
      exact OwnInts.wide (k := .u8) (l := M.ib x) (lo := w.heap.size + 1) (lo' := w.heap.size) (by unfold OwnInts; rw [HL6.out]; exact this) (by omega)
set_option maxHeartbeats 2000000 in
theorem FormatPage_spec {w : World} {A : Option Addr} {c : Nat} {L : List M.Item} (hl : L.length ≤ 1048576) (hp : ∀ x ∈ L, x.pos.length ≤ 1048576) (hr : RdI w 0 w.heap.size A L) :
    Calls Try.prog 11 #[.slice A L.length c] w fun e w' => ∃ v, e = .returned v ∧ OwnInts .u8 5 w' w.heap.size v (M.FormatPage L) ∧ w.grownBy w' none := by
  obtain ⟨i0, hi0, hz0, hz1, hz2⟩ := info_parts info_u8'
  have HR := Lib.hid hr
  have HP := Lib.hid hp
  clear hr hp
  have HC := Lib.hid (validStore_spec w A c 0 w.heap.size L hl HP.out HR.out (Nat.le_refl _))
  cases hv : M.validStore L
  · have HF : Hid (M.FormatPage L = []) := Lib.hid (by unfold M.FormatPage; rw [hv]; rfl)
    rw [HF.out]
    rw [hv] at HC
    clear hv
    go_enter Try.func11, Try.ntmps11
    go_wp2_with fail
    refine HC.out.mono ?_
    rintro e w1 ⟨rfl, hg⟩
    have G := Lib.hid hg
    clear hg
    go_wp2_with fail
    go_ret
    exact ⟨_, rfl, ⟨rfl, .inl ⟨rfl, rfl⟩⟩, G.out⟩
  · have HF : Hid (M.FormatPage L = M.page L) := Lib.hid (by unfold M.FormatPage; rw [hv]; rfl)
    rw [HF.out]
    rw [hv] at HC
    have HV := Lib.hid (M.validStore_of hv)
    clear hv HF
    obtain ⟨n, hn⟩ : ∃ n, n = L.length := ⟨_, rfl⟩
    have hn16 : n ≤ 16 := by rw [hn]; exact HV.out.1
    rw [← hn] at HC hl ⊢
    have HL := Lib.hid hn
    clear hn
    go_enter Try.func11, Try.ntmps11
    go_wp2_with fail
    refine HC.out.mono ?_
    rintro e w1 ⟨rfl, hg⟩
    have G1 := Lib.hid hg
    have hs1 := hg.size
    have HR1 := Lib.hid ((HR.out.keep hg (Nat.le_refl _)).wide (Nat.le_refl _) hg.size)
    clear hg HC
    go_wp2_with fail
    go_loopw [3, 4] (fun v i wr => ∃ k : Nat, k ≤ n ∧ i = .int .i64 k ∧ wr.ownsRow w1.heap.size 5 1 v (1 + 6 * k) ((pre L k).map (.int .u8)) ∧ w1.grownBy wr none) (fun _ i _ => n - (intOf i).toNat)
    case atStart =>
      refine ⟨0, Nat.zero_le _, rfl, ?_, gb_alloc (gb_refl _ _) _⟩
      have := World.ownsRow_lit (base := w1.heap.size) (e := 5) (size := 1) w1 #[.int .u8 n] 1 (Nat.le_refl _) (by decide) rfl
      simpa [pre, ← HL.out] using this
    case round =>
      obtain ⟨k, hk, rfl, hown, hg⟩ := hrel
      have O := Lib.hid hown
      have G := Lib.hid hg
      have hszw := hg.size
      clear hown hg
      by_cases hlt : k < n
      · have hkl : k < L.length := by rw [← HL.out]; exact hlt
        obtain ⟨b, o, rfl, hb1, hb2, hI⟩ := HR1.out.at_ (List.getElem?_eq_getElem hkl)
        obtain ⟨u, c0, c1, c2, hu⟩ := hI.agree hb1 hb2 (Agree.of_grown G.out)
        have HC := Lib.hid (itemBytes_spec wr u L[k] (HV.out.2.1 _ (List.getElem_mem hkl)) (hu.wide (Nat.le_refl _) hszw))
        have HI6 := Lib.hid (M.ib_length (HV.out.2.1 _ (List.getElem_mem hkl)))
        obtain ⟨Au, cu, rfl, hcu, hru⟩ := hu
        have HPR := Lib.hid (pre_succ hkl)
        have kn : (k : Int) < n := by omega
        clear hI hcu hru
        generalize L[k] = y at *
        go_wp2_with fail
        refine HC.out.mono ?_
        rintro e w2 ⟨v2, rfl, ho2, hg2⟩
        obtain ⟨A2, c2', rfl, hc2, hr2⟩ := OwnInts.rd ho2
        rw [HI6.out] at hc2 ⊢
        have R2 := Lib.hid hr2
        have G2 := Lib.hid (gb_trans G.out hg2)
        have O2 := Lib.hid (O.out.kept hg2 (own_ge O.out (by simp)))
        have hs2 := hg2.size
        clear ho2 hr2 hg2
        go_wp2_with (at_builtin; refine wpList_append_rd _ rfl (.tmp 18) (.tmp 23) 24 rfl w1.heap.size 5 i0 (.int .u8 0) 1 1 Try.underlying24 hi0 hz0 hz1 hz2 rfl (by decide) _ (1 + 6 * k) ((pre L k).map (.int .u8)) rfl O2.out A2 6 c2' _ _ ((M.ib y).map (.int .u8)) rfl (by simpa using HI6.out) R2.out (ints_oneCell _ _) (by unfold maxLen; omega) (by omega) (by omega) ?_; intro v' w4 hown' hgrow; have T1 := Lib.hid hown'; have T2 := Lib.hid hgrow; clear hown' hgrow)
        go_roundw
        case rel =>
          refine ⟨k + 1, by omega, by go_num, ?_, gb_new G2.out T2.out (fun b hb => .inl (O.out.lt b hb).1)⟩
          rw [HPR.out, show 1 + 6 * (k + 1) = 1 + 6 * k + 6 by omega, List.map_append]
          exact T1.out
        case measure => simp [intOf]; omega
      · obtain rfl : k = n := by omega
        have HB : Hid (pre L k = M.body L) := Lib.hid (by unfold pre M.body; rw [HL.out, List.take_of_length_le (Nat.le_refl _)])
        rw [HB.out] at O
        have hbl : (M.body L).length = 1 + 6 * k := by have := O.out.1; simpa using this
        have HBL := Lib.hid hbl
        obtain ⟨Ao, co, hvo, hco, hro⟩ := OwnInts.rd (k := .u8) (t := 5) (l := M.body L) (show OwnInts .u8 5 wr w1.heap.size u3 (M.body L) from by unfold OwnInts; rw [hbl]; exact O.out)
        subst hvo
        rw [hbl] at O ⊢
        have hch := M.chk_rng (M.body L)
        have HC := Lib.hid (checkOf_spec wr Ao co _ _ (M.body L) (by omega) (M.body_bytes (by rw [← HL.out]; omega) HV.out.2.1) hro)
        rw [hbl] at HC
        clear hbl hro hco
        go_wp2_with fail
        refine HC.out.mono ?_
        rintro e w' ⟨rfl, rfl⟩
        obtain ⟨z, hz⟩ : ∃ z, z = M.chk (M.body L) := ⟨_, rfl⟩
        have HZ := Lib.hid hz
        rw [← hz] at hch ⊢
        clear hz HC
        go_wp2_with (at_builtin; refine wpList_append_own _ rfl (.tmp 25) (.tmp 29) 24 rfl w1.heap.size 5 i0 (.int .u8 0) 1 1 Try.underlying24 hi0 hz0 hz1 hz2 rfl (by decide) _ (1 + 6 * k) ((M.body L).map (.int .u8)) rfl (O.out.alloc _) ⟨wr.heap.size, 0, none⟩ 1 1 [.int .u8 z] rfl rfl one_cell_new (one_cells rfl) (by unfold maxLen; omega) (by omega) (by simp; omega) ?_; intro v' w4 hown' hgrow _; have T1 := Lib.hid hown'; have T2 := Lib.hid hgrow; clear hown' hgrow)
        go_ret
        refine ⟨v', rfl, OwnInts.wide (lo := w1.heap.size) (lo' := w.heap.size) ?_ hs1, gb_trans G1.out (gb_new (gb_alloc G.out _) T2.out (fun b hb => .inl (O.out.lt b hb).1))⟩
        unfold OwnInts
        have e : (M.page L).length = 1 + 6 * k + 1 := by unfold M.page; rw [List.length_append, HBL.out]; rfl
        rw [e]
        have := T1.out
        rw [HZ.out] at this
        simpa [M.page] using this

end Go.Proofs.Ytbfilliflfmaoaa
