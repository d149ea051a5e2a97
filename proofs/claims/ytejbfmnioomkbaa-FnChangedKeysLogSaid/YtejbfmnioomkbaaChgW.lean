/- The walks of changed keys. -/
import Derived.Test.YtejbfmnioomkbaaHisA
import Derived.Test.YtejbfmnioomkbaaBetW
import Derived.Deep.RegionHeld3
namespace Go.Proofs.Ytejbfmnioomkbaa
open Go.RowKit
set_option linter.unusedVariables false
set_option linter.unusedSimpArgs false
set_option maxRecDepth 100000

/-- numbers are handed back, in memory of their own -/
def IntsMade (w : World) (L : List Int) (e : Ending) (w' : World) : Prop := ∃ A c, e = .returned (.slice A L.length c) ∧ L.length ≤ c ∧ OwnInts .i64 3 w' w.heap.size (.slice A L.length c) L ∧ w.grownBy w' none
theorem intsMade_nil {w w' : World} {L : List Int} (hL : L = []) (h : w.grownBy w' none) : IntsMade w L (.returned (.slice none 0 0)) w' := by
  subst hL
  exact ⟨none, 0, rfl, Nat.le_refl _, ⟨rfl, .inl ⟨rfl, rfl⟩⟩, h⟩
theorem intsMade_of {w w0 w' : World} {L : List Int} {v : Value} (ho : OwnInts .i64 3 w' w0.heap.size v L) (h0 : w.heap.size ≤ w0.heap.size) (h : w.grownBy w' none) : IntsMade w L (.returned v) w' := by
  obtain ⟨A, c, rfl, hc, _⟩ := ho.rd
  exact ⟨A, c, rfl, hc, OwnInts.wide ho h0, h⟩
theorem keys99_len : M.keys99.length = 99 := by simp [M.keys99]
theorem keys99_take {k : Nat} (hk : k < 99) : M.keys99.take (k + 1) = M.keys99.take k ++ [(k : Int) + 1] := by
  rw [List.take_succ_eq_append_getElem (by rw [keys99_len]; exact hk)]
  simp [M.keys99]
theorem chg_step {f : Int → Bool} {k : Nat} {xs : List Int} (hk : k < 99) (hx : xs = (M.keys99.take k).filter f) {b : Bool} (hb : f ((k : Int) + 1) = b) : (M.keys99.take (k + 1)).filter f = if b = true then xs ++ [(k : Int) + 1] else xs := by
  rw [keys99_take hk, List.filter_append, ← hx]
  cases b <;> simp [hb]
theorem get_find (L : List M.Item) (k : Int) : M.get L k = L.find? (fun x => decide (x.key = k)) := rfl
theorem intsMade_of' {w w' : World} {lo : Nat} {L : List Int} {v : Value} (ho : OwnInts .i64 3 w' lo v L) (h0 : w.heap.size ≤ lo) (h : w.grownBy w' none) : IntsMade w L (.returned v) w' := by
  obtain ⟨A, c, rfl, hc, _⟩ := ho.rd
  exact ⟨A, c, rfl, hc, OwnInts.wide ho h0, h⟩
theorem ownItems_rd {w : World} {lo n c : Nat} {A : Option Addr} {L : List M.Item} (h : OwnItems w lo (.slice A n c) L) : RdI w lo w.heap.size A L := h.rd.rd
/-- the blocks from lo on, below hi, are as they were -/
def HeldZ (lo hi : Nat) (w0 W : World) : Prop := Agree lo hi w0 W ∧ hi ≤ W.heap.size
theorem HeldZ.now {lo : Nat} {w0 : World} : HeldZ lo w0.heap.size w0 w0 := ⟨fun _ _ _ => rfl, Nat.le_refl _⟩
theorem HeldZ.by_ {lo hi : Nat} {w0 W W' : World} {r : Option Nat} (h : HeldZ lo hi w0 W) (hg : W.grownBy W' r) (hr : ∀ b, r = some b → b < lo ∨ hi ≤ b) : HeldZ lo hi w0 W' :=
  ⟨fun b h1 h2 => (hg.block b (by have := h.2; omega) (fun e => by have := hr b e.symm; omega)).trans (h.1 b h1 h2), by have := h.2; have := hg.size; omega⟩
theorem HeldZ.on {lo hi : Nat} {w0 W W' : World} (h : HeldZ lo hi w0 W) (hg : W.grownBy W' none) : HeldZ lo hi w0 W' := h.by_ hg (by simp)
set_option maxHeartbeats 4000000 in
theorem ChangedKeys_impl {w : World} {A B : Option Addr} {c d : Nat} {h : M.Hist} {a b : Int} (D : SeesH w A B h) (hd : h.times.length ≤ d) :
    Calls Try.prog 6 #[.agg #[.slice A h.log.length c, .slice B h.times.length d], .int .i64 a, .int .i64 b] w (IntsMade w (M.ChangedKeys h a b)) := by
  have G0 := Lib.hid (World.grownBy_alloc w (.cells #[.slice A h.log.length c, .slice B h.times.length d] 26) none)
  have HV := Lib.hid (isHistory_impl (c := c) (d := d) (D.on G0.out))
  have B0 := Lib.hid (Row.new w 26 (ca := #[.slice A h.log.length c, .slice B h.times.length d]) rfl)
  have HNIL : Hid (¬ (M.validHist h = true ∧ (0 ≤ a ∧ a ≤ 1000) ∧ (0 ≤ b ∧ b ≤ 1000)) → M.ChangedKeys h a b = []) := Lib.hid fun hn => by
    unfold M.ChangedKeys
    rw [if_neg]
    rintro ⟨h1, h2, h3⟩
    exact hn ⟨h1, M.inR_true h2, M.inR_true h3⟩
  cases hv : M.validHist h
  · have HY : Hid (M.ChangedKeys h a b = []) := Lib.hid (HNIL.out (by rw [hv]; rintro ⟨h, _⟩; cases h))
    rw [HY.out]
    rw [hv] at HV
    clear hv D hd HNIL
    generalize h.log.length = m at *
    generalize h.times.length = n at *
    go_enter Try.func6, Try.ntmps6
    go_wp2_with fail
    refine HV.out.mono ?_
    rintro e w1 ⟨rfl, hg⟩
    go_wp2_with fail
    go_ret
    exact intsMade_nil rfl (gb_trans G0.out hg)
  · rw [hv] at HV
    by_cases hab : (0 ≤ a ∧ a ≤ 1000) ∧ (0 ≤ b ∧ b ≤ 1000)
    · obtain ⟨La, hLa⟩ : ∃ La, La = M.storeAt h a := ⟨_, rfl⟩
      obtain ⟨Lb, hLb⟩ : ∃ Lb, Lb = M.storeAt h b := ⟨_, rfl⟩
      have HY : Hid (M.ChangedKeys h a b = M.changed La Lb) := Lib.hid (by
        unfold M.ChangedKeys
        rw [if_pos ⟨hv, by simp [M.inR, hab.1], by simp [M.inR, hab.2]⟩, hLa, hLb])
      rw [HY.out]
      have HSA : Hid (∀ W, w.grownBy W none → Calls Try.prog 19 #[.agg #[.slice A h.log.length c, .slice B h.times.length d], .int .i64 a] W (ItemsMade W La)) := Lib.hid fun W hW => by rw [hLa]; exact storeAt_impl (D.on hW) hv hd
      have HSB0 : Hid (∀ W, w.grownBy W none → Calls Try.prog 19 #[.agg #[.slice A h.log.length c, .slice B h.times.length d], .int .i64 b] W (ItemsMade W Lb)) := Lib.hid fun W hW => by rw [hLb]; exact storeAt_impl (D.on hW) hv hd
      have HSMA : Hid (Small La) := Lib.hid (by rw [hLa]; exact Small.of_valid (M.store_valid h a))
      have HSMB : Hid (Small Lb) := Lib.hid (by rw [hLb]; exact Small.of_valid (M.store_valid h b))
      have a0 : ¬ a < 0 := by omega
      have a1 : ¬ 1000 < a := by omega
      have b0 : ¬ b < 0 := by omega
      have b1 : ¬ 1000 < b := by omega
      clear hv hab hLa hLb HNIL HY D hd
      obtain ⟨m', hm'⟩ : ∃ m', m' = h.log.length := ⟨_, rfl⟩
      obtain ⟨n', hn'⟩ : ∃ n', n' = h.times.length := ⟨_, rfl⟩
      rw [← hm', ← hn'] at G0 HV B0 HSA HSB0
      rw [← hm', ← hn']
      clear hm' hn'
      go_enter Try.func6, Try.ntmps6
      go_wp2_with fail
      refine HV.out.mono ?_
      rintro e w1 ⟨rfl, hg⟩
      have G1 := Lib.hid (gb_trans G0.out hg)
      have R1 := Lib.hid (B0.out.grown hg (by simp))
      have q0 := R1.out.cell 0
      have q1 := R1.out.cell 1
      simp only [List.getElem?_cons_zero, List.getElem?_cons_succ] at q0 q1
      have HCE : Hid (∀ V, w1.grownBy V none → V.cell? ⟨w.heap.size, 0, none⟩ = some (.slice A m' c) ∧ V.cell? ⟨w.heap.size, 1, none⟩ = some (.slice B n' d)) := Lib.hid fun V hV => ⟨hV.cell q0 (by simp), hV.cell q1 (by simp)⟩
      clear hg HV
      go_wp2_with fail
      go_region_held3 (fun V => V.cell? ⟨w.heap.size, 0, none⟩ = some (.slice A m' c) ∧ V.cell? ⟨w.heap.size, 1, none⟩ = some (.slice B n' d))
        (first | exact HCE.out _ S3.out | exact HCE.out _ S2.out | exact HCE.out _ (gb_drew (gb_refl _ _)))
        (first
          | (go_at_call 19; refine (HSB0.out _ (gb_trans G1.out S2.out)).mono ?_; rintro e w3 ⟨Ab, cb, rfl, hcb, hob, hg⟩; have DB := Lib.hid (hob.sees HSMB.out); have K3 := Lib.hid hg; have S3 : Hid (w1.grownBy w3 none) := Lib.hid (gb_trans S2.out hg); clear hob hg)
          | (go_at_call 19; refine (HSA.out w1.drew (gb_drew G1.out)).mono ?_; rintro e w2 ⟨Aa, ca, rfl, hca, hoa, hg⟩; have DA := Lib.hid (hoa.sees HSMA.out); have S2 : Hid (w1.grownBy w2 none) := Lib.hid (gb_trans (gb_drew (gb_refl w1 none)) hg); clear hoa hg))
      replace DA := Lib.hid (DA.out.on K3.out)
      have GW0 : Hid (w.grownBy w3 none) := Lib.hid (gb_trans G1.out S3.out)
      have HW0 := Lib.hid GW0.out.size
      clear HSA HSB0 HCE q0 q1 R1 B0 G0 G1 S2 S3 K3
      obtain ⟨w0, hw0⟩ : ∃ w0 : World, w0 = w3 := ⟨_, rfl⟩
      subst hw0
      clear hca hcb
      obtain ⟨i0, hi0, hz0, hz1, hz2⟩ := info_parts info_int'
      have hl1 : La.length ≤ 1048576 := DA.out.2.1
      have hl2 : Lb.length ≤ 1048576 := DB.out.2.1
      obtain ⟨n, hn⟩ : ∃ n, n = La.length := ⟨_, rfl⟩
      obtain ⟨m, hm⟩ : ∃ m, m = Lb.length := ⟨_, rfl⟩
      have HN := Lib.hid hn
      have HM := Lib.hid hm
      rw [← hn] at hl1 ⊢
      rw [← hm] at hl2 ⊢
      clear hn hm
      have O0 := Lib.hid (World.ownsRow_made (base := w0.heap.size) (e := 3) (size := 1) w0 #[] 0 (Nat.le_refl _) (by decide) rfl)
      go_wp2_with fail
      go_loopw [9, 10] (fun out i wr => ∃ (k : Nat) (xs : List Int), k ≤ 99 ∧ i = .int .i64 ((k : Int) + 1) ∧ xs.length ≤ k ∧ Hid (xs = (M.keys99.take k).filter (fun q => M.differ (M.get La q) (M.get Lb q))) ∧ OwnInts .i64 3 wr w0.heap.size out xs ∧ w0.grownBy wr none) (fun _ i _ => 100 - (intOf i).toNat)
      case atStart => exact ⟨0, [], by omega, rfl, Nat.le_refl _, Lib.hid (by simp), (by simpa [OwnInts] using O0.out), gb_alloc (gb_refl _ _) _⟩
      case round =>
        obtain ⟨k, xs, hk, rfl, hxl, HX, ho, hg⟩ := hrel
        have O := Lib.hid ho
        have G := Lib.hid hg
        clear ho hg O0
        by_cases hlt : k < 99
        · have kn : (k : Int) + 1 ≤ 99 := by omega
          have HSB := Lib.hid (fun b (hb : M.differ (M.get La ((k : Int) + 1)) (M.get Lb ((k : Int) + 1)) = b) => chg_step (f := fun q => M.differ (M.get La q) (M.get Lb q)) hlt HX.out hb)
          have HKA : Hid (∀ W, w0.grownBy W none → Calls Try.prog 20 #[.slice Aa n ca, .int .i64 ((k : Int) + 1)] W fun e w' => e = .returned (.int .i64 (M.keyAt La ((k : Int) + 1))) ∧ W.grownBy w' none) := Lib.hid fun W hW => by rw [HN.out]; exact indexOf_impl (DA.out.on hW)
          have HKB : Hid (∀ W, w0.grownBy W none → Calls Try.prog 20 #[.slice Ab m cb, .int .i64 ((k : Int) + 1)] W fun e w' => e = .returned (.int .i64 (M.keyAt Lb ((k : Int) + 1))) ∧ W.grownBy w' none) := Lib.hid fun W hW => by rw [HM.out]; exact indexOf_impl (DB.out.on hW)
          rcases M.keyAt_cases La ((k : Int) + 1) with ⟨hq, hf⟩ | ⟨i, hi, hq, hf⟩
          · rw [hq] at HKA
            rcases M.keyAt_cases Lb ((k : Int) + 1) with ⟨hq', hf'⟩ | ⟨j, hj, hq', hf'⟩
            · rw [hq'] at HKB
              have HST := Lib.hid (HSB.out false (by rw [get_find, get_find, hf, hf']; rfl))
              clear hq hf hq' hf'
              go_wp2_with fail
              refine (HKA.out _ G.out).mono ?_
              rintro e w2 ⟨rfl, hg2⟩
              have G2 := Lib.hid (gb_trans G.out hg2)
              go_wp2_with fail
              refine (HKB.out _ G2.out).mono ?_
              rintro e w3 ⟨rfl, hg3⟩
              have G3 := Lib.hid (gb_trans hg2 hg3)
              clear hg2 hg3
              go_wp2_with fail
              refine wp_region_later (by kernel_rfl) (by kernel_rfl) ?_
              repeat (go_big_quiet_step ((fail)))
              refine wpQuiet_nil ?_
              rintro _ ⟨x, rfl⟩
              have hx := x.h
              have G4 := Lib.hid (gb_trans G3.out hx)
              generalize x.w = w4 at *
              clear hx
              have hs4 := (gb_trans G.out G4.out).size
              go_wp2_with fail
              go_roundw
              case rel => exact ⟨k + 1, xs, by omega, by go_num, by omega, Lib.hid (by rw [HST.out]; rfl), O.out.grown G4.out (by simp), gb_trans G.out G4.out⟩
              case measure => simp [intOf]; omega
            · rw [hq'] at HKB
              have HST := Lib.hid (HSB.out true (by rw [get_find, get_find, hf, hf']; rfl))
              have j0' : decide ((j : Int) < 0) = false := by simp
              clear hq hf hq' hf'
              go_wp2_with fail
              refine (HKA.out _ G.out).mono ?_
              rintro e w2 ⟨rfl, hg2⟩
              have G2 := Lib.hid (gb_trans G.out hg2)
              go_wp2_with fail
              refine (HKB.out _ G2.out).mono ?_
              rintro e w3 ⟨rfl, hg3⟩
              have G3 := Lib.hid (gb_trans hg2 hg3)
              clear hg2 hg3
              go_wp2_with fail
              refine wp_region_later (by kernel_rfl) (by kernel_rfl) ?_
              repeat (go_big_quiet_step ((fail)))
              refine wpQuiet_nil ?_
              rintro _ ⟨x, rfl⟩
              have hx := x.h
              have G4 := Lib.hid (gb_trans G3.out hx)
              generalize x.w = w4 at *
              clear hx
              have hs4 := (gb_trans G.out G4.out).size
              obtain ⟨Ao, co, hvo, hco, _⟩ := O.out.rd
              subst hvo
              go_wp2_with (at_builtin; refine wpList_append_own _ rfl (.tmp 70) (.tmp 72) 24 rfl w0.heap.size 3 i0 (.int .i64 0) 1 8 Try.underlying24 hi0 hz0 hz1 hz2 rfl (by decide) _ xs.length (xs.map (.int .i64)) rfl ((show w4.ownsRow w0.heap.size 3 1 _ xs.length (xs.map (.int .i64)) from (O.out.grown G4.out (by simp))).alloc _) ⟨w4.heap.size, 0, none⟩ 1 1 [.int .i64 ((k : Int) + 1)] rfl rfl one_cell_new (one_cells rfl) (by unfold maxLen; omega) (by omega) (by simp; omega) ?_; intro v' w6 hown' hgrow _; have T1 := Lib.hid hown'; have T2 := Lib.hid hgrow; clear hown' hgrow)
              go_roundw
              case rel =>
                refine ⟨k + 1, xs ++ [(k : Int) + 1], by omega, by go_num, by simp; omega, Lib.hid (by rw [HST.out]; rfl), ?_, gb_new (gb_alloc (gb_trans G.out G4.out) (.cells #[.int .i64 ((k : Int) + 1)] 3)) T2.out (fun b hb => .inl (O.out.lt b hb).1)⟩
                unfold OwnInts
                rw [List.map_append, List.length_append]
                exact T1.out
              case measure => simp [intOf]; omega
          · rw [hq] at HKA
            have i0' : decide ((i : Int) < 0) = false := by simp
            rcases M.keyAt_cases Lb ((k : Int) + 1) with ⟨hq', hf'⟩ | ⟨j, hj, hq', hf'⟩
            · rw [hq'] at HKB
              have HST := Lib.hid (HSB.out true (by rw [get_find, get_find, hf, hf']; rfl))
              clear hq hf hq' hf'
              go_wp2_with fail
              refine (HKA.out _ G.out).mono ?_
              rintro e w2 ⟨rfl, hg2⟩
              have G2 := Lib.hid (gb_trans G.out hg2)
              go_wp2_with fail
              refine (HKB.out _ G2.out).mono ?_
              rintro e w3 ⟨rfl, hg3⟩
              have G3 := Lib.hid (gb_trans hg2 hg3)
              clear hg2 hg3
              go_wp2_with fail
              refine wp_region_later (by kernel_rfl) (by kernel_rfl) ?_
              repeat (go_big_quiet_step ((fail)))
              refine wpQuiet_nil ?_
              rintro _ ⟨x, rfl⟩
              have hx := x.h
              have G4 := Lib.hid (gb_trans G3.out hx)
              generalize x.w = w4 at *
              clear hx
              have hs4 := (gb_trans G.out G4.out).size
              obtain ⟨Ao, co, hvo, hco, _⟩ := O.out.rd
              subst hvo
              go_wp2_with (at_builtin; refine wpList_append_own _ rfl (.tmp 70) (.tmp 72) 24 rfl w0.heap.size 3 i0 (.int .i64 0) 1 8 Try.underlying24 hi0 hz0 hz1 hz2 rfl (by decide) _ xs.length (xs.map (.int .i64)) rfl ((show w4.ownsRow w0.heap.size 3 1 _ xs.length (xs.map (.int .i64)) from (O.out.grown G4.out (by simp))).alloc _) ⟨w4.heap.size, 0, none⟩ 1 1 [.int .i64 ((k : Int) + 1)] rfl rfl one_cell_new (one_cells rfl) (by unfold maxLen; omega) (by omega) (by simp; omega) ?_; intro v' w6 hown' hgrow _; have T1 := Lib.hid hown'; have T2 := Lib.hid hgrow; clear hown' hgrow)
              go_roundw
              case rel =>
                refine ⟨k + 1, xs ++ [(k : Int) + 1], by omega, by go_num, by simp; omega, Lib.hid (by rw [HST.out]; rfl), ?_, gb_new (gb_alloc (gb_trans G.out G4.out) (.cells #[.int .i64 ((k : Int) + 1)] 3)) T2.out (fun b hb => .inl (O.out.lt b hb).1)⟩
                unfold OwnInts
                rw [List.map_append, List.length_append]
                exact T1.out
              case measure => simp [intOf]; omega
            · rw [hq'] at HKB
              have j0' : decide ((j : Int) < 0) = false := by simp
              have HST := Lib.hid (HSB.out (!M.sameB La[i] Lb[j]) (by rw [get_find, get_find, hf, hf']; rfl))
              clear hq hf hq' hf'
              go_wp2_with fail
              refine (HKA.out _ G.out).mono ?_
              rintro e w2 ⟨rfl, hg2⟩
              have G2 := Lib.hid (gb_trans G.out hg2)
              go_wp2_with fail
              refine (HKB.out _ G2.out).mono ?_
              rintro e w3 ⟨rfl, hg3⟩
              have G3 := Lib.hid (gb_trans hg2 hg3)
              clear hg2 hg3
              go_wp2_with fail
              obtain ⟨b1, o1, rfl, hb1, hb2, hI⟩ := DA.out.1.at_ (List.getElem?_eq_getElem hi)
              obtain ⟨ux, d0, d1, d2, hux⟩ := hI.agree hb1 hb2 (Agree.of_grown (gb_trans G.out G3.out))
              obtain ⟨Ax, cx, rfl, hcx, hrx⟩ := hux
              obtain ⟨b2, o2, rfl, hb3, hb4, hJ⟩ := DB.out.1.at_ (List.getElem?_eq_getElem hj)
              obtain ⟨uy, f0, f1, f2, huy⟩ := hJ.agree hb3 hb4 (Agree.of_grown (gb_trans G.out G3.out))
              obtain ⟨Ay, cy, rfl, hcy, hry⟩ := huy
              have hs23 := (gb_trans G.out G3.out).size
              have HC : Hid (∀ W, w3.grownBy W none → Calls Try.prog 21 #[.agg #[.int .i64 La[i].key, .slice Ax La[i].pos.length cx, .int .i64 La[i].tags], .agg #[.int .i64 Lb[j].key, .slice Ay Lb[j].pos.length cy, .int .i64 Lb[j].tags]] W fun e w' => e = .returned (.bool (M.sameB La[i] Lb[j])) ∧ W.grownBy w' none) := Lib.hid fun W hW => by
                have h1 : RdInts .i64 W 0 W.heap.size (.slice Ax La[i].pos.length cx) La[i].pos := ((show RdInts .i64 w3 0 w0.heap.size (.slice Ax La[i].pos.length cx) La[i].pos from ⟨_, _, rfl, hcx, hrx⟩).keep hW hs23).wide (Nat.le_refl _) (by have := hW.size; omega)
                have h2 : RdInts .i64 W 0 W.heap.size (.slice Ay Lb[j].pos.length cy) Lb[j].pos := ((show RdInts .i64 w3 0 w0.heap.size (.slice Ay Lb[j].pos.length cy) Lb[j].pos from ⟨_, _, rfl, hcy, hry⟩).keep hW hs23).wide (Nat.le_refl _) (by have := hW.size; omega)
                exact implSame_any W _ _ La[i] Lb[j] (DA.out.2.2 _ (List.getElem_mem hi)) h1 h2
              have ik : (i : Int) < n := by have := HN.out; omega
              have jk : (j : Int) < m := by have := HM.out; omega
              clear hcx hrx hcy hry hI hJ
              generalize La[i] = y at *
              generalize Lb[j] = z at *
              have l0 : ∀ x : Later w3, x.w.cell? ⟨b1, o1 + i * 3, none⟩ = some (.int .i64 y.key) := fun x => x.cell d0
              have l1 : ∀ x : Later w3, x.w.cell? ⟨b1, o1 + i * 3 + 1, none⟩ = some (.slice Ax y.pos.length cx) := fun x => x.cell d1
              have l2 : ∀ x : Later w3, x.w.cell? ⟨b1, o1 + i * 3 + 2, none⟩ = some (.int .i64 y.tags) := fun x => x.cell d2
              have m0 : ∀ x : Later w3, x.w.cell? ⟨b2, o2 + j * 3, none⟩ = some (.int .i64 z.key) := fun x => x.cell f0
              have m1 : ∀ x : Later w3, x.w.cell? ⟨b2, o2 + j * 3 + 1, none⟩ = some (.slice Ay z.pos.length cy) := fun x => x.cell f1
              have m2 : ∀ x : Later w3, x.w.cell? ⟨b2, o2 + j * 3 + 2, none⟩ = some (.int .i64 z.tags) := fun x => x.cell f2
              clear d0 d1 d2 f0 f1 f2
              go_wp2_with fail
              cases hsm : M.sameB y z
              · rw [hsm] at HST HC
                clear hsm
                refine wp_region_later (by kernel_rfl) (by kernel_rfl) ?_
                repeat (go_big_quiet_step ((go_at_call 21; exact later_call (HC.out _ (Later.h _)))))
                refine wpQuiet_nil ?_
                rintro _ ⟨x, rfl⟩
                have hx := x.h
                have G4 := Lib.hid (gb_trans G3.out hx)
                generalize x.w = w4 at *
                clear hx
                have hs4 := (gb_trans G.out G4.out).size
                obtain ⟨Ao, co, hvo, hco, _⟩ := O.out.rd
                subst hvo
                go_wp2_with (at_builtin; refine wpList_append_own _ rfl (.tmp 70) (.tmp 72) 24 rfl w0.heap.size 3 i0 (.int .i64 0) 1 8 Try.underlying24 hi0 hz0 hz1 hz2 rfl (by decide) _ xs.length (xs.map (.int .i64)) rfl ((show w4.ownsRow w0.heap.size 3 1 _ xs.length (xs.map (.int .i64)) from (O.out.grown G4.out (by simp))).alloc _) ⟨w4.heap.size, 0, none⟩ 1 1 [.int .i64 ((k : Int) + 1)] rfl rfl one_cell_new (one_cells rfl) (by unfold maxLen; omega) (by omega) (by simp; omega) ?_; intro v' w6 hown' hgrow _; have T1 := Lib.hid hown'; have T2 := Lib.hid hgrow; clear hown' hgrow)
                go_roundw
                case rel =>
                  refine ⟨k + 1, xs ++ [(k : Int) + 1], by omega, by go_num, by simp; omega, Lib.hid (by rw [HST.out]; rfl), ?_, gb_new (gb_alloc (gb_trans G.out G4.out) (.cells #[.int .i64 ((k : Int) + 1)] 3)) T2.out (fun b hb => .inl (O.out.lt b hb).1)⟩
                  unfold OwnInts
                  rw [List.map_append, List.length_append]
                  exact T1.out
                case measure => simp [intOf]; omega
              · rw [hsm] at HST HC
                clear hsm
                refine wp_region_later (by kernel_rfl) (by kernel_rfl) ?_
                repeat (go_big_quiet_step ((go_at_call 21; exact later_call (HC.out _ (Later.h _)))))
                refine wpQuiet_nil ?_
                rintro _ ⟨x, rfl⟩
                have hx := x.h
                have G4 := Lib.hid (gb_trans G3.out hx)
                generalize x.w = w4 at *
                clear hx
                have hs4 := (gb_trans G.out G4.out).size
                go_wp2_with fail
                go_roundw
                case rel => exact ⟨k + 1, xs, by omega, by go_num, by omega, Lib.hid (by rw [HST.out]; rfl), O.out.grown G4.out (by simp), gb_trans G.out G4.out⟩
                case measure => simp [intOf]; omega
        · obtain rfl : k = 99 := by omega
          have HE : Hid (xs = M.changed La Lb) := Lib.hid (by
            rw [HX.out, List.take_of_length_le (by rw [keys99_len]; exact Nat.le_refl _)]
            rfl)
          go_wp2_with fail
          go_ret
          exact intsMade_of (HE.out ▸ O.out) HW0.out (gb_trans GW0.out G.out)
    · have HY : Hid (M.ChangedKeys h a b = []) := Lib.hid (HNIL.out (fun hn => hab hn.2))
      rw [HY.out]
      clear hv D hd HNIL
      generalize h.log.length = m at *
      generalize h.times.length = n at *
      by_cases a0 : a < 0
      · go_enter Try.func6, Try.ntmps6
        go_wp2_with fail
        refine HV.out.mono ?_
        rintro e w1 ⟨rfl, hg⟩
        go_wp2_with fail
        go_ret
        exact intsMade_nil rfl (gb_trans G0.out hg)
      · by_cases a1 : 1000 < a
        · go_enter Try.func6, Try.ntmps6
          go_wp2_with fail
          refine HV.out.mono ?_
          rintro e w1 ⟨rfl, hg⟩
          go_wp2_with fail
          go_ret
          exact intsMade_nil rfl (gb_trans G0.out hg)
        · by_cases b0 : b < 0
          · go_enter Try.func6, Try.ntmps6
            go_wp2_with fail
            refine HV.out.mono ?_
            rintro e w1 ⟨rfl, hg⟩
            go_wp2_with fail
            go_ret
            exact intsMade_nil rfl (gb_trans G0.out hg)
          · have b1 : 1000 < b := by omega
            go_enter Try.func6, Try.ntmps6
            go_wp2_with fail
            refine HV.out.mono ?_
            rintro e w1 ⟨rfl, hg⟩
            go_wp2_with fail
            go_ret
            exact intsMade_nil rfl (gb_trans G0.out hg)
set_option maxHeartbeats 4000000 in
theorem ChangedKeys_spec {w : World} {A B : Option Addr} {c d : Nat} {h : M.Hist} {a b : Int} (D : SeesH w A B h) (hc : h.log.length ≤ c) :
    Calls Try.prog 8 #[.agg #[.slice A h.log.length c, .slice B h.times.length d], .int .i64 a, .int .i64 b] w (IntsMade w (M.ChangedKeys h a b)) := by
  have G0 := Lib.hid (gb_alloc (World.grownBy_alloc w (.cells #[.slice A h.log.length c, .slice B h.times.length d] 26) none) (.cells #[] 3))
  have HV := Lib.hid (validHistory_spec (c := c) (d := d) (D.on G0.out))
  have B0 := Lib.hid ((Row.new w 26 (ca := #[.slice A h.log.length c, .slice B h.times.length d]) rfl).alloc (.cells #[] 3))
  have OS0 := Lib.hid (World.ownsRow_made (base := w.heap.size + 1) (e := 3) (size := 1) (w.alloc (.cells #[.slice A h.log.length c, .slice B h.times.length d] 26)) #[] 0 (by simp) (by decide) rfl)
  have HIA : Hid (∀ W, Calls Try.prog 23 #[.int .i64 a, .int .i64 0, .int .i64 1000] W fun e w' => e = .returned (.bool (M.inR a 0 1000)) ∧ W = w') := Lib.hid fun W => inRange_any _ _ _ _
  have HIB : Hid (∀ W, Calls Try.prog 23 #[.int .i64 b, .int .i64 0, .int .i64 1000] W fun e w' => e = .returned (.bool (M.inR b 0 1000)) ∧ W = w') := Lib.hid fun W => inRange_any _ _ _ _
  cases hv : M.validHist h
  · have HY : Hid (M.ChangedKeys h a b = []) := Lib.hid (by unfold M.ChangedKeys; rw [if_neg]; rintro ⟨h1, _⟩; rw [hv] at h1; cases h1)
    rw [HY.out]
    rw [hv] at HV
    clear hv D hc
    generalize h.log.length = m at *
    generalize h.times.length = n at *
    go_enter Try.func8, Try.ntmps8
    go_wp2_with fail
    refine HV.out.mono ?_
    rintro e w1 ⟨rfl, hg⟩
    have G1 := Lib.hid (gb_trans G0.out hg)
    clear hg
    go_wp2_with fail
    go_ret
    exact intsMade_nil rfl G1.out
  · rw [hv] at HV
    cases ha : M.inR a 0 1000
    · have HY : Hid (M.ChangedKeys h a b = []) := Lib.hid (by unfold M.ChangedKeys; rw [if_neg]; rintro ⟨_, h1, _⟩; rw [ha] at h1; cases h1)
      rw [HY.out]
      rw [ha] at HIA
      clear hv D hc ha
      generalize h.log.length = m at *
      generalize h.times.length = n at *
      go_enter Try.func8, Try.ntmps8
      go_wp2_with fail
      refine HV.out.mono ?_
      rintro e w1 ⟨rfl, hg⟩
      have G1 := Lib.hid (gb_trans G0.out hg)
      clear hg
      go_wp2_with fail
      refine (HIA.out _).mono ?_
      rintro e w2 ⟨rfl, rfl⟩
      go_wp2_with fail
      go_ret
      exact intsMade_nil rfl G1.out
    · rw [ha] at HIA
      cases hb : M.inR b 0 1000
      · have HY : Hid (M.ChangedKeys h a b = []) := Lib.hid (by unfold M.ChangedKeys; rw [if_neg]; rintro ⟨_, _, h1⟩; rw [hb] at h1; cases h1)
        rw [HY.out]
        rw [hb] at HIB
        clear hv D hc ha hb
        generalize h.log.length = m at *
        generalize h.times.length = n at *
        go_enter Try.func8, Try.ntmps8
        go_wp2_with fail
        refine HV.out.mono ?_
        rintro e w1 ⟨rfl, hg⟩
        have G1 := Lib.hid (gb_trans G0.out hg)
        clear hg
        go_wp2_with fail
        refine (HIA.out _).mono ?_
        rintro e w2 ⟨rfl, rfl⟩
        go_wp2_with fail
        refine (HIB.out _).mono ?_
        rintro e w2 ⟨rfl, rfl⟩
        go_wp2_with fail
        go_ret
        exact intsMade_nil rfl G1.out
      · rw [hb] at HIB
        obtain ⟨La, hLa⟩ : ∃ La, La = M.storeAt h a := ⟨_, rfl⟩
        obtain ⟨Lb, hLb⟩ : ∃ Lb, Lb = M.storeAt h b := ⟨_, rfl⟩
        have HY : Hid (M.ChangedKeys h a b = M.changed La Lb) := Lib.hid (by
          unfold M.ChangedKeys
          rw [if_pos ⟨hv, ha, hb⟩, hLa, hLb])
        rw [HY.out]
        have HSA : Hid (∀ W, w.grownBy W none → Calls Try.prog 24 #[.agg #[.slice A h.log.length c, .slice B h.times.length d], .int .i64 a] W (ItemsMade W La)) := Lib.hid fun W hW => by
          have e := StoreAt_spec (c := c) (d := d) (t := a) (D.on hW) hc
          unfold M.StoreAt at e
          rw [if_pos ⟨hv, ha⟩, ← hLa] at e
          exact e
        have HSB0 : Hid (∀ W, w.grownBy W none → Calls Try.prog 24 #[.agg #[.slice A h.log.length c, .slice B h.times.length d], .int .i64 b] W (ItemsMade W Lb)) := Lib.hid fun W hW => by
          have e := StoreAt_spec (c := c) (d := d) (t := b) (D.on hW) hc
          unfold M.StoreAt at e
          rw [if_pos ⟨hv, hb⟩, ← hLb] at e
          exact e
        have HVA : Hid (M.validStore La = true) := Lib.hid (by rw [hLa]; exact M.store_valid h a)
        have HVB : Hid (M.validStore Lb = true) := Lib.hid (by rw [hLb]; exact M.store_valid h b)
        have HSMA : Hid (Small La) := Lib.hid (Small.of_valid HVA.out)
        have HSMB : Hid (Small Lb) := Lib.hid (Small.of_valid HVB.out)
        clear hv ha hb hLa hLb HY D hc
        obtain ⟨m', hm'⟩ : ∃ m', m' = h.log.length := ⟨_, rfl⟩
        obtain ⟨n', hn'⟩ : ∃ n', n' = h.times.length := ⟨_, rfl⟩
        rw [← hm', ← hn'] at G0 HV B0 HSA HSB0 OS0
        rw [← hm', ← hn']
        clear hm' hn'
        go_enter Try.func8, Try.ntmps8
        go_wp2_with fail
        refine HV.out.mono ?_
        rintro e w1 ⟨rfl, hg⟩
        have G1 := Lib.hid (gb_trans G0.out hg)
        have R1 := Lib.hid (B0.out.grown hg (by simp))
        have OS1 : Hid (OwnInts .i64 3 w1 (w.heap.size + 1) (.slice (some ⟨w.heap.size + 1, 0, none⟩) 0 0) []) := Lib.hid (by
          have h := OS0.out.kept hg (own_ge OS0.out (by simp))
          simpa [OwnInts] using h)
        have hw8 := hg.size
        simp only [World.size_alloc] at hw8
        have q0 := R1.out.cell 0
        have q1 := R1.out.cell 1
        simp only [List.getElem?_cons_zero, List.getElem?_cons_succ] at q0 q1
        clear hg HV OS0 B0 G0
        go_wp2_with fail
        refine (HIA.out _).mono ?_
        rintro e w9 ⟨rfl, rfl⟩
        go_wp2_with fail
        refine (HIB.out _).mono ?_
        rintro e w9 ⟨rfl, rfl⟩
        go_wp2_with fail
        refine (HSA.out _ G1.out).mono ?_
        rintro e w2 ⟨Aa, ca, rfl, hca, hoa, hg⟩
        have G2 := Lib.hid (gb_trans G1.out hg)
        have K2 := Lib.hid hg
        have RA := Lib.hid (ownItems_rd hoa)
        have R2 := Lib.hid (R1.out.grown hg (by simp))
        have q0 := R2.out.cell 0
        have q1 := R2.out.cell 1
        simp only [List.getElem?_cons_zero, List.getElem?_cons_succ] at q0 q1
        clear hoa hg
        go_wp2_with fail
        refine (HSB0.out _ G2.out).mono ?_
        rintro e w0 ⟨Ab, cb, rfl, hcb, hob, hg⟩
        have GW0 : Hid (w.grownBy w0 none) := Lib.hid (gb_trans G2.out hg)
        have K3 := Lib.hid (gb_trans K2.out hg)
        have RB := Lib.hid (ownItems_rd hob)
        have RA3 := Lib.hid ((RA.out.keep hg (Nat.le_refl _)).wide (Nat.le_refl _) hg.size)
        have hs2 := K2.out.size
        have hs3 := hg.size
        obtain ⟨lo0, hlo⟩ : ∃ lo0, lo0 = w1.heap.size := ⟨_, rfl⟩
        have hw9 : w.heap.size + 1 < w0.heap.size := by omega
        have OS := Lib.hid (OwnInts.grown OS1.out K3.out (by simp))
        have HOS : Hid (∀ b, (Value.slice (some ⟨w.heap.size + 1, 0, none⟩) 0 0).ownBlock = some b → b < lo0 ∨ w0.heap.size ≤ b) := Lib.hid fun b hb => by
          simp only [Value.ownBlock, Option.some.injEq] at hb
          omega
        have DZA : Hid (∀ W, HeldZ lo0 w0.heap.size w0 W → SeesI W Aa La) := Lib.hid fun W hW => ⟨((RA3.out.wide (show lo0 ≤ w1.heap.size by omega) (Nat.le_refl _)).agree hW.1).wide (Nat.zero_le _) hW.2, HSMA.out⟩
        have DZB : Hid (∀ W, HeldZ lo0 w0.heap.size w0 W → SeesI W Ab Lb) := Lib.hid fun W hW => ⟨((RB.out.wide (show lo0 ≤ w2.heap.size by omega) (Nat.le_refl _)).agree hW.1).wide (Nat.zero_le _) hW.2, HSMB.out⟩
        clear hob hg q0 q1 R1 R2 G1 G2 K2 K3 RA RB RA3 HSA HSB0 OS1 hlo hca hcb HIA HIB
        obtain ⟨i0, hi0, hz0, hz1, hz2⟩ := info_parts info_int'
        have hl1 : La.length ≤ 1048576 := HSMA.out.1
        have hl2 : Lb.length ≤ 1048576 := HSMB.out.1
        obtain ⟨n, hn⟩ : ∃ n, n = La.length := ⟨_, rfl⟩
        obtain ⟨m, hm⟩ : ∃ m, m = Lb.length := ⟨_, rfl⟩
        have HN := Lib.hid hn
        have HM := Lib.hid hm
        rw [← hn] at hl1 ⊢
        rw [← hm] at hl2 ⊢
        clear hn hm
        go_wp2_with fail
        go_loopw [7, 10] (fun out i wr => ∃ (k : Nat) (xs : List Int), k ≤ 99 ∧ i = .int .i64 ((k : Int) + 1) ∧ xs.length ≤ k ∧ Hid (xs = (M.keys99.take k).filter (fun q => M.differ (M.get La q) (M.get Lb q))) ∧ OwnInts .i64 3 wr (w.heap.size + 1) out xs ∧ (∀ b, out.ownBlock = some b → b < lo0 ∨ w0.heap.size ≤ b) ∧ HeldZ lo0 w0.heap.size w0 wr ∧ w.grownBy wr none) (fun _ i _ => 100 - (intOf i).toNat)
        case atStart => exact ⟨0, [], by omega, rfl, Nat.le_refl _, Lib.hid (by simp), OS.out, HOS.out, HeldZ.now, GW0.out⟩
        case round =>
          obtain ⟨k, xs, hk, rfl, hxl, HX, ho, hob, hh, hg⟩ := hrel
          have HOB := Lib.hid hob
          have H := Lib.hid hh
          have O := Lib.hid ho
          have G := Lib.hid hg
          clear ho hg hob hh
          by_cases hlt : k < 99
          · have kn : (k : Int) + 1 ≤ 99 := by omega
            have HSB := Lib.hid (fun b (hb : M.differ (M.get La ((k : Int) + 1)) (M.get Lb ((k : Int) + 1)) = b) => chg_step (f := fun q => M.differ (M.get La q) (M.get Lb q)) hlt HX.out hb)
            have HKA : Hid (∀ W, HeldZ lo0 w0.heap.size w0 W → Calls Try.prog 25 #[.slice Aa n ca, .int .i64 ((k : Int) + 1)] W fun e w' => e = .returned (.int .i64 (M.keyAt La ((k : Int) + 1))) ∧ W.grownBy w' none) := Lib.hid fun W hW => by rw [HN.out]; exact keyAt_spec (DZA.out W hW)
            have HKB : Hid (∀ W, HeldZ lo0 w0.heap.size w0 W → Calls Try.prog 25 #[.slice Ab m cb, .int .i64 ((k : Int) + 1)] W fun e w' => e = .returned (.int .i64 (M.keyAt Lb ((k : Int) + 1))) ∧ W.grownBy w' none) := Lib.hid fun W hW => by rw [HM.out]; exact keyAt_spec (DZB.out W hW)
            rcases M.keyAt_cases La ((k : Int) + 1) with ⟨hq, hf⟩ | ⟨i, hi, hq, hf⟩
            · rw [hq] at HKA
              rcases M.keyAt_cases Lb ((k : Int) + 1) with ⟨hq', hf'⟩ | ⟨j, hj, hq', hf'⟩
              · rw [hq'] at HKB
                have HST := Lib.hid (HSB.out false (by rw [get_find, get_find, hf, hf']; rfl))
                clear hq hf hq' hf'
                go_wp2_with fail
                refine (HKA.out _ H.out).mono ?_
                rintro e w2 ⟨rfl, hg2⟩
                have H2 := Lib.hid (H.out.on hg2)
                go_wp2_with fail
                refine (HKB.out _ H2.out).mono ?_
                rintro e w3 ⟨rfl, hg3⟩
                have G3 := Lib.hid (gb_trans hg2 hg3)
                clear hg2 hg3
                go_wp2_with fail
                refine wp_region_later (by kernel_rfl) (by kernel_rfl) ?_
                repeat (go_big_quiet_step ((fail)))
                refine wpQuiet_nil ?_
                rintro _ ⟨x, rfl⟩
                have hx := x.h
                have G4 := Lib.hid (gb_trans G3.out hx)
                generalize x.w = w4 at *
                clear hx
                have hs4 := (H.out.on G4.out).2
                have hs5 := (gb_trans G.out G4.out).size
                go_wp2_with fail
                go_roundw
                case rel => exact ⟨k + 1, xs, by omega, by go_num, by omega, Lib.hid (by rw [HST.out]; rfl), O.out.grown G4.out (by simp), HOB.out, H.out.on G4.out, gb_trans G.out G4.out⟩
                case measure => simp [intOf]; omega
              · rw [hq'] at HKB
                have HST := Lib.hid (HSB.out true (by rw [get_find, get_find, hf, hf']; rfl))
                have j0' : decide ((j : Int) < 0) = false := by simp
                clear hq hf hq' hf'
                go_wp2_with fail
                refine (HKA.out _ H.out).mono ?_
                rintro e w2 ⟨rfl, hg2⟩
                have H2 := Lib.hid (H.out.on hg2)
                go_wp2_with fail
                refine (HKB.out _ H2.out).mono ?_
                rintro e w3 ⟨rfl, hg3⟩
                have G3 := Lib.hid (gb_trans hg2 hg3)
                clear hg2 hg3
                go_wp2_with fail
                refine wp_region_later (by kernel_rfl) (by kernel_rfl) ?_
                repeat (go_big_quiet_step ((fail)))
                refine wpQuiet_nil ?_
                rintro _ ⟨x, rfl⟩
                have hx := x.h
                have G4 := Lib.hid (gb_trans G3.out hx)
                generalize x.w = w4 at *
                clear hx
                have hs4 := (H.out.on G4.out).2
                have hs5 := (gb_trans G.out G4.out).size
                obtain ⟨Ao, co, hvo, hco, _⟩ := O.out.rd
                subst hvo
                have HO4 := Lib.hid (show w4.ownsRow (w.heap.size + 1) 3 1 _ xs.length (xs.map (.int .i64)) from (O.out.grown G4.out (by simp)))
                go_wp2_with (at_builtin; refine wpList_append_lies _ rfl (.tmp 68) (.tmp 70) 24 rfl (w.heap.size + 1) 3 i0 _ 1 8 Try.underlying24 hi0 hz0 hz1 hz2 rfl (by decide) (.slice Ao xs.length co) xs.length (xs.map (.int .i64)) rfl (HO4.out.alloc (.cells #[.int .i64 ((k : Int) + 1)] 3)) ⟨w4.heap.size, 0, none⟩ 1 1 [.int .i64 ((k : Int) + 1)] rfl rfl one_cell_new (one_cells rfl) (by omega) (by unfold maxLen; omega) (by omega) (by simp; omega) _ rfl ?_; intro gg2 cap2 w6 hown' hgrow hat hlt6; have T1 := Lib.hid hown'; have T2 := Lib.hid hgrow; have T3 := Lib.hid hat; clear hown' hgrow hat)
                go_roundw
                case rel =>
                  refine ⟨k + 1, xs ++ [(k : Int) + 1], by omega, by go_num, by simp; omega, Lib.hid (by rw [HST.out]; rfl), ?_, ?_, (((H.out.on G4.out).on (World.grownBy_alloc w4 (.cells #[.int .i64 ((k : Int) + 1)] 3) none)).by_ T2.out HOB.out), gb_new (gb_alloc (gb_trans G.out G4.out) (.cells #[.int .i64 ((k : Int) + 1)] 3)) T2.out (fun b hb => .inl (by have := (O.out.lt b hb).1; omega))⟩
                  · unfold OwnInts
                    rw [List.map_append, List.length_append]
                    exact T1.out
                  · intro b hb
                    simp only [Value.ownBlock, Option.some.injEq] at hb
                    subst hb
                    rcases T3.out with h | h
                    · exact HOB.out _ h
                    · right
                      rw [h]
                      simp only [World.size_alloc]
                      omega
                case measure => simp [intOf]; omega
            · rw [hq] at HKA
              have i0' : decide ((i : Int) < 0) = false := by simp
              rcases M.keyAt_cases Lb ((k : Int) + 1) with ⟨hq', hf'⟩ | ⟨j, hj, hq', hf'⟩
              · rw [hq'] at HKB
                have HST := Lib.hid (HSB.out true (by rw [get_find, get_find, hf, hf']; rfl))
                clear hq hf hq' hf'
                go_wp2_with fail
                refine (HKA.out _ H.out).mono ?_
                rintro e w2 ⟨rfl, hg2⟩
                have H2 := Lib.hid (H.out.on hg2)
                go_wp2_with fail
                refine (HKB.out _ H2.out).mono ?_
                rintro e w3 ⟨rfl, hg3⟩
                have G3 := Lib.hid (gb_trans hg2 hg3)
                clear hg2 hg3
                go_wp2_with fail
                refine wp_region_later (by kernel_rfl) (by kernel_rfl) ?_
                repeat (go_big_quiet_step ((fail)))
                refine wpQuiet_nil ?_
                rintro _ ⟨x, rfl⟩
                have hx := x.h
                have G4 := Lib.hid (gb_trans G3.out hx)
                generalize x.w = w4 at *
                clear hx
                have hs4 := (H.out.on G4.out).2
                have hs5 := (gb_trans G.out G4.out).size
                obtain ⟨Ao, co, hvo, hco, _⟩ := O.out.rd
                subst hvo
                have HO4 := Lib.hid (show w4.ownsRow (w.heap.size + 1) 3 1 _ xs.length (xs.map (.int .i64)) from (O.out.grown G4.out (by simp)))
                go_wp2_with (at_builtin; refine wpList_append_lies _ rfl (.tmp 68) (.tmp 70) 24 rfl (w.heap.size + 1) 3 i0 _ 1 8 Try.underlying24 hi0 hz0 hz1 hz2 rfl (by decide) (.slice Ao xs.length co) xs.length (xs.map (.int .i64)) rfl (HO4.out.alloc (.cells #[.int .i64 ((k : Int) + 1)] 3)) ⟨w4.heap.size, 0, none⟩ 1 1 [.int .i64 ((k : Int) + 1)] rfl rfl one_cell_new (one_cells rfl) (by omega) (by unfold maxLen; omega) (by omega) (by simp; omega) _ rfl ?_; intro gg2 cap2 w6 hown' hgrow hat hlt6; have T1 := Lib.hid hown'; have T2 := Lib.hid hgrow; have T3 := Lib.hid hat; clear hown' hgrow hat)
                go_roundw
                case rel =>
                  refine ⟨k + 1, xs ++ [(k : Int) + 1], by omega, by go_num, by simp; omega, Lib.hid (by rw [HST.out]; rfl), ?_, ?_, (((H.out.on G4.out).on (World.grownBy_alloc w4 (.cells #[.int .i64 ((k : Int) + 1)] 3) none)).by_ T2.out HOB.out), gb_new (gb_alloc (gb_trans G.out G4.out) (.cells #[.int .i64 ((k : Int) + 1)] 3)) T2.out (fun b hb => .inl (by have := (O.out.lt b hb).1; omega))⟩
                  · unfold OwnInts
                    rw [List.map_append, List.length_append]
                    exact T1.out
                  · intro b hb
                    simp only [Value.ownBlock, Option.some.injEq] at hb
                    subst hb
                    rcases T3.out with h | h
                    · exact HOB.out _ h
                    · right
                      rw [h]
                      simp only [World.size_alloc]
                      omega
                case measure => simp [intOf]; omega
              · rw [hq'] at HKB
                have j0' : decide ((j : Int) < 0) = false := by simp
                have HST := Lib.hid (HSB.out (!M.sameB La[i] Lb[j]) (by rw [get_find, get_find, hf, hf']; rfl))
                clear hq hf hq' hf'
                go_wp2_with fail
                refine (HKA.out _ H.out).mono ?_
                rintro e w2 ⟨rfl, hg2⟩
                have H2 := Lib.hid (H.out.on hg2)
                go_wp2_with fail
                refine (HKB.out _ H2.out).mono ?_
                rintro e w3 ⟨rfl, hg3⟩
                have G3 := Lib.hid (gb_trans hg2 hg3)
                clear hg2 hg3
                go_wp2_with fail
                obtain ⟨b1, o1, rfl, hb1, hb2, hI⟩ := (DZA.out _ (H.out.on G3.out)).1.at_ (List.getElem?_eq_getElem hi)
                obtain ⟨ux, d0, d1, d2, hux⟩ := hI
                obtain ⟨Ax, cx, rfl, hcx, hrx⟩ := hux
                obtain ⟨b2, o2, rfl, hb3, hb4, hJ⟩ := (DZB.out _ (H.out.on G3.out)).1.at_ (List.getElem?_eq_getElem hj)
                obtain ⟨uy, f0, f1, f2, huy⟩ := hJ
                obtain ⟨Ay, cy, rfl, hcy, hry⟩ := huy
                have HC : Hid (∀ W, w3.grownBy W none → Calls Try.prog 26 #[.agg #[.int .i64 La[i].key, .slice Ax La[i].pos.length cx, .int .i64 La[i].tags], .agg #[.int .i64 Lb[j].key, .slice Ay Lb[j].pos.length cy, .int .i64 Lb[j].tags]] W fun e w' => e = .returned (.bool (M.sameB La[i] Lb[j])) ∧ W.grownBy w' none) := Lib.hid fun W hW => by
                  have h1 : RdInts .i64 W 0 W.heap.size (.slice Ax La[i].pos.length cx) La[i].pos := ((show RdInts .i64 w3 0 w3.heap.size (.slice Ax La[i].pos.length cx) La[i].pos from ⟨_, _, rfl, hcx, hrx⟩).keep hW (Nat.le_refl _)).wide (Nat.le_refl _) (by have := hW.size; omega)
                  have h2 : RdInts .i64 W 0 W.heap.size (.slice Ay Lb[j].pos.length cy) Lb[j].pos := ((show RdInts .i64 w3 0 w3.heap.size (.slice Ay Lb[j].pos.length cy) Lb[j].pos from ⟨_, _, rfl, hcy, hry⟩).keep hW (Nat.le_refl _)).wide (Nat.le_refl _) (by have := hW.size; omega)
                  exact specSame_any W _ _ La[i] Lb[j] (HSMA.out.2 _ (List.getElem_mem hi)) (by rw [(vecs_of_valid HVA.out _ (List.getElem_mem hi)).1, (vecs_of_valid HVB.out _ (List.getElem_mem hj)).1]) (vecs_of_valid HVA.out _ (List.getElem_mem hi)).2 (vecs_of_valid HVB.out _ (List.getElem_mem hj)).2 h1 h2
                have ik : (i : Int) < n := by have := HN.out; omega
                have jk : (j : Int) < m := by have := HM.out; omega
                clear hcx hrx hcy hry
                generalize La[i] = y at *
                generalize Lb[j] = z at *
                have l0 : ∀ x : Later w3, x.w.cell? ⟨b1, o1 + i * 3, none⟩ = some (.int .i64 y.key) := fun x => x.cell d0
                have l1 : ∀ x : Later w3, x.w.cell? ⟨b1, o1 + i * 3 + 1, none⟩ = some (.slice Ax y.pos.length cx) := fun x => x.cell d1
                have l2 : ∀ x : Later w3, x.w.cell? ⟨b1, o1 + i * 3 + 2, none⟩ = some (.int .i64 y.tags) := fun x => x.cell d2
                have m0 : ∀ x : Later w3, x.w.cell? ⟨b2, o2 + j * 3, none⟩ = some (.int .i64 z.key) := fun x => x.cell f0
                have m1 : ∀ x : Later w3, x.w.cell? ⟨b2, o2 + j * 3 + 1, none⟩ = some (.slice Ay z.pos.length cy) := fun x => x.cell f1
                have m2 : ∀ x : Later w3, x.w.cell? ⟨b2, o2 + j * 3 + 2, none⟩ = some (.int .i64 z.tags) := fun x => x.cell f2
                clear d0 d1 d2 f0 f1 f2
                go_wp2_with fail
                cases hsm : M.sameB y z
                · rw [hsm] at HST HC
                  clear hsm
                  refine wp_region_later (by kernel_rfl) (by kernel_rfl) ?_
                  repeat (go_big_quiet_step ((go_at_call 26; exact later_call (HC.out _ (Later.h _)))))
                  refine wpQuiet_nil ?_
                  rintro _ ⟨x, rfl⟩
                  have hx := x.h
                  have G4 := Lib.hid (gb_trans G3.out hx)
                  generalize x.w = w4 at *
                  clear hx
                  have hs4 := (H.out.on G4.out).2
                  have hs5 := (gb_trans G.out G4.out).size
                  obtain ⟨Ao, co, hvo, hco, _⟩ := O.out.rd
                  subst hvo
                  have HO4 := Lib.hid (show w4.ownsRow (w.heap.size + 1) 3 1 _ xs.length (xs.map (.int .i64)) from (O.out.grown G4.out (by simp)))
                  go_wp2_with (at_builtin; refine wpList_append_lies _ rfl (.tmp 68) (.tmp 70) 24 rfl (w.heap.size + 1) 3 i0 _ 1 8 Try.underlying24 hi0 hz0 hz1 hz2 rfl (by decide) (.slice Ao xs.length co) xs.length (xs.map (.int .i64)) rfl (HO4.out.alloc (.cells #[.int .i64 ((k : Int) + 1)] 3)) ⟨w4.heap.size, 0, none⟩ 1 1 [.int .i64 ((k : Int) + 1)] rfl rfl one_cell_new (one_cells rfl) (by omega) (by unfold maxLen; omega) (by omega) (by simp; omega) _ rfl ?_; intro gg2 cap2 w6 hown' hgrow hat hlt6; have T1 := Lib.hid hown'; have T2 := Lib.hid hgrow; have T3 := Lib.hid hat; clear hown' hgrow hat)
                  go_roundw
                  case rel =>
                    refine ⟨k + 1, xs ++ [(k : Int) + 1], by omega, by go_num, by simp; omega, Lib.hid (by rw [HST.out]; rfl), ?_, ?_, (((H.out.on G4.out).on (World.grownBy_alloc w4 (.cells #[.int .i64 ((k : Int) + 1)] 3) none)).by_ T2.out HOB.out), gb_new (gb_alloc (gb_trans G.out G4.out) (.cells #[.int .i64 ((k : Int) + 1)] 3)) T2.out (fun b hb => .inl (by have := (O.out.lt b hb).1; omega))⟩
                    · unfold OwnInts
                      rw [List.map_append, List.length_append]
                      exact T1.out
                    · intro b hb
                      simp only [Value.ownBlock, Option.some.injEq] at hb
                      subst hb
                      rcases T3.out with h | h
                      · exact HOB.out _ h
                      · right
                        rw [h]
                        simp only [World.size_alloc]
                        omega
                  case measure => simp [intOf]; omega
                · rw [hsm] at HST HC
                  clear hsm
                  refine wp_region_later (by kernel_rfl) (by kernel_rfl) ?_
                  repeat (go_big_quiet_step ((go_at_call 26; exact later_call (HC.out _ (Later.h _)))))
                  refine wpQuiet_nil ?_
                  rintro _ ⟨x, rfl⟩
                  have hx := x.h
                  have G4 := Lib.hid (gb_trans G3.out hx)
                  generalize x.w = w4 at *
                  clear hx
                  have hs4 := (H.out.on G4.out).2
                  have hs5 := (gb_trans G.out G4.out).size
                  go_wp2_with fail
                  go_roundw
                  case rel => exact ⟨k + 1, xs, by omega, by go_num, by omega, Lib.hid (by rw [HST.out]; rfl), O.out.grown G4.out (by simp), HOB.out, H.out.on G4.out, gb_trans G.out G4.out⟩
                  case measure => simp [intOf]; omega
          · obtain rfl : k = 99 := by omega
            have HE : Hid (xs = M.changed La Lb) := Lib.hid (by
              rw [HX.out, List.take_of_length_le (by rw [keys99_len]; exact Nat.le_refl _)]
              rfl)
            go_wp2_with fail
            go_ret
            exact intsMade_of' (HE.out ▸ O.out) (by omega) G.out
end Go.Proofs.Ytejbfmnioomkbaa
