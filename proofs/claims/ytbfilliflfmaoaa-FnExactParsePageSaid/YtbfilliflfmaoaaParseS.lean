/- The walk of the reference's reading of pages. -/
import Derived.Test.YtbfilliflfmaoaaParseW
import Derived.Deep.RegionWith
namespace Go.Proofs.Ytbfilliflfmaoaa
open Go.RowKit
set_option linter.unusedVariables false

theorem store_pos (l : List Int) : ∀ x ∈ M.store l, x.pos.length ≤ 1048576 := by
  have hgen : ∀ (n : Nat) (q : List Int), ∀ x ∈ M.items q n, x.pos.length ≤ 1048576 := by
    intro n
    induction n with
    | zero => intro q x hx; simp [M.items] at hx
    | succ n ih =>
      intro q x hx
      simp only [M.items, List.mem_cons] at hx
      rcases hx with rfl | hx
      · unfold M.itemOf6
        simp only [List.length_map, List.length_take]
        omega
      · exact ih _ x hx
  exact hgen _ _
set_option maxHeartbeats 4000000 in
theorem ParsePage_spec (w : World) (A : Option Addr) (c : Nat) (l : List Int) (hc : l.length ≤ c) (hl : l.length ≤ 1048576) (hb : M.bytes l) (hr : Rd w 0 w.heap.size A (l.map (.int .u8))) :
    Calls Try.prog 19 #[.slice A l.length c] w fun e w' => ∃ vs, e = .returned (.tuple vs.toArray) ∧ PutAns w' w.heap.size vs (M.ParsePage l) ∧ w.grownBy w' none := by
  obtain ⟨i0, hi0, hz0, hz1, hz2⟩ := info_parts info_item'
  have HR := Lib.hid hr
  have HB := Lib.hid hb
  clear hr hb
  by_cases h2 : 2 ≤ l.length
  · obtain ⟨m, hm⟩ : ∃ m, l.length = m + 1 := ⟨l.length - 1, by omega⟩
    have hpos : 0 < l.length := by omega
    obtain ⟨b, o, rfl, hb1, hb2, d0⟩ := HR.out.at_ (j := 0) (u := .int .u8 l[0]) (by simp [hpos])
    rw [Nat.add_zero] at d0
    have hx := HB.out _ (List.getElem_mem hpos)
    obtain ⟨n, hn⟩ := Int.eq_ofNat_of_zero_le hx.1
    rw [hn] at d0 hx
    have hn9 : n ≤ 255 := by omega
    have hg0 : Hid (l.getD 0 0 = (n : Int)) := Lib.hid (by rw [← hn]; simp [List.getD_eq_getElem?_getD, List.getElem?_eq_getElem hpos])
    clear hn hx
    by_cases hlen : l.length = n * 6 + 2
    · obtain ⟨z, hz⟩ : ∃ z, l[m]? = some z := ⟨_, List.getElem?_eq_getElem (by omega)⟩
      obtain ⟨_, _, e', _, _, dm⟩ := HR.out.at_ (j := m) (u := .int .u8 z) (by rw [List.getElem?_map, hz]; rfl)
      injection e' with e'
      injection e' with e1 e2
      subst e1 e2
      have hzb := HB.out z (List.mem_of_getElem? hz)
      have HGM : Hid (l.getD (l.length - 1) 0 = z) := Lib.hid (by rw [List.getD_eq_getElem?_getD, hm, Nat.add_sub_cancel, hz]; rfl)
      have HTK : Hid (l.take (l.length - 1) = l.take m) := Lib.hid (by rw [hm, Nat.add_sub_cancel])
      have HM := Lib.hid hm
      have hmn : m = n * 6 + 1 := by omega
      have HMN := Lib.hid hmn
      rw [hm] at hc hl ⊢
      have HCK : Hid (∀ q, Calls Try.prog 32 #[.slice (some ⟨b, o, none⟩) m c] (w.drewN q) fun e w' => e = .returned (.int .i64 (M.chk (l.take m))) ∧ w.drewN q = w') := Lib.hid fun q => by
        have h := checkOf_spec (w.drewN q) (some ⟨b, o, none⟩) c 0 w.heap.size (l.take m) (by rw [List.length_take]; omega) (fun x hx => HB.out x (List.mem_of_mem_take hx)) (by rw [List.map_take]; exact HR.out.take m)
        rw [List.length_take, HM.out, Nat.min_eq_left (Nat.le_succ m)] at h
        exact h
      have tm1 : decide ((m : Int) < 1) = false := by simp; omega
      have tm2 : ((m : Int) != 1 + (n : Int) * 6) = false := by simp; omega
      have hmlt : (m : Int) < (m : Int) + 1 := by omega
      have hchk := M.chk_rng (l.take m)
      by_cases hk : M.chk (l.take m) = z
      · have tk : (M.chk (l.take m) != z) = false := by simp [hk]
        have HK := Lib.hid hk
        clear hk hlen hz hm hmn h2 hpos
        generalize M.chk (l.take m) = ck at HCK hchk tk
        go_enter Try.func19, Try.ntmps19
        go_wp2_with fail
        go_quiet ((go_at_call 32; exact quiet_here (HCK.out _)))
        go_wp2_with fail
        have HG0 := Lib.hid (gb_drewN (gb_refl w none) nq)
        go_loopw [5, 6] (fun v i wr => ∃ k : Nat, k ≤ n ∧ i = .int .i64 k ∧ OwnItems wr w.heap.size v (M.items (l.drop 1) k) ∧ w.grownBy wr none) (fun _ i _ => n - (intOf i).toNat)
        case atStart =>
          refine ⟨0, Nat.zero_le _, rfl, ⟨[], rfl, ?_, by simp, List.Pairwise.nil⟩, gb_alloc HG0.out _⟩
          have := World.ownsRow_made (base := w.heap.size) (e := 45) (size := 3) (w.drewN nq) #[] 0 (Nat.le_refl _) (by decide) rfl
          simpa [cellsI] using this
        case round =>
          obtain ⟨k, hk, rfl, hown, hg⟩ := hrel
          have O := Lib.hid hown
          have G := Lib.hid hg
          have hszw := hg.size
          have d0' : wr.cell? ⟨b, o, none⟩ = some (.int .u8 n) := ((Agree.of_grown hg).cell (p := ⟨b, o, none⟩) hb1 hb2).trans d0
          clear hown hg
          have hmn := HMN.out
          by_cases hlt : k < n
          · obtain ⟨x0, hx0⟩ : ∃ x0, l[1 + k * 6]? = some x0 := ⟨_, List.getElem?_eq_getElem (by rw [HM.out]; omega)⟩
            obtain ⟨x1, hx1⟩ : ∃ x1, l[1 + k * 6 + 1]? = some x1 := ⟨_, List.getElem?_eq_getElem (by rw [HM.out]; omega)⟩
            obtain ⟨_, _, e', _, _, e0'⟩ := HR.out.at_ (j := 1 + k * 6) (u := .int .u8 x0) (by rw [List.getElem?_map, hx0]; rfl)
            injection e' with e'
            injection e' with e1 e2
            subst e1 e2
            obtain ⟨_, _, e', _, _, e1'⟩ := HR.out.at_ (j := 1 + k * 6 + 1) (u := .int .u8 x1) (by rw [List.getElem?_map, hx1]; rfl)
            injection e' with e'
            injection e' with e1 e2
            subst e1 e2
            have hkey : ∀ W : World, wr.grownBy W none → W.cell? ⟨b, o + (1 + k * 6), none⟩ = some (.int .u8 x0) ∧ W.cell? ⟨b, o + (1 + k * 6) + 1, none⟩ = some (.int .u8 x1) := fun W hW =>
              ⟨((Agree.of_grown (gb_trans G.out hW)).cell (p := ⟨b, o + (1 + k * 6), none⟩) hb1 hb2).trans e0', ((Agree.of_grown (gb_trans G.out hW)).cell (p := ⟨b, o + (1 + k * 6 + 1), none⟩) hb1 hb2).trans e1'⟩
            have hb0 := HB.out x0 (List.mem_of_getElem? hx0)
            have hb1' := HB.out x1 (List.mem_of_getElem? hx1)
            have HX0 := Lib.hid hx0
            have HX1 := Lib.hid hx1
            have e0 := (hkey wr (gb_refl _ _)).1
            have e1 := (hkey wr (gb_refl _ _)).2
            have HKEY := Lib.hid hkey
            have kn : (k : Int) < n := by omega
            have hpl : 2 ≤ m + 1 - (1 + k * 6) := by omega
            clear e0' e1' hx0 hx1 hkey hmn
            go_wp2_with fail
            obtain ⟨p, hp⟩ : ∃ p, p = m + 1 - (1 + k * 6) := ⟨_, rfl⟩
            rw [← hp] at hpl ⊢
            have HP := Lib.hid hp
            clear hp
            have hmk : ∀ W : World, (Instr.makeSlice 41 (.int .i64 4) (.int .i64 4)).run Try.prog W = .ok (.slice (some ⟨W.heap.size, 0, none⟩) 4 4) (W.alloc (.cells #[.int .i64 0, .int .i64 0, .int .i64 0, .int .i64 0] 3)) := fun _ => by kernel_rfl
            have f0 := (HKEY.out _ (World.grownBy_alloc wr (.cells #[.int .i64 0, .slice none 0 0, .int .i64 0] 45) none)).1
            have f1 := (HKEY.out _ (World.grownBy_alloc wr (.cells #[.int .i64 0, .slice none 0 0, .int .i64 0] 45) none)).2
            have g0 := (HKEY.out _ (World.grownBy_alloc wr (.cells #[.int .i64 0, .int .i64 0, .int .i64 0, .int .i64 0] 3) none)).1
            have g1 := (HKEY.out _ (World.grownBy_alloc wr (.cells #[.int .i64 0, .int .i64 0, .int .i64 0, .int .i64 0] 3) none)).2
            have h0 := (HKEY.out _ (gb_alloc (World.grownBy_alloc wr (.cells #[.int .i64 0, .slice none 0 0, .int .i64 0] 45) none) (.cells #[.int .i64 0, .int .i64 0, .int .i64 0, .int .i64 0] 3))).1
            have h1 := (HKEY.out _ (gb_alloc (World.grownBy_alloc wr (.cells #[.int .i64 0, .slice none 0 0, .int .i64 0] 45) none) (.cells #[.int .i64 0, .int .i64 0, .int .i64 0, .int .i64 0] 3))).2
            have k0 := (HKEY.out _ (gb_alloc (World.grownBy_alloc wr (.cells #[.int .i64 0, .int .i64 0, .int .i64 0, .int .i64 0] 3) none) (.cells #[.int .i64 0, .slice none 0 0, .int .i64 0] 45))).1
            have k1 := (HKEY.out _ (gb_alloc (World.grownBy_alloc wr (.cells #[.int .i64 0, .int .i64 0, .int .i64 0, .int .i64 0] 3) none) (.cells #[.int .i64 0, .slice none 0 0, .int .i64 0] 45))).2
            have hp6 : 6 ≤ p := by have := HP.out; have := HMN.out; omega
            have hpm : p ≤ m + 1 := by have := HP.out; omega
            clear HKEY
            go_region
            · clear hmk f0 f1 g0 g1 h0 h1 k0 k1 e0 e1
              obtain ⟨wo, hwo⟩ : ∃ wo : World, wo = wr := ⟨_, rfl⟩
              subst hwo
              have B1 := Lib.hid ((Row.new (wo.alloc (.cells #[.int .i64 0, .int .i64 0, .int .i64 0, .int .i64 0] 3)) 45 (ca := #[.int .i64 x0, .slice (some ⟨wo.heap.size, 0, none⟩) 4 4, .int .i64 x1]) rfl))
              have V1 := Lib.hid ((Row.new wo 3 (ca := #[.int .i64 0, .int .i64 0, .int .i64 0, .int .i64 0]) rfl).alloc (.cells #[.int .i64 x0, .slice (some ⟨wo.heap.size, 0, none⟩) 4 4, .int .i64 x1] 45))
              simp only [World.size_alloc] at B1 V1
              go_wp2_with fail
              go_loopw [9] (fun i wr => ∃ j : Nat, j ≤ 4 ∧ i = .int .i64 j ∧ Row wr (wo.heap.size + 1) 45 [.int .i64 x0, .slice (some ⟨wo.heap.size, 0, none⟩) 4 4, .int .i64 x1] ∧ Row wr (wo.heap.size) 3 ((((l.drop (1 + k * 6 + 2)).take j).map (· - 128) ++ List.replicate (4 - j) 0).map (.int .i64)) ∧ wo.grownBy wr none) (fun i _ => 4 - (intOf i).toNat)
              case atStart => exact ⟨0, by omega, rfl, B1.out, (by simp; exact V1.out), gb_drew (gb_alloc (gb_alloc (gb_refl _ _) _) _)⟩
              case round =>
                obtain ⟨j, hj, rfl, hbox, hvec, hg⟩ := hrel
                have B := Lib.hid hbox
                have V := Lib.hid hvec
                have GV := Lib.hid hg
                have hsv := hg.size
                have hl1 := hbox.lt
                have hl2 := hvec.lt
                clear hbox hvec hg
                by_cases hj4 : j < 4
                · obtain ⟨x, hx⟩ : ∃ x, l[1 + k * 6 + 2 + j]? = some x := ⟨_, List.getElem?_eq_getElem (by have := HP.out; have := HM.out; omega)⟩
                  obtain ⟨_, _, e', _, _, ex⟩ := HR.out.at_ (j := 1 + k * 6 + 2 + j) (u := .int .u8 x) (by rw [List.getElem?_map, hx]; rfl)
                  injection e' with e'
                  injection e' with e1 e2
                  subst e1 e2
                  have e0 : wr.cell? ⟨b, o + (1 + k * 6) + (2 + j), none⟩ = some (.int .u8 x) := by
                    have h := ((Agree.of_grown (gb_trans G.out GV.out)).cell (p := ⟨b, o + (1 + k * 6 + 2 + j), none⟩) (Nat.zero_le _) hb2).trans ex
                    rw [show o + (1 + k * 6) + (2 + j) = o + (1 + k * 6 + 2 + j) by omega]
                    exact h
                  have hxb := HB.out x (List.mem_of_getElem? hx)
                  have HLEN : Hid ((((l.drop (1 + k * 6 + 2)).take j).map (· - 128)).length = j) := Lib.hid (by rw [List.length_map, List.length_take, List.length_drop]; have := HP.out; have := HM.out; omega)
                  have HT : Hid (((((l.drop (1 + k * 6 + 2)).take j).map (· - 128) ++ List.replicate (4 - j) 0).map (Value.int .i64)).set j (.int .i64 (x - 128)) = (((l.drop (1 + k * 6 + 2)).take (j + 1)).map (· - 128) ++ List.replicate (4 - (j + 1)) 0).map (.int .i64)) := Lib.hid (by
                    have hjd : j < (l.drop (1 + k * 6 + 2)).length := by rw [List.length_drop]; have := HP.out; have := HM.out; omega
                    have h9 : (l.drop (1 + k * 6 + 2))[j]? = some x := by rw [List.getElem?_drop]; exact hx
                    rw [List.getElem?_eq_getElem hjd] at h9
                    injection h9 with h9
                    rw [List.take_succ_eq_append_getElem hjd, h9, show 4 - j = (4 - (j + 1)) + 1 by omega, List.replicate_succ, ← List.map_set, List.set_append_right _ _ (by rw [HLEN.out]; exact Nat.le_refl _), HLEN.out, Nat.sub_self, List.set_cons_zero, List.map_append (l₁ := List.take j _)]
                    simp)
                  have b1 : wr.cell? ⟨wo.heap.size + 1, 1, none⟩ = some (.slice (some ⟨wo.heap.size, 0, none⟩) 4 4) := B.out.cell 1
                  have v1 : wr.cell? ⟨wo.heap.size, j, none⟩ = some (.int .i64 0) := by
                    rw [V.out.cell, List.getElem?_map, List.getElem?_append_right (by rw [HLEN.out]; exact Nat.le_refl _), HLEN.out, Nat.sub_self, List.getElem?_replicate, if_pos (by omega)]
                    rfl
                  have vf : wr.frozen? ⟨wo.heap.size, j, none⟩ = false := V.out.frozen j
                  have j4 : (j : Int) < 4 := by omega
                  have j0 : (0 : Int) ≤ j := by omega
                  have jp : (2 : Int) + j < p := by omega
                  have jp' : 2 + j < p := by omega
                  clear hx ex
                  go_wp2_with fail
                  go_region
                  all_goals
                    go_wp2_with fail
                    go_roundw
                    case rel => exact ⟨j + 1, by omega, by go_num, B.out.far (by show ¬ _ = wo.heap.size; omega) _, HT.out ▸ V.out.set_ j _, gb_drew (gb_setCell GV.out (.inl (by show _ ≤ wo.heap.size; omega)) _)⟩
                    case measure => simp [intOf]; omega
                · obtain rfl : j = 4 := by omega
                  obtain ⟨y, hy⟩ : ∃ y : M.Item, y = ⟨x0, ((l.drop (1 + k * 6 + 2)).take 4).map (· - 128), x1⟩ := ⟨_, rfl⟩
                  have HY := Lib.hid hy
                  have HYP : Hid (y.pos.length = 4) := Lib.hid (by rw [hy]; show (((l.drop (1 + k * 6 + 2)).take 4).map (· - 128)).length = 4; rw [List.length_map, List.length_take, List.length_drop]; have := HP.out; have := HM.out; omega)
                  have HSUC : Hid (M.items (l.drop 1) (k + 1) = M.items (l.drop 1) k ++ [y]) := Lib.hid (by
                    rw [items_succ, hy]
                    congr 2
                    unfold M.itemOf6
                    rw [List.drop_drop, show 1 + 6 * k = 1 + k * 6 by omega, List.drop_drop, show 1 + k * 6 + 2 = 1 + k * 6 + 2 from rfl]
                    congr 1
                    · rw [List.getD_eq_getElem?_getD, List.getElem?_drop, Nat.add_zero, HX0.out]; rfl
                    · rw [List.getD_eq_getElem?_getD, List.getElem?_drop, HX1.out]; rfl)
                  have OV2 : Hid (OwnInts .i64 3 wr wo.heap.size (.slice (some ⟨wo.heap.size, 0, none⟩) 4 4) y.pos) := Lib.hid (by
                    have h := V.out.owns (base := wo.heap.size) (n := 4) (cap := 4) (size := 1) (by omega) (by omega) (by unfold maxLen; omega) (by
                      have h2 := HYP.out
                      rw [hy] at h2
                      have h3 : (((l.drop (1 + k * 6 + 2)).take 4).map (· - 128)).length = 4 := h2
                      rw [List.length_map, List.length_append, h3]
                      rfl)
                    have e : (((((l.drop (1 + k * 6 + 2)).take 4).map (· - 128) ++ List.replicate (4 - 4) 0).map (Value.int IntKind.i64)).take (4 * 1)) = y.pos.map (Value.int IntKind.i64) := by
                      rw [Nat.sub_self, List.replicate_zero, List.append_nil, List.take_of_length_le]
                      · rw [hy]
                      · have h2 := HYP.out
                        rw [hy] at h2
                        have h3 : (((l.drop (1 + k * 6 + 2)).take 4).map (· - 128)).length = 4 := h2
                        rw [List.length_map, h3]
                        omega
                    rw [e] at h
                    unfold OwnInts
                    rw [HYP.out]
                    exact h)
                  clear hy
                  obtain ⟨LV, hLV, hO, hI, hPw⟩ := O.out
                  have hlv16 : LV.length = k := by
                    have := congrArg List.length hLV
                    rw [List.length_map, M.items_length] at this
                    exact this
                  rw [hlv16] at hO
                  have H1 := Lib.hid hLV
                  have H2 := Lib.hid hO
                  have H3 := Lib.hid hI
                  have H4 := Lib.hid hPw
                  have HLV := Lib.hid hlv16
                  clear hLV hO hI hPw hlv16
                  have b0 : wr.cell? ⟨wo.heap.size + 1, 0, none⟩ = some (.int .i64 x0) := B.out.cell 0
                  have b1 : wr.cell? ⟨wo.heap.size + 1, 1, none⟩ = some (.slice (some ⟨wo.heap.size, 0, none⟩) 4 4) := B.out.cell 1
                  have b2 : wr.cell? ⟨wo.heap.size + 1, 2, none⟩ = some (.int .i64 x1) := B.out.cell 2
                  have H2a := Lib.hid ((H2.out.kept GV.out (own_ge H2.out (by simp))).alloc (.cells #[.int .i64 x0, .slice (some ⟨wo.heap.size, 0, none⟩) 4 4, .int .i64 x1] 45))
                  go_wp2_with (at_builtin; refine wpList_append_own _ rfl (.tmp 76) (.tmp 78) 26 rfl w.heap.size 45 i0 _ 3 40 Try.underlying26 hi0 hz0 hz1 hz2 rfl (by decide) _ k (cellsI LV) rfl H2a.out ⟨wr.heap.size, 0, none⟩ 1 1 [.int .i64 x0, .slice (some ⟨wo.heap.size, 0, none⟩) 4 4, .int .i64 x1] rfl rfl (three_cell_at rfl) item_oneCell (by unfold maxLen; omega) (by omega) (by simp; omega) ?_; intro v' w4 hown' hgrow _; have T1 := Lib.hid hown'; have T2 := Lib.hid hgrow; clear hown' hgrow)
                  go_roundw
                  case rel =>
                    refine ⟨k + 1, by omega, by go_num, ?_, ?_⟩
                    · rw [HSUC.out, ← H1.out]
                      exact push_step (wr := wo) (w1 := wr) (w2 := wr.alloc (.cells #[.int .i64 x0, .slice (some ⟨wo.heap.size, 0, none⟩) 4 4, .int .i64 x1] 45)) (B := w.heap.size) (u := .slice (some ⟨wo.heap.size, 0, none⟩) 4 4) (y := y) (by rw [HLV.out]; exact H2.out) H3.out H4.out GV.out OV2.out hszw (World.grownBy_alloc _ _ _) (v' := v') (w4 := w4) (by rw [HLV.out, HY.out]; exact T1.out) T2.out
                    · exact gb_new (gb_alloc (gb_trans G.out GV.out) _) T2.out (fun q hq => .inl (H2.out.lt q hq).1)
                  case measure => simp [intOf]; omega
            · clear hmk f0 f1 g0 g1 h0 h1 k0 k1 e0 e1
              obtain ⟨wo, hwo⟩ : ∃ wo : World, wo = wr := ⟨_, rfl⟩
              subst hwo
              have B1 := Lib.hid ((Row.new wo 45 (ca := #[.int .i64 x0, .slice (some ⟨wo.heap.size + 1, 0, none⟩) 4 4, .int .i64 x1]) rfl).alloc (.cells #[.int .i64 0, .int .i64 0, .int .i64 0, .int .i64 0] 3))
              have V1 := Lib.hid (Row.new (wo.alloc (.cells #[.int .i64 x0, .slice (some ⟨wo.heap.size + 1, 0, none⟩) 4 4, .int .i64 x1] 45)) 3 (ca := #[.int .i64 0, .int .i64 0, .int .i64 0, .int .i64 0]) rfl)
              simp only [World.size_alloc] at B1 V1
              go_wp2_with fail
              go_loopw [9] (fun i wr => ∃ j : Nat, j ≤ 4 ∧ i = .int .i64 j ∧ Row wr (wo.heap.size) 45 [.int .i64 x0, .slice (some ⟨wo.heap.size + 1, 0, none⟩) 4 4, .int .i64 x1] ∧ Row wr (wo.heap.size + 1) 3 ((((l.drop (1 + k * 6 + 2)).take j).map (· - 128) ++ List.replicate (4 - j) 0).map (.int .i64)) ∧ wo.grownBy wr none) (fun i _ => 4 - (intOf i).toNat)
              case atStart => exact ⟨0, by omega, rfl, B1.out, (by simp; exact V1.out), gb_drew (gb_alloc (gb_alloc (gb_refl _ _) _) _)⟩
              case round =>
                obtain ⟨j, hj, rfl, hbox, hvec, hg⟩ := hrel
                have B := Lib.hid hbox
                have V := Lib.hid hvec
                have GV := Lib.hid hg
                have hsv := hg.size
                have hl1 := hbox.lt
                have hl2 := hvec.lt
                clear hbox hvec hg
                by_cases hj4 : j < 4
                · obtain ⟨x, hx⟩ : ∃ x, l[1 + k * 6 + 2 + j]? = some x := ⟨_, List.getElem?_eq_getElem (by have := HP.out; have := HM.out; omega)⟩
                  obtain ⟨_, _, e', _, _, ex⟩ := HR.out.at_ (j := 1 + k * 6 + 2 + j) (u := .int .u8 x) (by rw [List.getElem?_map, hx]; rfl)
                  injection e' with e'
                  injection e' with e1 e2
                  subst e1 e2
                  have e0 : wr.cell? ⟨b, o + (1 + k * 6) + (2 + j), none⟩ = some (.int .u8 x) := by
                    have h := ((Agree.of_grown (gb_trans G.out GV.out)).cell (p := ⟨b, o + (1 + k * 6 + 2 + j), none⟩) (Nat.zero_le _) hb2).trans ex
                    rw [show o + (1 + k * 6) + (2 + j) = o + (1 + k * 6 + 2 + j) by omega]
                    exact h
                  have hxb := HB.out x (List.mem_of_getElem? hx)
                  have HLEN : Hid ((((l.drop (1 + k * 6 + 2)).take j).map (· - 128)).length = j) := Lib.hid (by rw [List.length_map, List.length_take, List.length_drop]; have := HP.out; have := HM.out; omega)
                  have HT : Hid (((((l.drop (1 + k * 6 + 2)).take j).map (· - 128) ++ List.replicate (4 - j) 0).map (Value.int .i64)).set j (.int .i64 (x - 128)) = (((l.drop (1 + k * 6 + 2)).take (j + 1)).map (· - 128) ++ List.replicate (4 - (j + 1)) 0).map (.int .i64)) := Lib.hid (by
                    have hjd : j < (l.drop (1 + k * 6 + 2)).length := by rw [List.length_drop]; have := HP.out; have := HM.out; omega
                    have h9 : (l.drop (1 + k * 6 + 2))[j]? = some x := by rw [List.getElem?_drop]; exact hx
                    rw [List.getElem?_eq_getElem hjd] at h9
                    injection h9 with h9
                    rw [List.take_succ_eq_append_getElem hjd, h9, show 4 - j = (4 - (j + 1)) + 1 by omega, List.replicate_succ, ← List.map_set, List.set_append_right _ _ (by rw [HLEN.out]; exact Nat.le_refl _), HLEN.out, Nat.sub_self, List.set_cons_zero, List.map_append (l₁ := List.take j _)]
                    simp)
                  have b1 : wr.cell? ⟨wo.heap.size, 1, none⟩ = some (.slice (some ⟨wo.heap.size + 1, 0, none⟩) 4 4) := B.out.cell 1
                  have v1 : wr.cell? ⟨wo.heap.size + 1, j, none⟩ = some (.int .i64 0) := by
                    rw [V.out.cell, List.getElem?_map, List.getElem?_append_right (by rw [HLEN.out]; exact Nat.le_refl _), HLEN.out, Nat.sub_self, List.getElem?_replicate, if_pos (by omega)]
                    rfl
                  have vf : wr.frozen? ⟨wo.heap.size + 1, j, none⟩ = false := V.out.frozen j
                  have j4 : (j : Int) < 4 := by omega
                  have j0 : (0 : Int) ≤ j := by omega
                  have jp : (2 : Int) + j < p := by omega
                  have jp' : 2 + j < p := by omega
                  clear hx ex
                  go_wp2_with fail
                  go_region
                  all_goals
                    go_wp2_with fail
                    go_roundw
                    case rel => exact ⟨j + 1, by omega, by go_num, B.out.far (by show ¬ _ = wo.heap.size + 1; omega) _, HT.out ▸ V.out.set_ j _, gb_drew (gb_setCell GV.out (.inl (by show _ ≤ wo.heap.size + 1; omega)) _)⟩
                    case measure => simp [intOf]; omega
                · obtain rfl : j = 4 := by omega
                  obtain ⟨y, hy⟩ : ∃ y : M.Item, y = ⟨x0, ((l.drop (1 + k * 6 + 2)).take 4).map (· - 128), x1⟩ := ⟨_, rfl⟩
                  have HY := Lib.hid hy
                  have HYP : Hid (y.pos.length = 4) := Lib.hid (by rw [hy]; show (((l.drop (1 + k * 6 + 2)).take 4).map (· - 128)).length = 4; rw [List.length_map, List.length_take, List.length_drop]; have := HP.out; have := HM.out; omega)
                  have HSUC : Hid (M.items (l.drop 1) (k + 1) = M.items (l.drop 1) k ++ [y]) := Lib.hid (by
                    rw [items_succ, hy]
                    congr 2
                    unfold M.itemOf6
                    rw [List.drop_drop, show 1 + 6 * k = 1 + k * 6 by omega, List.drop_drop, show 1 + k * 6 + 2 = 1 + k * 6 + 2 from rfl]
                    congr 1
                    · rw [List.getD_eq_getElem?_getD, List.getElem?_drop, Nat.add_zero, HX0.out]; rfl
                    · rw [List.getD_eq_getElem?_getD, List.getElem?_drop, HX1.out]; rfl)
                  have OV2 : Hid (OwnInts .i64 3 wr wo.heap.size (.slice (some ⟨wo.heap.size + 1, 0, none⟩) 4 4) y.pos) := Lib.hid (by
                    have h := V.out.owns (base := wo.heap.size) (n := 4) (cap := 4) (size := 1) (by omega) (by omega) (by unfold maxLen; omega) (by
                      have h2 := HYP.out
                      rw [hy] at h2
                      have h3 : (((l.drop (1 + k * 6 + 2)).take 4).map (· - 128)).length = 4 := h2
                      rw [List.length_map, List.length_append, h3]
                      rfl)
                    have e : (((((l.drop (1 + k * 6 + 2)).take 4).map (· - 128) ++ List.replicate (4 - 4) 0).map (Value.int IntKind.i64)).take (4 * 1)) = y.pos.map (Value.int IntKind.i64) := by
                      rw [Nat.sub_self, List.replicate_zero, List.append_nil, List.take_of_length_le]
                      · rw [hy]
                      · have h2 := HYP.out
                        rw [hy] at h2
                        have h3 : (((l.drop (1 + k * 6 + 2)).take 4).map (· - 128)).length = 4 := h2
                        rw [List.length_map, h3]
                        omega
                    rw [e] at h
                    unfold OwnInts
                    rw [HYP.out]
                    exact h)
                  clear hy
                  obtain ⟨LV, hLV, hO, hI, hPw⟩ := O.out
                  have hlv16 : LV.length = k := by
                    have := congrArg List.length hLV
                    rw [List.length_map, M.items_length] at this
                    exact this
                  rw [hlv16] at hO
                  have H1 := Lib.hid hLV
                  have H2 := Lib.hid hO
                  have H3 := Lib.hid hI
                  have H4 := Lib.hid hPw
                  have HLV := Lib.hid hlv16
                  clear hLV hO hI hPw hlv16
                  have b0 : wr.cell? ⟨wo.heap.size, 0, none⟩ = some (.int .i64 x0) := B.out.cell 0
                  have b1 : wr.cell? ⟨wo.heap.size, 1, none⟩ = some (.slice (some ⟨wo.heap.size + 1, 0, none⟩) 4 4) := B.out.cell 1
                  have b2 : wr.cell? ⟨wo.heap.size, 2, none⟩ = some (.int .i64 x1) := B.out.cell 2
                  have H2a := Lib.hid ((H2.out.kept GV.out (own_ge H2.out (by simp))).alloc (.cells #[.int .i64 x0, .slice (some ⟨wo.heap.size + 1, 0, none⟩) 4 4, .int .i64 x1] 45))
                  go_wp2_with (at_builtin; refine wpList_append_own _ rfl (.tmp 76) (.tmp 78) 26 rfl w.heap.size 45 i0 _ 3 40 Try.underlying26 hi0 hz0 hz1 hz2 rfl (by decide) _ k (cellsI LV) rfl H2a.out ⟨wr.heap.size, 0, none⟩ 1 1 [.int .i64 x0, .slice (some ⟨wo.heap.size + 1, 0, none⟩) 4 4, .int .i64 x1] rfl rfl (three_cell_at rfl) item_oneCell (by unfold maxLen; omega) (by omega) (by simp; omega) ?_; intro v' w4 hown' hgrow _; have T1 := Lib.hid hown'; have T2 := Lib.hid hgrow; clear hown' hgrow)
                  go_roundw
                  case rel =>
                    refine ⟨k + 1, by omega, by go_num, ?_, ?_⟩
                    · rw [HSUC.out, ← H1.out]
                      exact push_step (wr := wo) (w1 := wr) (w2 := wr.alloc (.cells #[.int .i64 x0, .slice (some ⟨wo.heap.size + 1, 0, none⟩) 4 4, .int .i64 x1] 45)) (B := w.heap.size) (u := .slice (some ⟨wo.heap.size + 1, 0, none⟩) 4 4) (y := y) (by rw [HLV.out]; exact H2.out) H3.out H4.out GV.out OV2.out hszw (World.grownBy_alloc _ _ _) (v' := v') (w4 := w4) (by rw [HLV.out, HY.out]; exact T1.out) T2.out
                    · exact gb_new (gb_alloc (gb_trans G.out GV.out) _) T2.out (fun q hq => .inl (H2.out.lt q hq).1)
                  case measure => simp [intOf]; omega
          · obtain rfl : k = n := by omega
            have HS : Hid (M.items (l.drop 1) k = M.store l) := Lib.hid (by unfold M.store; rw [hg0.out, Int.toNat_natCast])
            rw [HS.out] at O
            have HSL : Hid ((M.store l).length = k) := Lib.hid (by rw [← HS.out, M.items_length])
            obtain ⟨As, cs, hvs, hcs, hrs⟩ := OwnItems.rd O.out
            rw [HSL.out] at hvs
            subst hvs
            have hZ2 : (2 : Nat) ≤ l.length ∧ (l.length : Int) = 6 * l.getD 0 0 + 2 := by rw [hg0.out, HM.out]; omega
            have HZ2 := Lib.hid hZ2
            have HC := Lib.hid (validStore_spec wr As cs _ _ (M.store l) (by rw [HSL.out]; omega) (store_pos l) hrs (Nat.le_refl _))
            rw [HSL.out] at HC
            clear hcs hrs hZ2 hmn
            go_wp2_with fail
            refine HC.out.mono ?_
            rintro e w2 ⟨rfl, hg⟩
            have G2 := Lib.hid (gb_trans G.out hg)
            have O2 := Lib.hid (OwnItems.grown O.out hg (by simp))
            clear hg
            cases hv : M.validStore (M.store l)
            · have HA : Hid (M.ParsePage l = none) := Lib.hid (by unfold M.ParsePage; rw [if_neg]; rintro ⟨_, _, _, h⟩; rw [hv] at h; cases h)
              clear hv
              go_wp2_with fail
              go_ret2
              exact ⟨[_, _], rfl, by rw [HA.out]; rfl, G2.out⟩
            · have HA : Hid (M.ParsePage l = some (M.store l)) := Lib.hid (by unfold M.ParsePage; rw [if_pos ⟨HZ2.out.1, HZ2.out.2, by rw [HGM.out, HTK.out]; exact HK.out, hv⟩])
              clear hv
              go_wp2_with fail
              go_ret2
              exact ⟨[_, _], rfl, by rw [HA.out]; exact ⟨_, rfl, O2.out⟩, G2.out⟩
      · have tk : (M.chk (l.take m) != z) = true := by simp [hk]
        have HA : Hid (M.ParsePage l = none) := Lib.hid (by unfold M.ParsePage; rw [if_neg]; rintro ⟨_, _, h, _⟩; rw [HGM.out, HTK.out] at h; exact hk h)
        clear hk hlen hz hm hmn h2 hpos
        generalize M.chk (l.take m) = ck at HCK hchk tk
        go_enter Try.func19, Try.ntmps19
        go_wp2_with fail
        go_quiet ((go_at_call 32; exact quiet_here (HCK.out _)))
        go_wp2_with fail
        go_ret2
        exact ⟨[_, _], rfl, by rw [HA.out]; rfl, gb_drewN (gb_refl _ _) _⟩
    · have HA : Hid (M.ParsePage l = none) := Lib.hid (by unfold M.ParsePage; rw [if_neg]; rintro ⟨_, h, _⟩; rw [hg0.out] at h; omega)
      have tm1 : decide ((m : Int) < 1) = false := by simp; omega
      have tm2 : ((m : Int) != 1 + (n : Int) * 6) = true := by rw [bne_iff_ne]; omega
      rw [hm] at hl ⊢
      clear hlen hm h2 hpos
      go_enter Try.func19, Try.ntmps19
      go_wp2_with fail
      go_quiet (fail)
      go_wp2_with fail
      go_ret2
      exact ⟨[_, _], rfl, by rw [HA.out]; rfl, gb_drewN (gb_refl _ _) _⟩
  · have HA : Hid (M.ParsePage l = none) := Lib.hid (by unfold M.ParsePage; rw [if_neg]; rintro ⟨h, _⟩; omega)
    have tm1 : decide ((l.length : Int) - 1 < 1) = true := by simp; omega
    have tm2 : decide ((l.length : Int) < 2) = true := by simp; omega
    generalize l.length = Z at *
    go_enter Try.func19, Try.ntmps19
    go_wp2_with fail
    go_quiet (fail)
    go_wp2_with fail
    go_ret2
    exact ⟨[_, _], rfl, by rw [HA.out]; rfl, gb_drewN (gb_refl _ _) _⟩
end Go.Proofs.Ytbfilliflfmaoaa
