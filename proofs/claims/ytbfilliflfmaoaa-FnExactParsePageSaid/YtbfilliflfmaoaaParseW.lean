/- The walks of the reading of pages. -/
import Derived.Test.YtbfilliflfmaoaaPageW
import Derived.Test.YtbfilliflfmaoaaPutIW
import Derived.Test.YtbfilliflfmaoaaDrawV
import Derived.StillTailTactics
import Derived.RegionTactic
namespace Go.Proofs.Ytbfilliflfmaoaa
open Go.RowKit
set_option linter.unusedVariables false

/-- two slices of numbers are compared -/
theorem slicesEqual_u8 (w : World) (A B : Option Addr) (c d : Nat) (l m : List Int) (lo hi lo' hi' : Nat) (hl : l.length ≤ 1073741824) (hr : Rd w lo hi A (l.map (.int .u8))) (hs : Rd w lo' hi' B (m.map (.int .u8))) :
    Calls Try.prog 37 #[.slice A l.length c, .slice B m.length d] w fun e w' => e = .returned (.bool (decide (l = m))) ∧ ∃ n, w' = w.drewN n := by
  by_cases hlm : l.length = m.length
  · obtain ⟨L, hL⟩ : ∃ L, L = l.length := ⟨_, rfl⟩
    rw [← hlm, ← hL] 
    rw [← hL] at hl
    have HM := Lib.hid (hL.trans hlm)
    have HL := Lib.hid hL
    have HR := Lib.hid hr
    have HS := Lib.hid hs
    clear hL hr hs hlm
    have t0 : ((L : Int) != L) = false := by simp
    go_enter Try.func37, Try.ntmps37
    go_wp2
    go_loopw [13] (fun i wr => ∃ k : Nat, k ≤ L ∧ i = .int .i64 k ∧ l.take k = m.take k ∧ ∃ n, wr = w.drewN n) (fun i _ => L - (intOf i).toNat)
    case atStart => exact ⟨0, Nat.zero_le _, rfl, rfl, 0, rfl⟩
    case round =>
      obtain ⟨k, hk, rfl, he, q, rfl⟩ := hrel
      have HE := Lib.hid he
      clear he
      by_cases hlt : k < L
      · have hkl : k < l.length := by rw [← HL.out]; exact hlt
        have hkm : k < m.length := by rw [← HM.out]; exact hlt
        obtain ⟨b, o, rfl, _, _, hc⟩ := HR.out.at_ (j := k) (u := .int .u8 l[k]) (by simp [hkl])
        obtain ⟨b', o', rfl, _, _, hc'⟩ := HS.out.at_ (j := k) (u := .int .u8 m[k]) (by simp [hkm])
        have hi1 : (k : Int) < L := by omega
        have hi0 : (0 : Int) ≤ k := by omega
        by_cases hx : l[k] = m[k]
        · have hN : l.take (k + 1) = m.take (k + 1) := by
            rw [List.take_succ_eq_append_getElem hkl, List.take_succ_eq_append_getElem hkm, HE.out, hx]
          have HN := Lib.hid hN
          rw [hx] at hc
          generalize m[k] = x at *
          clear hN hx
          have t1 : (x != x) = false := by simp
          go_wp2
          go_quiet (fail)
          go_wp2
          go_roundw
          case rel => exact ⟨k + 1, by omega, by go_num, HN.out, _, rfl⟩
          case measure => simp [intOf]; omega
        · have hN : decide (l = m) = false := decide_eq_false (fun e => hx (by subst e; rfl))
          have HD := Lib.hid hN
          have t1 : (l[k] != m[k]) = true := by simpa using hx
          generalize m[k] = x at *
          generalize l[k] = y at *
          clear hN hx
          go_wp2
          go_quiet (fail)
          go_wp2
          go_ret
          exact ⟨ret_bool HD.out.symm, by first | exact ⟨_, rfl⟩ | exact ⟨_, World.drewN_drewN _ _ _⟩⟩
      · obtain rfl : k = L := by omega
        have hN : decide (l = m) = true := decide_eq_true (by
          have := HE.out
          rwa [List.take_of_length_le (by rw [HL.out]; exact Nat.le_refl _), List.take_of_length_le (by rw [HM.out]; exact Nat.le_refl _)] at this)
        have HD := Lib.hid hN
        clear hN
        go_wp2
        go_ret
        exact ⟨ret_bool HD.out.symm, by first | exact ⟨_, rfl⟩ | exact ⟨_, World.drewN_drewN _ _ _⟩⟩
  · have hN : decide (l = m) = false := decide_eq_false (fun e => hlm (by rw [e]))
    rw [hN]
    have t0 : ((l.length : Int) != m.length) = true := by rw [bne_iff_ne]; omega
    generalize l.length = L at *
    generalize m.length = L' at *
    clear hN hr hs hlm
    go_enter Try.func37, Try.ntmps37
    go_wp2
    go_ret
    exact ⟨rfl, 0, rfl⟩
theorem items_succ (b : List Int) : ∀ n, M.items b (n + 1) = M.items b n ++ [M.itemOf6 (b.drop (6 * n))] := by
  intro n
  induction n generalizing b with
  | zero => rfl
  | succ n ih =>
    show M.itemOf6 b :: M.items (b.drop 6) (n + 1) = (M.itemOf6 b :: M.items (b.drop 6) n) ++ _
    rw [ih, List.drop_drop, List.cons_append, show 6 + 6 * n = 6 * (n + 1) by omega]
set_option maxHeartbeats 2000000 in
theorem ParsePage_impl (w : World) (A : Option Addr) (c : Nat) (l : List Int) (hc : l.length ≤ c) (hl : l.length ≤ 1048576) (hb : M.bytes l) (hr : Rd w 0 w.heap.size A (l.map (.int .u8))) :
    Calls Try.prog 21 #[.slice A l.length c] w fun e w' => ∃ vs, e = .returned (.tuple vs.toArray) ∧ PutAns w' w.heap.size vs (M.ParsePage l) ∧ w.grownBy w' none := by
  obtain ⟨i0, hi0, hz0, hz1, hz2⟩ := info_parts info_item'
  obtain ⟨j0, hj0, jz0, jz1, jz2⟩ := info_parts info_int'
  have HR := Lib.hid hr
  have HB := Lib.hid hb
  clear hr hb
  by_cases h2 : 2 ≤ l.length
  · have hpos : 0 < l.length := by omega
    obtain ⟨b, o, rfl, hb1, hb2, d0⟩ := HR.out.at_ (j := 0) (u := .int .u8 l[0]) (by simp [hpos])
    rw [Nat.add_zero] at d0
    have hx := HB.out _ (List.getElem_mem hpos)
    obtain ⟨n, hn⟩ := Int.eq_ofNat_of_zero_le hx.1
    have HN := Lib.hid hn
    rw [hn] at d0 hx
    have hn9 : n ≤ 255 := by omega
    have hg0 : Hid (l.getD 0 0 = (n : Int)) := Lib.hid (by rw [← hn]; simp [List.getD_eq_getElem?_getD, List.getElem?_eq_getElem hpos])
    clear hn hx
    by_cases hlen : l.length = n * 6 + 2
    · obtain ⟨Z, hZ⟩ : ∃ Z, Z = l.length := ⟨_, rfl⟩
      rw [← hZ] at hc hl hlen h2 hpos ⊢
      have HZ := Lib.hid hZ
      have HLEN := Lib.hid hlen
      have hlen1 : Z ≤ n * 6 + 2 := by omega
      have hlen2 : n * 6 + 2 ≤ Z := by omega
      have tz : ((Z : Int) != (n : Int) * 6 + 2) = false := by simp; omega
      clear hZ hlen
      go_enter Try.func21, Try.ntmps21
      go_wp2_with fail
      go_loopw [6, 28] (fun v i wr => ∃ k : Nat, k ≤ n ∧ i = .int .i64 k ∧ OwnItems wr w.heap.size v (M.items (l.drop 1) k) ∧ w.grownBy wr none) (fun _ i _ => n - (intOf i).toNat)
      case atStart =>
        refine ⟨0, Nat.zero_le _, rfl, ⟨[], rfl, ?_, by simp, List.Pairwise.nil⟩, gb_alloc (gb_refl _ _) _⟩
        have := World.ownsRow_made (base := w.heap.size) (e := 45) (size := 3) w #[] 0 (by simp) (by decide) rfl
        simpa [cellsI] using this
      case round =>
        obtain ⟨k, hk, rfl, hown, hg⟩ := hrel
        have O := Lib.hid hown
        have G := Lib.hid hg
        have hszw := hg.size
        clear hown hg
        by_cases hlt : k < n
        · obtain ⟨x0, hx0⟩ : ∃ x0, l[1 + k * 6]? = some x0 := ⟨_, List.getElem?_eq_getElem (by rw [← HZ.out]; omega)⟩
          obtain ⟨x1, hx1⟩ : ∃ x1, l[1 + k * 6 + 1]? = some x1 := ⟨_, List.getElem?_eq_getElem (by rw [← HZ.out]; omega)⟩
          obtain ⟨_, _, e', _, _, e0'⟩ := HR.out.at_ (j := 1 + k * 6) (u := .int .u8 x0) (by rw [List.getElem?_map, hx0]; rfl)
          injection e' with e'
          injection e' with e1 e2
          subst e1 e2
          obtain ⟨_, _, e', _, _, e1'⟩ := HR.out.at_ (j := 1 + k * 6 + 1) (u := .int .u8 x1) (by rw [List.getElem?_map, hx1]; rfl)
          injection e' with e'
          injection e' with e1 e2
          subst e1 e2
          have e0 : wr.cell? ⟨b, o + (1 + k * 6), none⟩ = some (.int .u8 x0) := ((Agree.of_grown G.out).cell (p := ⟨b, o + (1 + k * 6), none⟩) hb1 hb2).trans e0'
          have e1 : wr.cell? ⟨b, o + (1 + k * 6) + 1, none⟩ = some (.int .u8 x1) := ((Agree.of_grown G.out).cell (p := ⟨b, o + (1 + k * 6 + 1), none⟩) hb1 hb2).trans e1'
          have hb0 := HB.out x0 (List.mem_of_getElem? hx0)
          have hb1' := HB.out x1 (List.mem_of_getElem? hx1)
          have HX0 := Lib.hid hx0
          have HX1 := Lib.hid hx1
          clear e0' e1' hx0 hx1
          have f0 : (wr.alloc (.cells #[.int .i64 0, .slice none 0 0, .int .i64 0] 45)).cell? ⟨b, o + (1 + k * 6), none⟩ = some (.int .u8 x0) := ((Agree.of_grown (World.grownBy_alloc wr _ none)).cell (p := ⟨b, o + (1 + k * 6), none⟩) (Nat.zero_le _) (by show b < _; omega)).trans e0
          have f1 : (wr.alloc (.cells #[.int .i64 0, .slice none 0 0, .int .i64 0] 45)).cell? ⟨b, o + (1 + k * 6) + 1, none⟩ = some (.int .u8 x1) := ((Agree.of_grown (World.grownBy_alloc wr _ none)).cell (p := ⟨b, o + (1 + k * 6) + 1, none⟩) (Nat.zero_le _) (by show b < _; omega)).trans e1
          have hsl : 1 + (k + 1) * 6 - (1 + k * 6) = 6 := by omega
          go_wp2_with fail
          go_region
          have hcap : ¬ c - (1 + k * 6) = 2 := by omega
          have hcz : 1 + k * 6 + 6 ≤ Z := by omega
          have B1 := Lib.hid (show Row (wr.alloc (.cells #[.int .i64 x0, .slice none 0 0, .int .i64 x1] 45)).drew wr.heap.size 45 [.int .i64 x0, .slice none 0 0, .int .i64 x1] from Row.new wr _ rfl)
          have G1 := Lib.hid (gb_drew (gb_alloc (gb_refl wr none) (.cells #[.int .i64 x0, .slice none 0 0, .int .i64 x1] 45)))
          clear e0 e1 f0 f1
          go_wp2_with fail
          obtain ⟨wo, hwo⟩ : ∃ wo : World, wo = wr := ⟨_, rfl⟩
          subst hwo
          go_loopw [54] (fun i wr => ∃ j : Nat, j ≤ 4 ∧ i = .int .i64 j ∧ (∃ Aj cj, Row wr wo.heap.size 45 [.int .i64 x0, .slice Aj j cj, .int .i64 x1] ∧ OwnInts .i64 3 wr (wo.heap.size + 1) (.slice Aj j cj) (((l.drop (1 + k * 6 + 2)).take j).map (· - 128))) ∧ wo.grownBy wr none) (fun i _ => 4 - (intOf i).toNat)
          case atStart => exact ⟨0, by omega, rfl, ⟨none, 0, B1.out, ⟨rfl, .inl ⟨rfl, rfl⟩⟩⟩, G1.out⟩
          case round =>
            obtain ⟨j, hj, rfl, ⟨Aj, cj, hbox, hown⟩, hg⟩ := hrel
            have B := Lib.hid hbox
            have OV := Lib.hid hown
            have GV := Lib.hid hg
            have hsv := hg.size
            have hlv := hbox.lt
            clear hbox hown hg
            by_cases hj4 : j < 4
            · obtain ⟨x, hx⟩ : ∃ x, l[1 + k * 6 + 2 + j]? = some x := ⟨_, List.getElem?_eq_getElem (by rw [← HZ.out]; omega)⟩
              obtain ⟨_, _, e', _, _, ex⟩ := HR.out.at_ (j := 1 + k * 6 + 2 + j) (u := .int .u8 x) (by rw [List.getElem?_map, hx]; rfl)
              injection e' with e'
              injection e' with e1 e2
              subst e1 e2
              have e0 : wr.cell? ⟨b, o + (1 + k * 6) + 2 + j, none⟩ = some (.int .u8 x) := ((Agree.of_grown (gb_trans G.out GV.out)).cell (p := ⟨b, o + (1 + k * 6 + 2 + j), none⟩) (Nat.zero_le _) hb2).trans ex ▸ (by congr 2; omega)
              have hxb := HB.out x (List.mem_of_getElem? hx)
              have HT : Hid (((l.drop (1 + k * 6 + 2)).take (j + 1)).map (· - 128) = ((l.drop (1 + k * 6 + 2)).take j).map (· - 128) ++ [x - 128]) := Lib.hid (by
                have hjd : j < (l.drop (1 + k * 6 + 2)).length := by rw [List.length_drop, ← HZ.out]; omega
                rw [List.take_succ_eq_append_getElem hjd, List.map_append]
                have : (l.drop (1 + k * 6 + 2))[j] = x := by
                  have h9 : (l.drop (1 + k * 6 + 2))[j]? = some x := by rw [List.getElem?_drop]; exact hx
                  rw [List.getElem?_eq_getElem hjd] at h9
                  injection h9
                rw [this]; rfl)
              have HVL : Hid (((((l.drop (1 + k * 6 + 2)).take j).map (· - 128)).length : Nat) = j) := Lib.hid (by rw [List.length_map, List.length_take, List.length_drop, ← HZ.out]; omega)
              have hub : Hid (∀ q, (Value.slice Aj j cj).ownBlock = some q → wo.heap.size + 1 ≤ q) := Lib.hid fun q hq => (World.ownsRow.lt OV.out q hq).1
              have b1 : wr.cell? ⟨wo.heap.size, 1, none⟩ = some (.slice Aj j cj) := B.out.cell 1
              have BA := Lib.hid (B.out.alloc (.cells #[.int .i64 (x - 128)] 3))
              have OA : Hid ((wr.alloc (.cells #[.int .i64 (x - 128)] 3)).ownsRow (wo.heap.size + 1) 3 1 (.slice Aj j cj) j ((((l.drop (1 + k * 6 + 2)).take j).map (· - 128)).map (.int .i64))) := Lib.hid (by
                have h := World.ownsRow.alloc OV.out (.cells #[.int .i64 (x - 128)] 3)
                rwa [HVL.out] at h)
              clear hx ex
              go_wp2_with (at_builtin; refine wpList_append_own _ rfl (.tmp 59) (.tmp 63) 41 rfl (wo.heap.size + 1) 3 j0 (.int .i64 0) 1 8 Try.underlying41 hj0 jz0 jz1 jz2 rfl (by decide) (.slice Aj j cj) j ((((l.drop (1 + k * 6 + 2)).take j).map (· - 128)).map (.int .i64)) rfl OA.out ⟨wr.heap.size, 0, none⟩ 1 1 [.int .i64 (x - 128)] rfl rfl one_cell_new (one_cells rfl) (by unfold maxLen; omega) (by omega) (by simp; omega) ?_; intro v' w4 hown' hgrow _; obtain ⟨Av, cv, hvv, hcv, _⟩ := OwnInts.rd (k := .i64) (t := 3) (l := ((l.drop (1 + k * 6 + 2)).take j).map (· - 128) ++ [x - 128]) (show OwnInts .i64 3 w4 (wo.heap.size + 1) v' _ from by unfold OwnInts; rw [List.length_append, HVL.out, List.map_append]; exact hown'); rw [List.length_append, HVL.out] at hvv hcv; change v' = .slice Av (j + 1) cv at hvv; subst hvv; have T1 := Lib.hid hown'; have T2 := Lib.hid hgrow; have B4 := Lib.hid (BA.out.grown hgrow (fun e => by have := hub.out _ e.symm; omega)); have q0 : w4.cell? ⟨wo.heap.size, 0, none⟩ = some (.int .i64 x0) := B4.out.cell 0; have q1 : w4.cell? ⟨wo.heap.size, 1, none⟩ = some (.slice Aj j cj) := B4.out.cell 1; have f1 : w4.frozen? ⟨wo.heap.size, 1, none⟩ = false := B4.out.frozen 1; clear hown' hgrow)
              go_roundw
              case rel =>
                refine ⟨j + 1, by omega, by go_num, ⟨Av, cv, ?_, ?_⟩, ?_⟩
                · exact B4.out.set_ 1 _
                · refine OwnInts.set_ ?_ (by show wo.heap.size < _; omega) _
                  unfold OwnInts
                  rw [HT.out, List.length_append, HVL.out, List.map_append]
                  exact T1.out
                · exact gb_setCell (gb_new (gb_alloc GV.out _) T2.out (fun q hq => .inl (by have := hub.out q hq; omega))) (.inl (by show _ ≤ wo.heap.size; omega)) _
              case measure => simp [intOf]; omega
            · obtain rfl : j = 4 := by omega
              obtain ⟨y, hy⟩ : ∃ y : M.Item, y = ⟨x0, ((l.drop (1 + k * 6 + 2)).take 4).map (· - 128), x1⟩ := ⟨_, rfl⟩
              have HY := Lib.hid hy
              have HYP : Hid (y.pos.length = 4) := Lib.hid (by rw [hy]; show (((l.drop (1 + k * 6 + 2)).take 4).map (· - 128)).length = 4; rw [List.length_map, List.length_take, List.length_drop, ← HZ.out]; omega)
              have HSUC : Hid (M.items (l.drop 1) (k + 1) = M.items (l.drop 1) k ++ [y]) := Lib.hid (by
                rw [items_succ, hy]
                congr 2
                unfold M.itemOf6
                rw [List.drop_drop, show 1 + 6 * k = 1 + k * 6 by omega, List.drop_drop, show 1 + k * 6 + 2 = 1 + k * 6 + 2 from rfl]
                congr 1
                · rw [List.getD_eq_getElem?_getD, List.getElem?_drop, Nat.add_zero, HX0.out]; rfl
                · rw [List.getD_eq_getElem?_getD, List.getElem?_drop, HX1.out]; rfl)
              have OV2 : Hid (OwnInts .i64 3 wr (wo.heap.size + 1) (.slice Aj 4 cj) y.pos) := Lib.hid (by rw [hy]; exact OV.out)
              clear hy
              obtain ⟨LV, hLV, hO, hI, hP⟩ := O.out
              have hlv16 : LV.length = k := by
                have := congrArg List.length hLV
                rw [List.length_map, M.items_length] at this
                exact this
              rw [hlv16] at hO
              have H1 := Lib.hid hLV
              have H2 := Lib.hid hO
              have H3 := Lib.hid hI
              have H4 := Lib.hid hP
              have HLV := Lib.hid hlv16
              clear hLV hO hI hP hlv16
              have b0 : wr.cell? ⟨wo.heap.size, 0, none⟩ = some (.int .i64 x0) := B.out.cell 0
              have b1 : wr.cell? ⟨wo.heap.size, 1, none⟩ = some (.slice Aj 4 cj) := B.out.cell 1
              have b2 : wr.cell? ⟨wo.heap.size, 2, none⟩ = some (.int .i64 x1) := B.out.cell 2
              have H2a := Lib.hid ((H2.out.kept GV.out (own_ge H2.out (by simp))).alloc (.cells #[.int .i64 x0, .slice Aj 4 cj, .int .i64 x1] 45))
              go_wp2_with (at_builtin; refine wpList_append_own _ rfl (.tmp 67) (.tmp 69) 26 rfl w.heap.size 45 i0 _ 3 40 Try.underlying26 hi0 hz0 hz1 hz2 rfl (by decide) _ k (cellsI LV) rfl H2a.out ⟨wr.heap.size, 0, none⟩ 1 1 [.int .i64 x0, .slice Aj 4 cj, .int .i64 x1] rfl rfl (three_cell_at rfl) item_oneCell (by unfold maxLen; omega) (by omega) (by simp; omega) ?_; intro v' w4 hown' hgrow _; have T1 := Lib.hid hown'; have T2 := Lib.hid hgrow; clear hown' hgrow)
              go_roundw
              case rel =>
                refine ⟨k + 1, by omega, by go_num, ?_, ?_⟩
                · rw [HSUC.out, ← H1.out]
                  have h := push_step (wr := wo) (w1 := wr) (w2 := wr.alloc (.cells #[.int .i64 x0, .slice Aj 4 cj, .int .i64 x1] 45)) (B := w.heap.size) (u := .slice Aj 4 cj) (y := y) (by rw [HLV.out]; exact H2.out) H3.out H4.out GV.out (OwnInts.wide OV2.out (by omega)) hszw (World.grownBy_alloc _ _ _) (v' := v') (w4 := w4) (by rw [HLV.out, HY.out]; exact T1.out) T2.out
                  exact h
                · exact gb_new (gb_alloc (gb_trans G.out GV.out) _) T2.out (fun q hq => .inl (H2.out.lt q hq).1)
              case measure => simp [intOf]; omega
        · obtain rfl : k = n := by omega
          have HS : Hid (M.items (l.drop 1) k = M.store l) := Lib.hid (by unfold M.store; rw [hg0.out, Int.toNat_natCast])
          rw [HS.out] at O
          have HSL : Hid ((M.store l).length = k) := Lib.hid (by rw [← HS.out, M.items_length])
          have HPOS : Hid (∀ x ∈ M.store l, x.pos.length ≤ 1048576) := Lib.hid (by
            rw [← HS.out]
            have hgen : ∀ (n : Nat) (q : List Int), ∀ x ∈ M.items q n, x.pos.length ≤ 1048576 := by
              intro n
              induction n with
              | zero => intro q x hx; simp [M.items] at hx
              | succ n ih =>
                intro q x hx
                simp only [M.items, List.mem_cons] at hx
                rcases hx with rfl | hx
                · unfold M.itemOf6
                  simp only [List.length_map, List.length_take]
                  omega
                · exact ih _ x hx
            exact hgen _ _)
          obtain ⟨As, cs, hvs, hcs, hrs⟩ := OwnItems.rd O.out
          rw [HSL.out] at hvs
          subst hvs
          have HR2 := Lib.hid hrs
          have hZ2 : (2 : Nat) ≤ l.length ∧ (l.length : Int) = 6 * l.getD 0 0 + 2 := by rw [hg0.out, ← HZ.out]; omega
          have HZ2 := Lib.hid hZ2
          have HC := Lib.hid (ValidStore_impl wr As cs _ _ (M.store l) (by rw [HSL.out]; omega) HPOS.out HR2.out (Nat.le_refl _))
          rw [HSL.out] at HC
          clear hcs hrs hZ2
          go_wp2_with fail
          refine HC.out.mono ?_
          rintro e w2 ⟨rfl, hg⟩
          have G2 := Lib.hid (gb_trans G.out hg)
          have O2 := Lib.hid (OwnItems.grown O.out hg (by simp))
          have HR3 := Lib.hid ((HR2.out.keep hg (Nat.le_refl _)).wide (Nat.zero_le _) hg.size)
          clear hg
          cases hv : M.validStore (M.store l)
          · have HA : Hid (M.ParsePage l = none) := Lib.hid (by unfold M.ParsePage; rw [if_neg]; rintro ⟨_, _, _, h⟩; rw [hv] at h; cases h)
            clear hv
            go_wp2_with fail
            go_ret2
            exact ⟨[_, _], rfl, by rw [HA.out]; rfl, G2.out⟩
          · have HV := Lib.hid hv
            clear hv
            have HF := Lib.hid (formatPage_impl w2 As cs (M.store l) HR3.out HV.out)
            rw [HSL.out] at HF
            go_wp2_with fail
            refine HF.out.mono ?_
            rintro e w3 ⟨v3, rfl, ho3, hg⟩
            obtain ⟨A3, c3, hv3, hc3, hr3⟩ := OwnInts.rd ho3
            subst hv3
            have G3 := Lib.hid (gb_trans G2.out hg)
            have O3 := Lib.hid (OwnItems.grown O2.out hg (by simp))
            have HPL : Hid ((M.page (M.store l)).length = Z) := Lib.hid (by rw [M.page_length (M.validStore_of HV.out).2.1, HSL.out]; omega)
            have HE := Lib.hid (slicesEqual_u8 w3 A3 (some ⟨b, o, none⟩) c3 c (M.page (M.store l)) l _ _ _ _ (by rw [HPL.out]; omega) hr3 (HR.out.keep G3.out (Nat.le_refl _)))
            rw [HPL.out, ← HZ.out] at HE
            rw [HPL.out]
            clear ho3 hg hr3 hc3
            go_wp2_with fail
            refine HE.out.mono ?_
            rintro e w4 ⟨rfl, q, rfl⟩
            by_cases hp : M.page (M.store l) = l
            · have HA : Hid (M.ParsePage l = some (M.store l)) := Lib.hid (by unfold M.ParsePage; rw [if_pos ⟨HZ2.out.1, HZ2.out.2, (M.page_store_iff HB.out HZ2.out.1 HZ2.out.2).1 hp, HV.out⟩])
              rw [decide_eq_true hp]
              clear hp
              go_wp2_with fail
              go_ret2
              exact ⟨[_, _], rfl, by rw [HA.out]; exact ⟨_, rfl, O3.out.grown (gb_drewN (gb_refl _ none) q) (by simp)⟩, gb_drewN G3.out q⟩
            · have HA : Hid (M.ParsePage l = none) := Lib.hid (by unfold M.ParsePage; rw [if_neg]; rintro ⟨_, _, h, _⟩; exact hp ((M.page_store_iff HB.out HZ2.out.1 HZ2.out.2).2 h))
              rw [decide_eq_false hp]
              clear hp
              go_wp2_with fail
              go_ret2
              exact ⟨[_, _], rfl, by rw [HA.out]; rfl, gb_drewN G3.out q⟩
    · have HA : Hid (M.ParsePage l = none) := Lib.hid (by unfold M.ParsePage; rw [if_neg]; rintro ⟨_, h, _⟩; rw [hg0.out] at h; omega)
      have tz : ((l.length : Int) != (n : Int) * 6 + 2) = true := by rw [bne_iff_ne]; omega
      clear hlen HN
      generalize l.length = Z at *
      go_enter Try.func21, Try.ntmps21
      go_wp2_with fail
      go_ret2
      exact ⟨[_, _], rfl, by rw [HA.out]; rfl, gb_refl _ _⟩
  · have HA : Hid (M.ParsePage l = none) := Lib.hid (by unfold M.ParsePage; rw [if_neg]; rintro ⟨h, _⟩; omega)
    generalize l.length = Z at *
    go_enter Try.func21, Try.ntmps21
    go_wp2_with fail
    go_ret2
    exact ⟨[_, _], rfl, by rw [HA.out]; rfl, gb_refl _ _⟩
end Go.Proofs.Ytbfilliflfmaoaa
