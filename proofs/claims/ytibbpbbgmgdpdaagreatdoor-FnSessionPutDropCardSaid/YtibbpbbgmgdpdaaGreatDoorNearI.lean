/- The walks of the program's nearest items. -/
import Derived.Test.YtibbpbbgmgdpdaaGreatDoorDistI
import Derived.Test.YtibbpbbgmgdpdaaGreatDoorSortX
import Derived.Deep.AppendLies
namespace Go.Proofs.YtibbpbbgmgdpdaaGreatDoor
open Go.RowKit
set_option linter.unusedVariables false
set_option linter.unusedSimpArgs false
set_option maxRecDepth 100000

theorem isKind_any (n : Int) (w : World) :
    Calls Tryz.prog 37 #[.int .i64 n] w fun e w' => e = .returned (.bool (M.inR n 1 4)) ∧ w = w' := by
  by_cases h1 : 1 ≤ n
  · by_cases h2 : n ≤ 4
    · rw [M.inR_of h1 h2]
      go_enter Tryz.func37, Tryz.ntmps37
      go_wp2
      go_ret
      exact ⟨rfl, rfl⟩
    · rw [M.inR_not (n := n) (lo := 1) (hi := 4) (by omega)]
      go_enter Tryz.func37, Tryz.ntmps37
      go_wp2
      go_ret
      exact ⟨rfl, rfl⟩
  · rw [M.inR_not (n := n) (lo := 1) (hi := 4) (by omega)]
    go_enter Tryz.func37, Tryz.ntmps37
    go_wp2
    go_ret
    exact ⟨rfl, rfl⟩
theorem SeesN.rd {k : IntKind} {w : World} {A : Option Addr} {l : List Int} (h : SeesN k w A l) : Rd w 0 w.heap.size A (l.map (.int k)) := h.1
theorem canFind_any {w : World} {A B : Option Addr} {c d : Nat} {L : List M.Item} {m : List Int} {kind k : Int} (D : SeesI w A L) (E : SeesN .i64 w B m) :
    Calls Tryz.prog 33 #[.slice A L.length c, .int .i64 kind, .slice B m.length d, .int .i64 k] w fun e w' => e = .returned (.bool (M.canFind L kind m k)) ∧ w.grownBy w' none := by
  have HV := Lib.hid (vs_impl (c := c) D)
  have HK := Lib.hid (fun W => isKind_any kind W)
  have E := Lib.hid E
  have HX : Hid (M.canFind L kind m k = (M.validStore L && (M.inR kind 1 4 && (M.isVec m && M.inR k 1 16)))) := Lib.hid rfl
  rw [HX.out]
  clear D
  cases hv : M.validStore L
  · rw [hv] at HV
    clear hv
    generalize L.length = nL at *
    generalize hn : m.length = nm at *
    go_enter Tryz.func33, Tryz.ntmps33
    go_wp2_with fail
    refine HV.out.mono ?_
    rintro e w1 ⟨rfl, hg⟩
    have G := Lib.hid hg
    clear hg
    go_wp2_with fail
    go_ret
    exact ⟨rfl, G.out⟩
  · rw [hv] at HV
    clear hv
    cases hk : M.inR kind 1 4
    · rw [hk] at HK
      clear hk
      generalize L.length = nL at *
      go_enter Tryz.func33, Tryz.ntmps33
      go_wp2_with fail
      refine HV.out.mono ?_
      rintro e w1 ⟨rfl, hg⟩
      have G := Lib.hid hg
      clear hg
      go_wp2_with (go_at_call 37; refine (HK.out _).mono ?_; rintro e w' ⟨rfl, rfl⟩)
      go_ret
      exact ⟨rfl, G.out⟩
    · rw [hk] at HK
      clear hk
      cases hm : M.isVec m
      · go_enter Tryz.func33, Tryz.ntmps33
        go_wp2_with fail
        refine HV.out.mono ?_
        rintro e w1 ⟨rfl, hg⟩
        have G := Lib.hid hg
        have HI := Lib.hid (isVector_impl w1 B d 0 w1.heap.size m (by have := E.out.2; omega) (E.out.on hg).1)
        clear hg
        try rw [hm] at HI
        go_wp2_with (first | (go_at_call 37; refine (HK.out _).mono ?_; rintro e w' ⟨rfl, rfl⟩) | (go_at_call 50; refine HI.out.mono ?_; rintro e w' ⟨rfl, rfl⟩))
        go_ret
        first | exact ⟨rfl, G.out⟩ | exact ⟨ret_bool (by simp [*]), G.out⟩
      · by_cases h1 : 1 ≤ k
        · have h1' : k ≥ 1 := h1
          by_cases h2 : k ≤ 16
          · rw [M.inR_of h1 h2]
            go_enter Tryz.func33, Tryz.ntmps33
            go_wp2_with fail
            refine HV.out.mono ?_
            rintro e w1 ⟨rfl, hg⟩
            have G := Lib.hid hg
            have HI := Lib.hid (isVector_impl w1 B d 0 w1.heap.size m (by have := E.out.2; omega) (E.out.on hg).1)
            clear hg
            try rw [hm] at HI
            go_wp2_with (first | (go_at_call 37; refine (HK.out _).mono ?_; rintro e w' ⟨rfl, rfl⟩) | (go_at_call 50; refine HI.out.mono ?_; rintro e w' ⟨rfl, rfl⟩))
            go_ret
            first | exact ⟨rfl, G.out⟩ | exact ⟨ret_bool (by simp [*]), G.out⟩
          · rw [M.inR_not (n := k) (lo := 1) (hi := 16) (by omega)]
            go_enter Tryz.func33, Tryz.ntmps33
            go_wp2_with fail
            refine HV.out.mono ?_
            rintro e w1 ⟨rfl, hg⟩
            have G := Lib.hid hg
            have HI := Lib.hid (isVector_impl w1 B d 0 w1.heap.size m (by have := E.out.2; omega) (E.out.on hg).1)
            clear hg
            try rw [hm] at HI
            go_wp2_with (first | (go_at_call 37; refine (HK.out _).mono ?_; rintro e w' ⟨rfl, rfl⟩) | (go_at_call 50; refine HI.out.mono ?_; rintro e w' ⟨rfl, rfl⟩))
            go_ret
            first | exact ⟨rfl, G.out⟩ | exact ⟨ret_bool (by simp [*]), G.out⟩
        · have h1' : ¬ k ≥ 1 := h1
          rw [M.inR_not (n := k) (lo := 1) (hi := 16) (by omega)]
          go_enter Tryz.func33, Tryz.ntmps33
          go_wp2_with fail
          refine HV.out.mono ?_
          rintro e w1 ⟨rfl, hg⟩
          have G := Lib.hid hg
          have HI := Lib.hid (isVector_impl w1 B d 0 w1.heap.size m (by have := E.out.2; omega) (E.out.on hg).1)
          clear hg
          try rw [hm] at HI
          go_wp2_with (first | (go_at_call 37; refine (HK.out _).mono ?_; rintro e w' ⟨rfl, rfl⟩) | (go_at_call 50; refine HI.out.mono ?_; rintro e w' ⟨rfl, rfl⟩))
          go_ret
          first | exact ⟨rfl, G.out⟩ | exact ⟨ret_bool (by simp [*]), G.out⟩

theorem nears_length (L : List M.Item) (kind : Int) (m : List Int) : (M.nears L kind m).length = L.length := by unfold M.nears; rw [List.length_map]
theorem nears_succ {L : List M.Item} {k : Nat} (hk : k < L.length) (kind : Int) (m : List Int) : (M.nears L kind m).take (k + 1) = (M.nears L kind m).take k ++ [⟨L[k].key, M.dist kind L[k].pos m⟩] := by
  have h : k < (M.nears L kind m).length := by rw [nears_length]; exact hk
  rw [List.take_succ_eq_append_getElem h]
  congr 2
  simp [M.nears, M.hitOf]
theorem cellsX_oneCell (l : List M.Hit) : ∀ u ∈ cellsX l, u.oneCell' = true := by
  intro u hu
  obtain ⟨h, _, hh⟩ := List.mem_flatMap.1 hu
  exact hit_oneCell u hh
set_option maxHeartbeats 1000000 in
theorem firstHits_any {w : World} {lo c : Nat} {A : Option Addr} {l : List M.Hit} {k : Int} (ho : OwnX w lo (.slice A l.length c) l) (hl : l.length ≤ 1048576) (hk : 1 ≤ k) (hk2 : k ≤ 1000) :
    Calls Tryz.prog 56 #[.slice A l.length c, .int .i64 k] w fun e w' => ∃ v, e = .returned v ∧ OwnX w' w.heap.size v ((M.sortH l).take k.toNat) ∧ w.grownBy w' (Value.ownBlock (.slice A l.length c)) := by
  obtain ⟨i0, hi0, hz0, hz1, hz2⟩ := info_parts info_hit
  have HC := Lib.hid (sortFunc_hits ho hl)
  have hsl := M.sortH_len l
  have hc : l.length ≤ c := by obtain ⟨A', c', e, h⟩ := ho.form; injection e with _ _ e3; omega
  have HF : Hid (A = none ∧ l.length = 0 ∧ c = 0 ∨ ∃ g, A = some ⟨g, 0, none⟩) := Lib.hid (by
    rcases ho.2 with ⟨e, hn⟩ | ⟨g, cap, cur, e, _⟩
    · injection e with e1 e2 e3; exact .inl ⟨e1, e2, e3⟩
    · injection e with e1 e2 e3; exact .inr ⟨g, e1⟩)
  generalize M.sortH l = s at *
  obtain ⟨n, hn⟩ : ∃ n, n = l.length := ⟨_, rfl⟩
  rw [← hn] at HC hsl hl hc HF ⊢
  have HN := Lib.hid hsl
  obtain ⟨j, hj⟩ : ∃ j : Nat, j = min k.toNat n := ⟨_, rfl⟩
  have hmin : min k (n : Int) = (j : Int) := by omega
  have HTK : Hid (s.take k.toNat = s.take j) := Lib.hid (by
    rw [hj]
    by_cases h : k.toNat ≤ n
    · rw [Nat.min_eq_left h]
    · rw [Nat.min_eq_right (by omega), List.take_of_length_le (by omega), List.take_of_length_le (by omega)])
  have hjn : j ≤ n := by omega
  have hjn' : (j : Int) ≤ n := by omega
  have hjc' : (j : Int) ≤ c := by omega
  have hj0 : (0 : Int) ≤ j := by omega
  have HLJ : Hid ((s.take j).length = j) := Lib.hid (by rw [List.length_take]; omega)
  clear hsl hn ho hj
  go_enter Tryz.func56, Tryz.ntmps56
  go_wp2_with fail
  refine HC.out.mono ?_
  rintro e w1 ⟨rfl, ho, hg⟩
  have HO := Lib.hid ho
  have HG := Lib.hid hg
  clear ho hg HC
  have HRD : Hid (Rd w1 lo w1.heap.size A (cellsX (s.take j))) := Lib.hid (by
    have h := HO.out
    have h2 : Rd w1 lo w1.heap.size A (cellsX s) := by
      unfold OwnX at h
      rw [HN.out] at h
      exact rd_of_owns h
    rw [← cellsX_take]
    exact h2.take _)
  rcases HF.out with ⟨rfl, rfl, rfl⟩ | ⟨g, rfl⟩
  · obtain rfl : j = 0 := by omega
    have hmin0 : min k (0 : Int) = 0 := by omega
    go_wp2_with fail
    go_ret
    refine ⟨_, rfl, ?_, gb_alloc HG.out _⟩
    rw [HTK.out, List.take_zero]
    exact World.ownsRow_made (e := 65) (size := 2) w1 #[] 0 HG.out.size (by decide) rfl
  · go_wp2_with (at_builtin; refine wpList_append_rd _ rfl (.tmp 7) (.tmp 13) 62 rfl w1.heap.size 65 i0 (.agg #[.int .i64 0, .int .i64 0]) 2 16 Tryz.underlying62 hi0 hz0 hz1 hz2 rfl (by decide) (.slice (some ⟨w1.heap.size, 0, none⟩) 0 0) 0 [] rfl (World.ownsRow_made w1 #[] 0 (Nat.le_refl _) (by decide) rfl) (some ⟨g, 0, none⟩) j c lo w1.heap.size (cellsX (s.take j)) rfl (by rw [cellsX_length, HLJ.out]) (HRD.out.agree (fun b _ h => Below.heap_alloc w1 _ b (by omega))) (cellsX_oneCell _) (by unfold maxLen; omega) (by omega) (by simp) ?_; intro v' w4 hown' hgrow; have T1 := Lib.hid hown'; have T2 := Lib.hid hgrow; clear hown' hgrow)
    go_ret
    have hT := T1.out
    rw [Nat.zero_add, List.nil_append] at hT
    refine ⟨v', rfl, ?_, ?_⟩
    · refine OwnX.wide (lo := w1.heap.size) ?_ HG.out.size
      rw [HTK.out]
      unfold OwnX
      rw [HLJ.out]
      exact hT
    · exact gb_new (gb_alloc HG.out _) T2.out (fun g hg => .inl (by simp [Value.ownBlock] at hg; have := HG.out.size; omega))

set_option maxHeartbeats 2000000 in
theorem nearest_impl {w : World} {A B : Option Addr} {c d lo hi : Nat} {L : List M.Item} {m : List Int} {kind k : Int} (hL : L.length ≤ 16) (hv : ∀ x ∈ L, M.isVec x.pos = true) (hr : RdI w lo hi A L) (hhi : hi ≤ w.heap.size) (E : SeesN .i64 w B m) (hm : M.isVec m = true) (hk : 1 ≤ k) (hk2 : k ≤ 16) :
    Calls Tryz.prog 34 #[.slice A L.length c, .int .i64 kind, .slice B m.length d, .int .i64 k] w (HitsMade w (M.nearest L kind m k.toNat)) := by
  obtain ⟨i0, hi0, hz0, hz1, hz2⟩ := info_parts info_hit
  obtain ⟨n, hn⟩ : ∃ n, n = L.length := ⟨_, rfl⟩
  rw [← hn] at hL ⊢
  have HL := Lib.hid hn
  have HR := Lib.hid hr
  have HV := Lib.hid hv
  have E := Lib.hid E
  have HM := Lib.hid hm
  have HQ : Hid (M.nearest L kind m k.toNat = (M.sortH (M.nears L kind m)).take k.toNat) := Lib.hid rfl
  clear hn hr hv hm
  go_enter Tryz.func34, Tryz.ntmps34
  go_wp2_with fail
  go_loopw [9, 15] (fun v i wr => ∃ k : Nat, k ≤ n ∧ i = .int .i64 k ∧ OwnX wr w.heap.size v ((M.nears L kind m).take k) ∧ w.grownBy wr none) (fun _ i _ => n - (intOf i).toNat)
  case atStart => exact ⟨0, Nat.zero_le _, rfl, World.ownsRow_made w #[] 0 (Nat.le_refl _) (by decide) rfl, gb_alloc (gb_refl _ _) _⟩
  case round =>
    obtain ⟨j, hj, rfl, hown, hg⟩ := hrel
    have HO := Lib.hid hown
    have HG := Lib.hid hg
    obtain ⟨Av, cv, rfl, hcv⟩ := hown.form
    have hlj : ((M.nears L kind m).take j).length = j := by rw [List.length_take, nears_length, ← HL.out]; omega
    have HLJ := Lib.hid hlj
    rw [hlj] at hcv ⊢
    have hsz := hg.size
    clear hown hg
    by_cases hlt : j < n
    · have hkl : j < L.length := by rw [← HL.out]; exact hlt
      obtain ⟨b, o, rfl, hb1, hb2, hJ⟩ := HR.out.at_ (List.getElem?_eq_getElem hkl)
      obtain ⟨u, c0, c1, c2, hu⟩ := hJ.agree hb1 hb2 (fun b _ h => (Agree.of_grown HG.out) b (Nat.zero_le _) (by omega))
      obtain ⟨Au, cu, rfl, hcu, hru⟩ := hu
      have HK := Lib.hid (nears_succ hkl kind m)
      have HU : Hid (∀ W, wr.grownBy W none → Calls Tryz.prog 55 #[.int .i64 kind, .slice Au L[j].pos.length cu, .slice B m.length d] W fun e w' => e = .returned (.int .i64 (M.dist kind L[j].pos m)) ∧ W.grownBy w' none) := Lib.hid fun W hW => distance_any (HV.out _ (List.getElem_mem hkl)) HM.out (hru.keep hW (by omega)) (E.out.on (gb_trans HG.out hW)).1
      clear hJ hcu hru
      generalize M.dist kind L[j].pos m = q at *
      generalize L[j] = y at *
      have kn : (j : Int) < n := by omega
      have k0 : (0 : Int) ≤ j := by omega
      go_wp2_with fail
      refine wp_name (fun V => Row V wr.heap.size 59 [.int .i64 y.key, .slice Au y.pos.length cu, .int .i64 y.tags] ∧ wr.grownBy V none) ⟨Row.new wr _ rfl, World.grownBy_alloc wr _ none⟩ ?_
      rintro W ⟨hB, hg⟩
      have x0 := hB.cell 0
      have x1 := hB.cell 1
      simp only [List.getElem?_cons_zero, List.getElem?_cons_succ] at x0 x1
      have H2 : Hid (W.ownsRow w.heap.size 65 2 (.slice Av j cv) j (cellsX ((M.nears L kind m).take j))) := Lib.hid (by
        have h := HO.out.on hg
        unfold OwnX at h
        rw [HLJ.out] at h
        exact h)
      have GX := Lib.hid (gb_trans HG.out hg)
      have HU2 := Lib.hid (fun V (hV : W.grownBy V none) => HU.out V (gb_trans hg hV))
      have HCE : Hid (∀ V, W.grownBy V none → V.cell? ⟨wr.heap.size, 0, none⟩ = some (.int .i64 y.key) ∧ V.cell? ⟨wr.heap.size, 1, none⟩ = some (.slice Au y.pos.length cu)) := Lib.hid fun V hV => ⟨hV.cell x0 (by simp), hV.cell x1 (by simp)⟩
      have HBL : Hid (∀ V r, W.grownBy V r → (∀ g, r = some g → g < wr.heap.size) → V.cell? ⟨wr.heap.size, 0, none⟩ = some (.int .i64 y.key) ∧ V.cell? ⟨wr.heap.size, 1, none⟩ = some (.slice Au y.pos.length cu)) := Lib.hid fun V r hV hr => ⟨hV.cell x0 (by intro e; have := hr _ e.symm; simp at this), hV.cell x1 (by intro e; have := hr _ e.symm; simp at this)⟩
      have HLT : Hid (∀ g, Value.ownBlock (.slice Av j cv) = some g → g < wr.heap.size) := Lib.hid fun g e => by
        have h := HO.out
        unfold OwnX at h
        rw [HLJ.out] at h
        exact (h.lt g e).2
      have hws : w.heap.size ≤ W.heap.size := GX.out.size
      clear hB hg HU c0 c1 c2
      go_region_held3 (fun V => V.cell? ⟨wr.heap.size, 0, none⟩ = some (.int .i64 y.key) ∧ V.cell? ⟨wr.heap.size, 1, none⟩ = some (.slice Au y.pos.length cu))
        (first | exact S6.out | exact HCE.out _ S5.out | exact HCE.out _ (gb_alloc S5.out _) | exact HCE.out _ (gb_drew (gb_refl _ _)))
        (first
          | (go_at_call 55; refine (HU2.out W.drew (gb_drew (gb_refl _ _))).mono ?_; rintro e w5 ⟨rfl, hg⟩; have S5 : Hid (W.grownBy w5 none) := Lib.hid (gb_trans (gb_drew (gb_refl _ none)) hg); have H5 := Lib.hid (H2.out.kept S5.out (own_ge H2.out (by simp))); have hs5 := S5.out.size; clear hg)
          | (refine step_append_lies _ (by rfl) (.tmp 19) (.tmp 28) 62 (by rfl) w.heap.size 65 i0 _ 2 16 Tryz.underlying62 hi0 hz0 hz1 hz2 rfl (by omega) (.slice Av j cv) j (cellsX ((M.nears L kind m).take j)) (by rfl) (H5.out.alloc (.cells #[.int .i64 y.key, .int .i64 q] 65)) ⟨w5.heap.size, 0, none⟩ 1 1 [.int .i64 y.key, .int .i64 q] (by rfl) (by rfl) (two_cell_at rfl) hit_oneCell (by omega) (by unfold maxLen; omega) (by omega) (Nat.le_trans hws (Nat.le_trans hs5 (by simp))) _ rfl ?_; intro gg cap w6 hown' hgrow hat hlt4; have T1 := Lib.hid hown'; have T2 := Lib.hid hgrow; have S6 := Lib.hid (HBL.out _ _ (gb_trans (gb_alloc (gb_some S5.out _) (.cells #[.int .i64 y.key, .int .i64 q] 65)) hgrow) HLT.out); clear hown' hgrow hat))
      go_wp2_with fail
      go_roundw
      case rel =>
        refine ⟨j + 1, by omega, by go_num, ?_, gb_new (gb_alloc (gb_trans GX.out S5.out) (.cells #[.int .i64 y.key, .int .i64 q] 65)) T2.out (fun g hg => .inl (by
          have h := H2.out.lt g hg
          exact h.1))⟩
        rw [HK.out]
        unfold OwnX
        rw [cellsX_append, cellsX_one, List.length_append, HLJ.out]
        exact T1.out
      case measure => simp [intOf]; omega
    · obtain rfl : j = n := by omega
      have HA : Hid ((M.nears L kind m).take j = M.nears L kind m) := Lib.hid (List.take_of_length_le (by rw [nears_length, ← HL.out]; exact Nat.le_refl _))
      have HO2 : Hid (OwnX wr w.heap.size (.slice Av (M.nears L kind m).length cv) (M.nears L kind m)) := Lib.hid (by
        have h := HO.out
        rw [HA.out] at h
        exact h)
      have HF := Lib.hid (firstHits_any (k := k) HO2.out (by rw [nears_length, ← HL.out]; omega) hk (by omega))
      have hnl : (M.nears L kind m).length = j := by rw [nears_length, ← HL.out]
      rw [hnl, ← HQ.out] at HF
      have HB : Hid (∀ g, Value.ownBlock (.slice Av j cv) = some g → w.heap.size ≤ g) := Lib.hid fun g e => by
        have h := HO2.out
        unfold OwnX at h
        rw [hnl] at h
        exact (h.lt g e).1
      clear HO2 HA HO
      generalize M.nearest L kind m k.toNat = r at *
      go_wp2_with fail
      refine HF.out.mono ?_
      rintro e w2 ⟨v, rfl, ho, hg⟩
      have HO3 := Lib.hid ho
      have HG3 := Lib.hid hg
      clear ho hg HF
      go_wp2_with fail
      go_ret
      exact hitsMade_of HO3.out hsz (gb_new HG.out HG3.out (fun g hg => .inl (HB.out g hg)))
end Go.Proofs.YtibbpbbgmgdpdaaGreatDoor
