/- The walk of the order of the centres. -/
import Derived.Test.YtamaoljjoghajaaVecS
import Derived.Test.YtamaoljjoghajaaNearI
namespace Go.Proofs.Ytamaoljjoghajaa
open Go.RowKit Go.Sort
set_option linter.unusedVariables false
set_option linter.unusedSimpArgs false
set_option maxRecDepth 100000
theorem intsTo_succ (j : Nat) : intsTo j ++ [Value.int .i64 (j : Int)] = intsTo (j + 1) := by simp [intsTo, List.range_succ]
theorem intsTo_len (j : Nat) : (intsTo j).length = j := by simp [intsTo]
theorem ints_oneCell (l : List Int) : ∀ u ∈ l.map (Value.int .i64), u.oneCell' = true := by
  intro u hu
  obtain ⟨x, _, rfl⟩ := List.mem_map.1 hu
  rfl
theorem OwnI.wide {w : World} {lo lo' n : Nat} {t : TypeId} {v : Value} {l : List Value} (h : w.ownsRow lo t 1 v n l) (hl : lo' ≤ lo) : w.ownsRow lo' t 1 v n l :=
  ⟨h.1, h.2.imp id (fun ⟨g, cap, cur, e, hg, r⟩ => ⟨g, cap, cur, e, Nat.le_trans hl hg, r⟩)⟩
set_option maxHeartbeats 2000000 in
theorem probeOrder_any {w : World} {A B : Option Addr} {c d hi : Nat} {C : List (List Int)} {m : List Int} {k : Int} (hhi : hi ≤ w.heap.size) (D : RdV w 0 hi A C) (E : Rd w 0 hi B (m.map (.int .i64)))
    (hC : M.areVecs C = true) (hm : M.isVec m = true) (hk : 1 ≤ k) (hk2 : k ≤ 1000) :
    Calls Try.prog 65 #[.slice A C.length c, .slice B m.length d, .int .i64 k] w fun e w' => ∃ v, e = .returned v ∧ w'.ownsRow w.heap.size 3 1 v (M.probesL C m k.toNat).length ((M.probesL C m k.toNat).map (.int .i64)) ∧ w.grownBy w' none := by
  obtain ⟨i0, hi0, hz0, hz1, hz2⟩ := info_parts info_int
  obtain ⟨hv, hl1, hl4⟩ := M.areVecs_of hC
  obtain ⟨b, o, rfl, _⟩ := D (by intro hn; rw [hn] at hl1; simp at hl1)
  obtain ⟨N, hN⟩ : ∃ N, C.length = N + 1 := ⟨C.length - 1, by omega⟩
  have HSC : Hid (∀ (W : World) (g lo cap : Nat), W.ownsRow lo 3 1 (.slice (some ⟨g, 0, none⟩) (N + 1) cap) (N + 1) (intsTo (N + 1)) → w.heap.size + 1 < g → w.grownBy W none → W.cell? ⟨w.heap.size, 0, none⟩ = some (.slice (some ⟨b, o, none⟩) (N + 1) c) → W.cell? ⟨w.heap.size + 1, 0, none⟩ = some (.slice B m.length d) →
      Calls Try.prog 98 #[.slice (some ⟨g, 0, none⟩) (N + 1) cap, .func (.func 99) #[] #[.pointer (some ⟨w.heap.size, 0, none⟩), .pointer (some ⟨w.heap.size + 1, 0, none⟩)]] W fun e w' => e = .returned (.tuple #[]) ∧
      (w'.ownsRow lo 3 1 (.slice (some ⟨g, 0, none⟩) (N + 1) cap) (N + 1) (((M.sortH (M.probeHits C m)).map M.Hit.key).map (.int .i64)) ∧ W.grownBy w' (some g))) := Lib.hid fun W g lo cap h1 h2 h3 h4 h5 => by
    have ha : Agree 0 hi w W := fun b _ h2 => (Agree.of_grown h3) b (Nat.zero_le _) (by omega)
    exact sortStable_any (n := N + 1) (by omega) ⟨_, _, rfl⟩ (insInt_any (hi := hi) hN (by omega) h1 (by omega) (by omega) h2 (D.agree ha) (E.agree ha) hv hm (by rw [hN]; exact h4) h5)
  have HSL : Hid (((M.sortH (M.probeHits C m)).map M.Hit.key).length = N + 1) := Lib.hid (by rw [List.length_map, M.sortH_len, M.probeHits_len, hN])
  obtain ⟨n, hn⟩ : ∃ n, n = N + 1 := ⟨_, rfl⟩
  obtain ⟨j0, hj0⟩ : ∃ j : Nat, j = min k.toNat n := ⟨_, rfl⟩
  have HTK : Hid (M.probesL C m k.toNat = ((M.sortH (M.probeHits C m)).map M.Hit.key).take j0) := Lib.hid (by
    have hl : ((M.sortH (M.probeHits C m)).map M.Hit.key).length = n := by rw [HSL.out, hn]
    unfold M.probesL
    rw [List.map_take, hj0]
    by_cases h : k.toNat ≤ n
    · rw [Nat.min_eq_left h]
    · rw [Nat.min_eq_right (by omega), List.take_of_length_le (by omega), List.take_of_length_le (by omega)])
  have hmin : min k (n : Int) = (j0 : Int) := by omega
  have hjn : j0 ≤ n := by omega
  have hjn' : (j0 : Int) ≤ n := by omega
  have hj0' : (0 : Int) ≤ j0 := by omega
  have hn4 : n ≤ 4 := by omega
  have hn1 : 1 ≤ n := by omega
  rw [hN]
  rw [← hn] at HSC HSL ⊢
  generalize (M.sortH (M.probeHits C m)).map M.Hit.key = s at *
  generalize M.probesL C m k.toNat = r at *
  generalize m.length = ml at *
  clear D E hC hm hv hl1 hl4 hN hhi hj0 hn hk hk2
  go_enter Try.func65, Try.ntmps65
  go_wp2_with fail
  go_loopw [7, 12] (fun v i wr => ∃ j : Nat, j ≤ n ∧ i = .int .i64 j ∧ wr.ownsRow (w.heap.size + 2) 3 1 v j (intsTo j) ∧ w.grownBy wr none ∧ w.heap.size + 2 ≤ wr.heap.size ∧ wr.cell? ⟨w.heap.size, 0, none⟩ = some (.slice (some ⟨b, o, none⟩) n c) ∧ wr.cell? ⟨w.heap.size + 1, 0, none⟩ = some (.slice B ml d)) (fun _ i _ => n - (intOf i).toNat)
  case atStart =>
    refine ⟨0, Nat.zero_le _, rfl, ?_, gb_alloc (gb_alloc (gb_alloc (gb_refl _ _) _) _) _, ?_, ?_, ?_⟩
    · have h := World.ownsRow_made ((w.alloc (.cells #[.slice (some ⟨b, o, none⟩) n c] 48)).alloc (.cells #[.slice B ml d] 23)) (base := w.heap.size + 2) (e := 3) (size := 1) #[] 0 (by simp) (by decide) rfl
      have e : ((w.alloc (.cells #[.slice (some ⟨b, o, none⟩) n c] 48)).alloc (.cells #[.slice B ml d] 23)).heap.size = w.heap.size + 1 + 1 := by simp
      rw [e] at h
      exact h
    · simp
    · exact (gb_alloc (gb_alloc (gb_refl (w.alloc (.cells #[.slice (some ⟨b, o, none⟩) n c] 48)) none) _) _).cell (one_cell_at rfl 0 _ rfl) (by simp)
    · have e : (w.alloc (.cells #[.slice (some ⟨b, o, none⟩) n c] 48)).heap.size = w.heap.size + 1 := by simp
      exact (gb_alloc (gb_refl ((w.alloc (.cells #[.slice (some ⟨b, o, none⟩) n c] 48)).alloc (.cells #[.slice B ml d] 23)) none) _).cell (one_cell_at e.symm 0 _ rfl) (by simp)
  case round =>
    obtain ⟨j, hj, rfl, hown, hg, hsz, c2, c3⟩ := hrel
    have HO := Lib.hid hown
    have HG := Lib.hid hg
    have C2 := Lib.hid c2
    have C3 := Lib.hid c3
    clear hown hg c3
    by_cases hlt : j < n
    · have kn : (j : Int) < n := by omega
      go_wp2_with (at_builtin; refine wpList_append_own _ rfl (.tmp 15) (.tmp 17) 23 rfl (w.heap.size + 2) 3 i0 (.int .i64 0) 1 8 Try.underlying23 hi0 hz0 hz1 hz2 rfl (by decide) u7 j (intsTo j) rfl (HO.out.alloc _) ⟨wr.heap.size, 0, none⟩ 1 1 [.int .i64 j] rfl rfl (one_cell_at (by simp)) (one_cells rfl) (by unfold maxLen; omega) (by omega) (by simp; omega) ?_; intro v' w4 hown' hgrow _; have T1 := Lib.hid hown'; have T2 := Lib.hid hgrow; clear hown' hgrow)
      go_roundw
      case rel =>
        have hnb : ∀ g, u7.ownBlock = some g → w.heap.size + 2 ≤ g := fun g hg => (HO.out.lt g hg).1
        refine ⟨j + 1, by omega, by go_num, ?_, gb_new (gb_alloc HG.out _) T2.out (fun g hg => .inl (by have := hnb g hg; omega)), (by have := T2.out.size; simp at this; omega), ?_, ?_⟩
        · have := T1.out
          rw [intsTo_succ] at this
          exact this
        · exact T2.out.cell ((gb_alloc (gb_refl wr none) _).cell C2.out (by simp)) (by intro e; have := hnb _ e.symm; dsimp only at this; omega)
        · exact T2.out.cell ((gb_alloc (gb_refl wr none) _).cell C3.out (by simp)) (by intro e; have := hnb _ e.symm; dsimp only at this; omega)
      case measure => simp [intOf]; omega
    · obtain rfl : j = n := by omega
      have HF : Hid (∃ g cap, u7 = .slice (some ⟨g, 0, none⟩) j cap ∧ w.heap.size + 2 ≤ g ∧ j ≤ cap) := Lib.hid (by
        rcases HO.out.2 with ⟨e, hn⟩ | ⟨g, cap, cur, e, hg, hh, hnc, _⟩
        · omega
        · exact ⟨g, cap, e, hg, hnc⟩)
      obtain ⟨g, cap, rfl, hgb, hjc⟩ := HF.out
      have HS := Lib.hid (HSC.out wr g _ cap HO.out (by omega) HG.out C2.out C3.out)
      have hjc' : (j0 : Int) ≤ cap := by omega
      go_wp2_with fail
      refine HS.out.mono ?_
      rintro e w1 ⟨rfl, ho, hgw⟩
      have HO1 := Lib.hid ho
      have HG4 := Lib.hid (gb_new HG.out hgw (fun g' hg' => .inl (by injection hg' with e; omega)))
      have HRD : Hid (Rd w1 (w.heap.size + 2) w1.heap.size (some ⟨g, 0, none⟩) ((s.map (.int .i64)).take j0)) := Lib.hid (by
        have h2 : Rd w1 (w.heap.size + 2) w1.heap.size (some ⟨g, 0, none⟩) (s.map (.int .i64)) := rd_of_owns ho
        exact h2.take _)
      have HLJ : Hid (((s.map (Value.int .i64)).take j0).length = j0) := Lib.hid (by rw [List.length_take, List.length_map, HSL.out]; omega)
      clear ho hgw HS HSC c2
      go_wp2_with (at_builtin; refine wpList_append_rd _ rfl (.tmp 23) (.tmp 29) 23 rfl w1.heap.size 3 i0 (.int .i64 0) 1 8 Try.underlying23 hi0 hz0 hz1 hz2 rfl (by decide) (.slice (some ⟨w1.heap.size, 0, none⟩) 0 0) 0 [] rfl (World.ownsRow_made w1 #[] 0 (Nat.le_refl _) (by decide) rfl) (some ⟨g, 0, none⟩) j0 cap (w.heap.size + 2) w1.heap.size ((s.map (.int .i64)).take j0) rfl (by rw [HLJ.out, Nat.mul_one]) (HRD.out.agree (fun b _ h => Below.heap_alloc w1 _ b (by omega))) (fun u hu => ints_oneCell s u (List.mem_of_mem_take hu)) (by unfold maxLen; omega) (by omega) (by simp) ?_; intro v' w4 hown' hgrow; have T1 := Lib.hid hown'; have T2 := Lib.hid hgrow; clear hown' hgrow)
      go_ret
      have hT := T1.out
      rw [Nat.zero_add, List.nil_append] at hT
      refine ⟨v', rfl, ?_, ?_⟩
      · rw [HTK.out]
        have := OwnI.wide hT HG4.out.size
        rw [List.length_take, HSL.out, Nat.min_eq_left hjn]
        rw [List.map_take]
        exact this
      · exact gb_new (gb_alloc HG4.out _) T2.out (fun g hg => .inl (by simp [Value.ownBlock] at hg; have := HG4.out.size; omega))
end Go.Proofs.Ytamaoljjoghajaa
