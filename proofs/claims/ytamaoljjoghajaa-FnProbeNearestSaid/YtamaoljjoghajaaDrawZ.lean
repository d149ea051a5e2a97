/- The walks of the draws of centres. -/
import Derived.Test.YtamaoljjoghajaaDrawN
import Derived.Test.YtamaoljjoghajaaVecB
namespace Go.Proofs.Ytamaoljjoghajaa
open Go.RowKit
set_option linter.unusedVariables false
set_option linter.unusedSimpArgs false
set_option maxRecDepth 100000
theorem info_ints : (Try.prog.info? 23).map (fun i => (i.zero, i.size, i.bytes)) = some (some (.slice none 0 0), 1, 24) := by kernel_rfl
/-- a row of vectors, drawn -/
def SemiV (w : World) (lo : Nat) (v : Value) (LV : List (List Int × Value)) : Prop := w.ownsRow lo 23 1 v LV.length (LV.map (·.2)) ∧ (∀ q ∈ LV, TV w lo w.heap.size q.2 q.1) ∧ ∀ q ∈ LV, q.1.length ≤ 5
theorem SemiV.onG {w w' : World} {lo g : Nat} {v : Value} {LV : List (List Int × Value)} (h : SemiV w lo v LV) (hg : w.grownBy w' (some g)) (hlt : g < lo) : SemiV w' lo v LV :=
  ⟨h.1.kept hg (own_ge h.1 (fun b e => by injection e with e; omega)), fun q hq => ((h.2.1 q hq).agree (fun b h1 h2 => (Agree.of_grown_some hg) b (by omega) h2)).wide (Nat.le_refl _) hg.size, h.2.2⟩
theorem SemiV.sees {w : World} {lo : Nat} {v : Value} {LV : List (List Int × Value)} (h : SemiV w lo v LV) (hn : LV.length ≤ 1000) : ∃ A c, v = .slice A (LV.map (·.1)).length c ∧ (LV.map (·.1)).length ≤ c ∧ SeesV w A (LV.map (·.1)) := by
  obtain ⟨ho, ht, hl⟩ := h
  have hs : ∀ c ∈ LV.map (·.1), c.length ≤ 1048576 := fun c hc => by
    obtain ⟨q, hq, rfl⟩ := List.mem_map.1 hc
    have := hl q hq
    omega
  rcases ho.2 with ⟨e, h0⟩ | ⟨g, cap, cur, e, hg, hh, hnc, hcm, hcs, htk⟩
  · have : LV = [] := List.eq_nil_of_length_eq_zero h0
    subst this
    exact ⟨none, 0, e, Nat.le_refl _, fun hn => absurd rfl hn, by simp, by simp⟩
  · refine ⟨some ⟨g, 0, none⟩, cap, by rw [List.length_map]; exact e, by rw [List.length_map]; exact hnc, fun _ => ⟨g, 0, rfl, Nat.zero_le _, (Array.getElem?_eq_some_iff.1 hh).1, fun i c hc => ?_⟩, by rw [List.length_map]; exact hn, hs⟩
    rw [List.getElem?_map] at hc
    obtain ⟨q, hq, rfl⟩ := Option.map_eq_some_iff.1 hc
    have hil : i < LV.length := (List.getElem?_eq_some_iff.1 hq).1
    refine ⟨q.2, ?_, (ht q (List.mem_of_getElem? hq)).1.wide (Nat.zero_le _) (Nat.le_refl _)⟩
    subst e
    rw [Nat.zero_add, ho.cellAt i (by omega), List.getElem?_map, hq]
    rfl
def VecsDrawn (w : World) (g p : Nat) (n : Nat) (e : Ending) (w' : World) : Prop := ∃ (v : Value) (LV : List (List Int × Value)), e = .returned v ∧ SemiV w' w.heap.size v LV ∧ LV.length = n ∧ RdrB w' g p ∧ w.grownBy w' (some g)
set_option maxHeartbeats 1000000 in
theorem someVectors_any (w : World) (g p n : Nat) (hr : RdrB w g p) (hp : p ≤ 900000) (hn : n ≤ 5) :
    Calls Try.prog 94 #[.pointer (some ⟨g, 0, none⟩), .int .i64 n] w (VecsDrawn w g (p + 60) n) := by
  obtain ⟨i0, hi0, hz0, hz1, hz2⟩ := info_parts info_ints
  have R0 := Lib.hid hr
  have HLT := Lib.hid hr.lt
  clear hr
  go_enter Try.func94, Try.ntmps94
  go_wp2_with fail
  go_loopw [5, 6] (fun v i wr => ∃ (k : Nat) (LV : List (List Int × Value)), k ≤ n ∧ i = .int .i64 k ∧ LV.length = k ∧ RdrB wr g (p + 12 * k) ∧ SemiV wr w.heap.size v LV ∧ w.grownBy wr (some g)) (fun _ i _ => n - (intOf i).toNat)
  case atStart =>
    refine ⟨0, [], by omega, rfl, rfl, R0.out.grown (World.grownBy_alloc _ _ _), ⟨?_, by simp, by simp⟩, gb_alloc (gb_refl _ _) _⟩
    have := World.ownsRow_made (base := w.heap.size) (e := 23) (size := 1) w #[] 0 (Nat.le_refl _) (by decide) rfl
    simpa using this
  case round =>
    obtain ⟨k, LV, hk, rfl, hl, hrd, hs, hg⟩ := hrel
    have R1 := Lib.hid hrd
    have S1 := Lib.hid hs
    have G1 := Lib.hid hg
    have HL := Lib.hid hl
    clear hrd hs hg hl
    by_cases hlt : k < n
    · have kn : (k : Int) < n := by omega
      go_wp2_with fail
      refine (someVector_any _ _ (p + 12 * k) R1.out (by omega)).mono ?_
      rintro e w1 ⟨u, l, rfl, ho1, hl4, hr1, hg1⟩
      have hlt9 := HLT.out
      have hszr := G1.out.size
      have R2 := Lib.hid hr1
      have G2 := Lib.hid (gb_trans G1.out hg1)
      have S2 := Lib.hid (S1.out.onG hg1 hlt9)
      have HV := Lib.hid (ho1.tv.wide (show w.heap.size ≤ wr.heap.size from hszr) (Nat.le_refl _))
      have hlen : LV.length ≤ 5 := by have := HL.out; omega
      have hsz := G2.out.size
      obtain ⟨Au, cu, rfl, hcu, _⟩ := ho1.rd
      have HL4 := Lib.hid hl4
      clear hr1 hg1 ho1 hcu hl4
      go_wp2_with (at_builtin; refine wpList_append_own _ rfl (.tmp 13) (.tmp 16) 48 rfl w.heap.size 23 i0 (.slice none 0 0) 1 24 Try.underlying48 hi0 hz0 hz1 hz2 rfl (by decide) _ LV.length (LV.map (·.2)) rfl (S2.out.1.alloc _) ⟨w1.heap.size, 0, none⟩ 1 1 [.slice Au l.length cu] rfl rfl one_cell_new (one_cells rfl) (by unfold maxLen; omega) (by omega) (by simp; omega) ?_; intro v' w4 hown' hgrow _; have T1 := Lib.hid hown'; have T2 := Lib.hid hgrow; clear hown' hgrow)
      go_roundw
      case rel =>
        have hrow : ∀ b, u5.ownBlock = some b → w.heap.size ≤ b := fun b hb => (S2.out.1.lt b hb).1
        refine ⟨k + 1, LV ++ [(l, .slice Au l.length cu)], by omega, by go_num, by simp [HL.out], ?_, ⟨by simpa using T1.out, fun q hq => ?_, fun q hq => ?_⟩, ?_⟩
        · exact ((R2.out.grown (World.grownBy_alloc _ _ none)).row T2.out (fun b hb => by have := hrow b hb; omega)).mono (by omega)
        · have ha : ∀ q ∈ LV ++ [(l, Value.slice Au l.length cu)], TV w1 w.heap.size w1.heap.size q.2 q.1 := fun q hq => by
            rw [List.mem_append] at hq
            rcases hq with hq | hq
            · exact S2.out.2.1 q hq
            · simp at hq; subst hq; exact HV.out
          have h1 := (ha q hq).agree (fun b _ h2 => Below.heap_alloc w1 (.cells #[.slice Au l.length cu] 23) b (by omega))
          have h2 := h1.kept (S2.out.1.alloc _) (by decide) T2.out
          exact h2.wide (Nat.le_refl _) (by have := T2.out.size; simp at this; omega)
        · rw [List.mem_append] at hq
          rcases hq with hq | hq
          · exact S2.out.2.2 q hq
          · simp at hq; subst hq; show l.length ≤ 5; rw [HL4.out]; omega
        · exact gb_new (gb_alloc G2.out _) T2.out (fun b hb => .inl (hrow b hb))
      case measure => simp [intOf]; omega
    · obtain rfl : k = n := by omega
      go_wp2_with fail
      go_ret
      exact ⟨_, LV, rfl, S1.out, HL.out, R1.out.mono (by omega), G1.out⟩
/-- centres were drawn -/
def CentresDrawn (w : World) (g p : Nat) (e : Ending) (w' : World) : Prop := ∃ (v : Value) (LV : List (List Int × Value)), e = .returned v ∧ SemiV w' w.heap.size v LV ∧ LV.length ≤ 5 ∧ RdrB w' g p ∧ w.grownBy w' (some g)
set_option maxHeartbeats 1000000 in
theorem anyCentres_any (w : World) (g p : Nat) (hr : RdrB w g p) (hp : p ≤ 800000) :
    Calls Try.prog 56 #[.pointer (some ⟨g, 0, none⟩)] w (CentresDrawn w g (p + 100)) := by
  have HLT := Lib.hid hr.lt
  have HR := Lib.hid hr
  clear hr
  go_enter Try.func56, Try.ntmps56
  go_wp2_with (go_at_call 57; refine (one_b _ g p _ [2, 3, 4, 1, 0, 5, 3] (HR.out.grown (World.grownBy_alloc _ _ _)) (by omega) (by simp) (by simp) ((RdInts.lit .i64 w HLT.out _ _ rfl).wide (by omega) (by simp))).mono ?_; rintro e w1 ⟨n0, hv, rfl, hr1, hg1⟩)
  have hn0 : 0 ≤ n0 ∧ n0 ≤ 5 := by simp at hv; omega
  obtain ⟨n, rfl⟩ := Int.eq_ofNat_of_zero_le hn0.1
  have hn5 : n ≤ 5 := by omega
  have R1 := Lib.hid hr1
  have G1 := Lib.hid (gb_new (World.grownBy_alloc w _ (some g)) hg1 (fun b e => .inr rfl))
  have hs1 := G1.out.size
  clear hv hr1 hg1 hn0
  refine (someVectors_any w1 g _ n R1.out (by omega) hn5).mono ?_
  rintro e w2 ⟨v, LV, rfl, hs, hl, hr2, hg2⟩
  have HL := Lib.hid hl
  have R2 := Lib.hid hr2
  have G2 := Lib.hid (gb_trans G1.out hg2)
  have HS0 := Lib.hid hs
  have HF : Hid (∃ A c, v = .slice A n c ∧ n ≤ c) := Lib.hid (by
    obtain ⟨A, c, e, hc, _⟩ := hs.sees (by omega)
    rw [List.length_map, hl] at e hc
    exact ⟨A, c, e, hc⟩)
  obtain ⟨A, c, rfl, hc⟩ := HF.out
  have hlo := G1.out.size
  have hsz2 := G2.out.size
  have S2 : Hid (SemiV w2 w.heap.size (.slice A n c) LV) := Lib.hid ⟨⟨hs.1.1, hs.1.2.imp id (fun ⟨g, cap, cur, e, hg, r⟩ => ⟨g, cap, cur, e, Nat.le_trans hlo hg, r⟩)⟩, fun q hq => (hs.2.1 q hq).wide hlo (Nat.le_refl _), hs.2.2⟩
  have hl5 : LV.length ≤ 5 := by omega
  clear hs hl hr2 hg2 HS0 HF
  by_cases h0 : n = 0
  · subst h0
    go_wp2_with fail
    go_ret
    exact ⟨_, LV, rfl, S2.out, by omega, R2.out.mono (by omega), G2.out⟩
  · have k0 : (0 : Int) < n := by omega
    have k1 : ((n : Int) > 0) := by omega
    go_wp2_with fail
    refine (pick_b _ g (p + 1 + 60) 12 R2.out (by omega) (by omega) (by omega)).mono ?_
    rintro e w3 ⟨x, hx0, hx1, rfl, hr3, hg3⟩
    have hlt9 := HLT.out
    have R3 := Lib.hid hr3
    have G3 := Lib.hid (gb_trans G2.out hg3)
    have S3 := Lib.hid (S2.out.onG hg3 hlt9)
    clear hr3 hg3
    by_cases hx : x = 0
    · subst hx
      go_wp2_with fail
      refine (pick_b _ g (p + 1 + 60 + 1) n R3.out (by omega) (by omega) (by omega)).mono ?_
      rintro e w4 ⟨y, hy0, hy1, rfl, hr4, hg4⟩
      have R4 := Lib.hid hr4
      have G4 := Lib.hid (gb_trans G3.out hg4)
      have S4 := Lib.hid (S3.out.onG hg4 hlt9)
      have hsz4 := G4.out.size
      clear hr4 hg4
      go_wp2_with fail
      refine (anyVector_any _ g (p + 1 + 60 + 1 + 1) R4.out (by omega)).mono ?_
      rintro e w5 ⟨u, l, rfl, ht, hl5', hr5, hg5⟩
      have R5 := Lib.hid hr5
      have G5 := Lib.hid (gb_trans G4.out hg5)
      have S5 := Lib.hid (S4.out.onG hg5 hlt9)
      have HT := Lib.hid (ht.wide hsz4 (Nat.le_refl _))
      obtain ⟨Au, cu, rfl, hcu, _⟩ := ht.1
      clear hr5 hg5 ht hcu
      obtain ⟨j, rfl⟩ := Int.eq_ofNat_of_zero_le hy0
      have hjn : j < n := by omega
      have hjl : j < LV.length := by have := HL.out; omega
      have HB : Hid (∃ b, A = some ⟨b, 0, none⟩ ∧ w.heap.size ≤ b) := Lib.hid (by
        rcases S5.out.1.2 with ⟨e, h9⟩ | ⟨b, cap, cur, e, hg, _⟩
        · have := HL.out; omega
        · injection e with e1 e2 e3; exact ⟨b, e1, hg⟩)
      obtain ⟨b, rfl, hb⟩ := HB.out
      have O5 := S5.out.1
      have f1 : w5.frozen? ⟨b, j, none⟩ = false := World.ownsRow.frozenAt (by have := HL.out; rw [← this] at O5; exact O5) j
      have d1 : w5.cell? ⟨b, j, none⟩ = some LV[j].2 := by
        have h := World.ownsRow.cellAt (by have := HL.out; rw [← this] at O5; exact O5) j (by omega)
        rw [h]
        simp [hjl]
      have HS := Lib.hid (World.ownsRow.stored (by have := HL.out; rw [← this] at O5; exact O5) j (.slice Au l.length cu))
      generalize LV[j].2 = lj at *
      clear O5
      have kj : (j : Int) < n := by omega
      have kj0 : (0 : Int) ≤ j := by omega
      go_wp2_with fail
      go_ret
      have hset : ∀ q ∈ LV.set j (l, .slice Au l.length cu), q ∈ LV ∨ q = (l, .slice Au l.length cu) := fun q hq => List.mem_or_eq_of_mem_set hq
      refine ⟨_, LV.set j (l, .slice Au l.length cu), rfl, ⟨?_, fun q hq => ?_, fun q hq => ?_⟩, by rw [List.length_set]; omega, ?_, gb_setCell G5.out (.inl hb) _⟩
      · have hS := HS.out.1
        rw [List.length_set, List.map_set]
        rw [HL.out] at hS ⊢
        exact hS
      · have ha : TV w5 w.heap.size w5.heap.size q.2 q.1 := by
          rcases hset q hq with h | h
          · exact S5.out.2.1 q h
          · subst h; exact HT.out
        have h2 := ha.kept S5.out.1 (by decide) HS.out.2
        exact h2.wide (Nat.le_refl _) (by simp only [World.size_setCell]; omega)
      · rcases hset q hq with h | h
        · exact S5.out.2.2 q h
        · subst h; exact hl5'
      · exact (R5.out.set_ (by show g < b; omega) _).mono (by omega)
    · have t0 : (x == 0) = false := beq_eq_false_iff_ne.2 hx
      go_wp2_with fail
      go_ret
      exact ⟨_, LV, rfl, S3.out, by omega, R3.out.mono (by omega), G3.out⟩
end Go.Proofs.Ytamaoljjoghajaa
