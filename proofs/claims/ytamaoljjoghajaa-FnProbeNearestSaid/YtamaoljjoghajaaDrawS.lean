/- The walks of the draws of stores. -/
import Derived.Test.YtamaoljjoghajaaDrawV
namespace Go.Proofs.Ytamaoljjoghajaa
open Go.RowKit
set_option linter.unusedVariables false
set_option maxRecDepth 100000

theorem isVec_len {l : List Int} (h : M.isVec l = true) : l.length = 4 := by unfold M.isVec at h; simp at h; exact h.2
theorem validItem_len {x : M.Item} (h : M.validItem x = true) : x.pos.length = 4 := by
  unfold M.validItem at h
  simp only [Bool.and_eq_true] at h
  exact isVec_len h.1.2
theorem PutItem_some {L L' : List M.Item} {x : M.Item} (h : M.PutItem L x = some L') : L'.length ≤ 16 ∧ ∀ y ∈ L', y.pos.length = 4 := by
  unfold M.PutItem at h
  split at h
  · rename_i hc
    injection h with h
    subst h
    have := M.validStore_of hc.2.2
    exact ⟨this.1, fun y hy => validItem_len (this.2.1 y hy)⟩
  · cases h

/-- a store was drawn -/
def StoreDrawn (w : World) (g p : Nat) (e : Ending) (w' : World) : Prop :=
  ∃ (v : Value) (L : List M.Item), e = .returned v ∧ OwnItems w' w.heap.size v L ∧ L.length ≤ 16 ∧ (∀ x ∈ L, x.pos.length = 4) ∧ RdrB w' g p ∧ w.grownBy w' (some g)
set_option maxHeartbeats 2000000 in
theorem someStore_any (w : World) (g p : Nat) (hr : RdrB w g p) (hp : p ≤ 800000) :
    Calls Try.prog 86 #[.pointer (some ⟨g, 0, none⟩)] w (StoreDrawn w g (p + 300)) := by
  have R0 := Lib.hid hr
  have HLT := Lib.hid hr.lt
  clear hr
  go_enter Try.func86, Try.ntmps86
  go_wp2_with fail
  have R0a := Lib.hid (R0.out.grown (World.grownBy_alloc w (.cells #[] 54) none))
  refine (one_b _ _ p _ [4, 6, 8, 3, 1, 0, 20, 12] (R0a.out.grown (World.grownBy_alloc _ _ _)) (by omega) (by simp) (by simp) (RdInts.lit_at .i64 (by simp) (by have := HLT.out; omega) (by simp) _ _ rfl rfl)).mono ?_
  rintro e w1 ⟨n, hn, rfl, hr1, hg1⟩
  have hn0 : 0 ≤ n ∧ n ≤ 20 := by simp at hn; omega
  have R1 := Lib.hid hr1
  have hO := ((World.ownsRow_made (base := w.heap.size) (e := 54) (size := 3) w #[] 0 (Nat.le_refl _) (by decide) rfl).alloc (.cells #[.int .i64 4, .int .i64 6, .int .i64 8, .int .i64 3, .int .i64 1, .int .i64 0, .int .i64 20, .int .i64 12] 3)).kept hg1 (.inr (by simp [Value.ownBlock]; have := HLT.out; omega))
  have O1 := Lib.hid (show OwnItems w1 w.heap.size (.slice (some ⟨w.heap.size, 0, none⟩) 0 0) [] from ⟨[], rfl, by simpa [cellsI] using hO, by simp, List.Pairwise.nil⟩)
  have G1 := Lib.hid (gb_trans (gb_alloc (gb_alloc (gb_refl w (some g)) _) _) hg1)
  clear hr1 hg1 hO hn
  obtain ⟨m, rfl⟩ := Int.eq_ofNat_of_zero_le hn0.1
  have hm : m ≤ 20 := by omega
  clear hn0
  go_wp2_with fail
  go_loopw [3, 4] (fun v i wr => ∃ (k : Nat) (L : List M.Item), k ≤ 20 ∧ i = .int .i64 k ∧ OwnItems wr w.heap.size v L ∧ L.length ≤ 16 ∧ (∀ x ∈ L, x.pos.length = 4) ∧ RdrB wr g (p + 1 + 14 * (20 - k)) ∧ w.grownBy wr (some g)) (fun _ i _ => (intOf i).toNat)
  case atStart => exact ⟨m, [], hm, rfl, O1.out, by simp, by simp, R1.out.mono (by omega), G1.out⟩
  case round =>
    obtain ⟨k, L, hk, rfl, ho, hL, hLp, hr, hg⟩ := hrel
    obtain ⟨A, c, hv, hc, hrd⟩ := ho.rd
    subst hv
    have R2 := Lib.hid hr
    have O2 := Lib.hid ho
    have G2 := Lib.hid hg
    have HLP := Lib.hid hLp
    have HLT2 := Lib.hid (show g < w.heap.size from HLT.out)
    clear hr ho hg hLp hrd hc
    by_cases hlt : 0 < k
    · go_wp2_with fail
      refine (someItem_any _ _ _ R2.out (by omega)).mono ?_
      rintro e w2 ⟨x, Ax, cx, rfl, hdx, hlx, hr3, hg3⟩
      have R3 := Lib.hid hr3
      have G3 := Lib.hid (gb_trans G2.out hg3)
      have O3 := Lib.hid (OwnItems.grown O2.out hg3 (fun b e => by injection e with e; have := HLT2.out; omega))
      have DX := Lib.hid hdx
      clear hr3 hg3 hdx
      go_wp2_with fail
      refine (PutItem_spec w2 A c _ _ L _ _ _ x (by omega) (fun y hy => by have := HLP.out y hy; omega) (by omega) (OwnItems.rd O3.out).rd (Nat.le_refl _) DX.out.1 (Nat.le_refl _)).mono ?_
      rintro e w3 ⟨vs, rfl, hans, hg4⟩
      have R4 := Lib.hid (R3.out.grown hg4)
      have G4 := Lib.hid (gb_trans G3.out (gb_some hg4 _))
      have O4 := Lib.hid (OwnItems.grown O3.out hg4 (by simp))
      have hs3 := G3.out.size
      clear hg4
      cases hpx : M.PutItem L x with
      | none =>
        rw [hpx] at hans
        have hvs : vs = [.slice none 0 0, .bool false] := hans
        subst hvs
        clear hans hpx
        go_wp2_with fail
        go_roundw
        case rel => exact ⟨k - 1, L, by omega, by go_num, O4.out, hL, HLP.out, R4.out.mono (by omega), G4.out⟩
        case measure => simp [intOf]; omega
      | some L' =>
        rw [hpx] at hans
        obtain ⟨v, hvs, ho'⟩ := hans
        subst hvs
        have P := PutItem_some hpx
        have HP := Lib.hid P
        have O5 := Lib.hid ho'
        clear P ho' hpx
        go_wp2_with fail
        go_roundw
        case rel => exact ⟨k - 1, L', by omega, by go_num, OwnItems.wide O5.out hs3, HP.out.1, HP.out.2, R4.out.mono (by omega), G4.out⟩
        case measure => simp [intOf]; omega
    · obtain rfl : k = 0 := by omega
      go_wp2_with fail
      go_ret
      exact ⟨_, L, rfl, O2.out, hL, HLP.out, R2.out.mono (by omega), G2.out⟩

theorem rdItems_of_row {w : World} {lo lo' : Nat} {v : Value} {LV : List (M.Item × Value)} (h2 : w.ownsRow lo 54 3 v LV.length (cellsI LV)) (hl : lo' ≤ lo) (h3 : ∀ p ∈ LV, RdInts .i64 w lo' w.heap.size p.2 p.1.pos) : RdItems w lo' w.heap.size v (LV.map (·.1)) := by
  rcases h2.2 with ⟨rfl, hn⟩ | ⟨g, cap, cur, rfl, hg, hh, hnc, hcm, hcs, htake⟩
  · have hl : LV = [] := List.eq_nil_of_length_eq_zero hn
    subst hl
    exact ⟨none, 0, rfl, Nat.le_refl _, RdI.nil_ _ _ _ _⟩
  · refine ⟨some ⟨g, 0, none⟩, cap, by rw [List.length_map], by rw [List.length_map]; exact hnc, fun _ => ⟨g, 0, rfl, by omega, lt_of_block hh, fun i x hx => ?_⟩⟩
    rw [List.getElem?_map] at hx
    obtain ⟨p, hp, rfl⟩ := Option.map_eq_some_iff.1 hx
    have hil : i < LV.length := (List.getElem?_eq_some_iff.1 hp).1
    obtain ⟨c0, c1, c2⟩ := cellsI_at hp
    have hr := fun j (hj : j < LV.length * 3) => h2.cellAt j hj
    refine ⟨p.2, ?_, ?_, ?_, h3 p (List.mem_of_getElem? hp)⟩
    · rw [Nat.zero_add, hr _ (by omega)]; exact c0
    · rw [Nat.zero_add, hr _ (by omega)]; exact c1
    · rw [Nat.zero_add, hr _ (by omega)]; exact c2
theorem cellsI_set1 {LV : List (M.Item × Value)} : ∀ {j : Nat} {x : M.Item} {u u' : Value} {l : List Int}, LV[j]? = some (x, u) → (cellsI LV).set (j * 3 + 1) u' = cellsI (LV.set j ({ x with pos := l }, u')) := by
  induction LV with
  | nil => intro j x u u' l h; simp at h
  | cons q r ih =>
    intro j x u u' l h
    have hc : ∀ (q : M.Item × Value) r, cellsI (q :: r) = .int .i64 q.1.key :: q.2 :: .int .i64 q.1.tags :: cellsI r := fun _ _ => rfl
    cases j with
    | zero =>
      simp at h
      subst h
      rfl
    | succ j =>
      rw [hc, show (j + 1) * 3 + 1 = (j * 3 + 1) + 1 + 1 + 1 from by omega]
      simp only [List.set_cons_succ]
      rw [hc, ih (l := l) (by simpa using h)]

/-- a store was drawn that may be spoiled -/
def AnyDrawn (w : World) (g p : Nat) (e : Ending) (w' : World) : Prop :=
  ∃ (v : Value) (L : List M.Item), e = .returned v ∧ RdItems w' w.heap.size w'.heap.size v L ∧ L.length ≤ 17 ∧ (∀ x ∈ L, x.pos.length ≤ 5) ∧ RdrB w' g p ∧ w.grownBy w' (some g)
set_option maxHeartbeats 2000000 in
theorem anyStore_any (w : World) (g p : Nat) (hr : RdrB w g p) (hp : p ≤ 700000) :
    Calls Try.prog 48 #[.pointer (some ⟨g, 0, none⟩)] w (AnyDrawn w g (p + 400)) := by
  obtain ⟨i0, hi0, hz0, hz1, hz2⟩ := info_parts info_item'
  have R0 := Lib.hid hr
  have HLT := Lib.hid hr.lt
  clear hr
  go_enter Try.func48, Try.ntmps48
  go_wp2_with fail
  refine (someStore_any _ _ p R0.out (by omega)).mono ?_
  rintro e w1 ⟨v, L, rfl, ho1, hL, hLp, hr1, hg1⟩
  have R1 := Lib.hid hr1
  have G1 := Lib.hid hg1
  have O1 := Lib.hid ho1
  have HLP := Lib.hid hLp
  obtain ⟨A, c, rfl, hc, hrd⟩ := ho1.rd
  clear hr1 hg1 ho1 hLp hrd
  go_wp2_with fail
  refine (pick_b _ _ (p + 300) 20 R1.out (by omega) (by omega) (by omega)).mono ?_
  rintro e w2 ⟨x, hx0, hx1, rfl, hr2, hg2⟩
  have R2 := Lib.hid hr2
  have G2 := Lib.hid (gb_trans G1.out hg2)
  have O2 := Lib.hid (OwnItems.grown O1.out hg2 (fun b e => by injection e with e; have := HLT.out; omega))
  have hs2 := G2.out.size
  clear hr2 hg2
  by_cases hx : x = 0
  · subst hx
    go_wp2_with fail
    refine (anyItem_any _ _ _ R2.out (by omega)).mono ?_
    rintro e w3 ⟨y, Ay, cy, rfl, hd3, hl3, hr3, hg3⟩
    obtain ⟨LV, hLV, hO, hI, hP⟩ := OwnItems.grown O2.out hg3 (fun b e => by injection e with e; have := HLT.out; omega)
    have hlen : LV.length = L.length := by rw [← hLV, List.length_map]
    rw [hlen] at hO
    have R3 := Lib.hid hr3
    have G3 := Lib.hid (gb_trans G2.out hg3)
    have D3 := Lib.hid hd3.1
    have H1 := Lib.hid hLV
    have H2 := Lib.hid hO
    have H3 := Lib.hid hI
    have HLEN := Lib.hid hlen
    have hs3 := hg3.size
    have HB := Lib.hid (show ∀ b, (Value.slice A L.length c).ownBlock = some b → w.heap.size ≤ b ∧ b < w2.heap.size from fun b hb => by
      obtain ⟨LV', h1, h2, _⟩ := O2.out
      exact h2.lt b hb)
    clear hr3 hg3 hd3 hLV hO hI hP hlen
    go_wp2_with (at_builtin; refine wpList_append_own _ rfl (.tmp 10) (.tmp 13) 27 rfl w.heap.size 54 i0 _ 3 40 Try.underlying27 hi0 hz0 hz1 hz2 rfl (by decide) _ L.length (cellsI LV) rfl (H2.out.alloc _) ⟨w3.heap.size, 0, none⟩ 1 1 [.int .i64 y.key, .slice Ay y.pos.length cy, .int .i64 y.tags] rfl rfl (three_cell_at rfl) item_oneCell (by unfold maxLen; omega) (by omega) (by simp; omega) ?_; intro v' w4 hown' hgrow _; have T1 := Lib.hid hown'; have T2 := Lib.hid hgrow; clear hown' hgrow)
    go_ret
    have hlt := HLT.out
    have hh4 := T2.out.size
    simp only [World.size_alloc] at hh4
    refine ⟨v', L ++ [y], rfl, ?_, by simp; omega, ?_, ?_, gb_new (gb_alloc G3.out _) T2.out (fun b hb => .inl (HB.out b hb).1)⟩
    · have hrow : w4.ownsRow w.heap.size 54 3 v' (LV ++ [(y, Value.slice Ay y.pos.length cy)]).length (cellsI (LV ++ [(y, Value.slice Ay y.pos.length cy)])) := by
        rw [cellsI_append, cellsI_one, List.length_append, HLEN.out]; exact T1.out
      have hf := rdItems_of_row hrow (Nat.le_refl _) (fun q hq => ?_)
      · rw [List.map_append, H1.out] at hf
        exact hf
      · rw [List.mem_append] at hq
        rcases hq with hq | hq
        · have h := H3.out q hq
          have h' : OwnInts .i64 3 (w3.alloc (.cells #[.int .i64 y.key, .slice Ay y.pos.length cy, .int .i64 y.tags] 54)) w.heap.size q.2 q.1.pos := World.ownsRow.alloc h _
          exact OwnInts.rd (World.ownsRow.kept h' T2.out (own_types' h H2.out))
        · simp at hq
          subst hq
          refine RdInts.wide (RdInts.agree D3.out (((Agree.refl _ _ _).alloc _ (Nat.le_refl _)).by_ T2.out (fun b hb => .inl ?_) (by simp))) (by omega) (by omega)
          exact (HB.out b hb).2
    · intro z hz
      rw [List.mem_append] at hz
      rcases hz with hz | hz
      · have := HLP.out z hz; omega
      · simp at hz; subst hz; exact hl3
    · exact ((R3.out.grown (World.grownBy_alloc _ _ none)).row T2.out (fun b hb => by have := (HB.out b hb).1; omega)).mono (by omega)
  · have hrd2 := (OwnItems.rd O2.out)
    have HD := Lib.hid hrd2
    clear hrd2
    by_cases hx' : x = 1
    · subst hx'
      by_cases h0 : L.length = 0
      · have t0 : decide (0 < L.length) = false := decide_eq_false (by omega)
        have t0' : decide ((0 : Int) < (L.length : Int)) = false := decide_eq_false (by omega)
        have HH := Lib.hid h0
        clear h0
        go_wp2_with fail
        go_ret
        exact ⟨_, L, rfl, HD.out, by omega, fun z hz => by have := HLP.out z hz; omega, R2.out.mono (by omega), G2.out⟩
      · have t0 : decide (0 < L.length) = true := decide_eq_true (by omega)
        have t0' : decide ((0 : Int) < (L.length : Int)) = true := decide_eq_true (by omega)
        go_wp2_with fail
        refine (pick_b _ _ _ _ R2.out (by omega) (by omega) (by omega)).mono ?_
        rintro e w3 ⟨j, hj0, hj1, rfl, hr3, hg3⟩
        have R3 := Lib.hid hr3
        have G3 := Lib.hid (gb_trans G2.out hg3)
        have O3 := Lib.hid (OwnItems.grown O2.out hg3 (fun b e => by injection e with e; have := HLT.out; omega))
        clear hr3 hg3
        go_wp2_with fail
        refine (anyVector_any _ _ _ R3.out (by omega)).mono ?_
        rintro e w4 ⟨u, l, rfl, hd4, hl4, hr4, hg4⟩
        have O4 := (OwnItems.grown O3.out hg4 (fun b e => by injection e with e; have := HLT.out; omega))
        have R4 := Lib.hid hr4
        have G4 := Lib.hid (gb_trans G3.out hg4)
        have D4 := Lib.hid hd4.1
        obtain ⟨Au, cu, rfl, _, _⟩ := id hd4.1
        have hs3 := G3.out.size
        have hs4 := hg4.size
        obtain ⟨LV, hLV, hO, hI, hP⟩ := O4
        have hlen : LV.length = L.length := by rw [← hLV, List.length_map]
        rw [hlen] at hO
        obtain ⟨b, hAb, hb1, hb2, hb3⟩ := own_form' hO (by omega)
        subst hAb
        have hb4 : b < w3.heap.size := by
          obtain ⟨LV', _, h2, _⟩ := O3.out
          exact (h2.lt b rfl).2
        obtain ⟨i, rfl⟩ := Int.eq_ofNat_of_zero_le hj0
        have hil : i < LV.length := by omega
        have f1 : w4.frozen? ⟨b, i * 3 + 1, none⟩ = false := hO.frozenAt _
        obtain ⟨u0, hu0⟩ : ∃ u0, LV[i]? = some (LV[i].1, u0) := ⟨LV[i].2, by simp [hil]⟩
        have d1 : w4.cell? ⟨b, i * 3 + 1, none⟩ = some u0 := by
          rw [hO.cellAt _ (by omega)]; exact (cellsI_at hu0).2.1
        have HS := Lib.hid (hO.stored (i * 3 + 1) (.slice Au l.length cu))
        have H1 := Lib.hid hLV
        have H3 := Lib.hid hI
        have H2 := Lib.hid hO
        have HU := Lib.hid hu0
        have HLEN := Lib.hid hlen
        clear hLV hO hI hP hlen hr4 hg4 hd4
        generalize LV[i].1 = y at *
        clear hu0
        go_wp2_with fail
        go_ret
        have hlt := HLT.out
        have hS := HS.out.1
        rw [cellsI_set1 (l := l) HU.out] at hS
        have hl5 : (LV.set i (({ y with pos := l } : M.Item), Value.slice Au l.length cu)).length = L.length := by rw [List.length_set, HLEN.out]
        rw [← hl5] at hS
        refine ⟨_, (LV.set i (({ y with pos := l } : M.Item), Value.slice Au l.length cu)).map (·.1), rfl, ?_, by rw [List.length_map, hl5]; omega, ?_, ?_, gb_setCell G4.out (.inl (by show _ ≤ b; omega)) _⟩
        · have hf := rdItems_of_row hS (Nat.le_refl _) (fun q hq => ?_)
          · rw [List.length_set] at hf
            rw [← HLEN.out]
            exact hf
          · rcases List.mem_or_eq_of_mem_set hq with hq | hq
            · have h := H3.out q hq
              refine OwnInts.rd (World.ownsRow.kept h HS.out.2 ?_)
              have h9 := own_types' h H2.out
              simpa [Value.ownBlock] using h9
            · subst hq
              exact RdInts.wide (RdInts.agree D4.out ((Agree.refl _ _ _).set_ (.inl (by show b < _; omega)) _)) (by omega) (by simp only [World.size_setCell]; omega)
        · intro z hz
          obtain ⟨q, hq, rfl⟩ := List.mem_map.1 hz
          rcases List.mem_or_eq_of_mem_set hq with hq | hq
          · have := HLP.out q.1 (by rw [← H1.out]; exact List.mem_map_of_mem hq); omega
          · subst hq; exact hl4
        · exact (R4.out.set_ (by show g < b; omega) _).mono (by omega)
    · have t0 : (x == 0) = false := beq_eq_false_iff_ne.2 hx
      have t1 : (x == 1) = false := beq_eq_false_iff_ne.2 hx'
      go_wp2_with fail
      go_ret
      exact ⟨_, L, rfl, HD.out, by omega, fun z hz => by have := HLP.out z hz; omega, R2.out.mono (by omega), G2.out⟩

end Go.Proofs.Ytamaoljjoghajaa
