/- The walks of the exact laws' helpers on entries: sizes, copies, comparisons. -/
import Derived.Test.YthoakomccjjhbaaExactW
import Derived.Test.YthoakomccjjhbaaEnt
namespace Go.Proofs.Ythoakomccjjhbaa
open Go.RowKit
set_option linter.unusedVariables false
set_option maxRecDepth 100000

theorem info_entry : (Try.prog.info? 30).map (fun i => (i.zero, i.size, i.bytes)) = some (some (.agg #[.int .i64 0, .int .i64 0, .slice none 0 0, .int .i64 0]), 4, 48) := by kernel_rfl
theorem szEntry_any (w : World) (A : Option Addr) (q k t : Int) (n c : Nat) (left r : Int) (hn : n ≤ maxLen) (h0 : 0 ≤ left) (h1 : left ≤ 1048576) (hr : (left < n ∧ r = -1) ∨ (n ≤ left ∧ r = left - n)) :
    Calls Try.prog 32 #[.agg #[.int .i64 q, .int .i64 k, .slice A n c, .int .i64 t], .int .i64 left] w fun e w' => e = .returned (.int .i64 r) ∧ w.grownBy w' none := by
  have HS := Lib.hid (fun W : World => szItem_any W A k t n c left r hn h0 h1 hr)
  have hr2 : r = -1 ∨ 0 ≤ r := by omega
  clear hr
  rcases hr2 with rfl | hr2
  · go_enter Try.func32, Try.ntmps32
    go_wp2_with fail
    refine (HS.out _).mono ?_
    rintro e w1 ⟨rfl, hg⟩
    have G := Lib.hid hg
    clear hg
    go_wp2_with fail
    go_ret
    exact ⟨rfl, gb_trans (World.grownBy_alloc w _ none) G.out⟩
  · go_enter Try.func32, Try.ntmps32
    go_wp2_with fail
    refine (HS.out _).mono ?_
    rintro e w1 ⟨rfl, hg⟩
    have G := Lib.hid hg
    clear hg
    go_wp2_with fail
    go_ret
    exact ⟨rfl, gb_trans (World.grownBy_alloc w _ none) G.out⟩

/-- what the size of items tells -/
def SzEntries (w : World) (left : Int) (L : List M.Entry) (e : Ending) (w' : World) : Prop :=
  ∃ r : Int, e = .returned (.int .i64 r) ∧ r ≤ left ∧ (0 ≤ r → L.length ≤ 1048576 ∧ ∀ x ∈ L, x.item.pos.length ≤ 1048576) ∧ w.grownBy w' none

theorem szEntryS_any (w : World) (A : Option Addr) (c lo hi : Nat) (L : List M.Entry) (left : Int) (hl : L.length ≤ maxLen) (hp : ∀ x ∈ L, x.item.pos.length ≤ maxLen) (hr : RdE w lo hi A L) (hhi : hi ≤ w.heap.size) (h0 : 0 ≤ left) (h1 : left ≤ 1048576) :
    Calls Try.prog 63 #[.slice A L.length c, .int .i64 left] w (SzEntries w left L) := by
  obtain ⟨n, hn⟩ : ∃ n, n = L.length := ⟨_, rfl⟩
  rw [← hn] at hl ⊢
  have HL := Lib.hid hn
  have HR := Lib.hid hr
  have HP := Lib.hid hp
  clear hn hr hp
  unfold maxLen at hl
  by_cases h : left < n
  · go_enter Try.func63, Try.ntmps63
    go_wp2_with fail
    go_ret
    exact ⟨-1, rfl, by omega, fun h => by omega, gb_refl _ _⟩
  · go_enter Try.func63, Try.ntmps63
    go_wp2_with fail
    go_loopw [1, 5] (fun l i wr => ∃ (k : Nat) (m : Int), k ≤ n ∧ i = .int .i64 k ∧ l = .int .i64 m ∧ 0 ≤ m ∧ m ≤ left - n ∧ (∀ x ∈ L.take k, x.item.pos.length ≤ 1048576) ∧ w.grownBy wr none) (fun _ i _ => n - (intOf i).toNat)
    case atStart => exact ⟨0, left - n, Nat.zero_le _, rfl, rfl, by omega, by omega, by simp, gb_refl _ _⟩
    case round =>
      obtain ⟨k, m, hk, rfl, rfl, hm0, hm1, hx, hg⟩ := hrel
      have HX := Lib.hid hx
      have HG := Lib.hid hg
      clear hx hg
      by_cases hlt : k < n
      · have hkl : k < L.length := by rw [← HL.out]; exact hlt
        obtain ⟨b, o, rfl, hb1, hb2, hI⟩ := HR.out.at_ (List.getElem?_eq_getElem hkl)
        obtain ⟨u, c0, c1, c2, c3, hu⟩ := hI.agree hb1 hb2 (fun b _ h2 => (Agree.of_grown HG.out) b (Nat.zero_le _) (by omega))
        obtain ⟨Au, cu, rfl, hcu, hru⟩ := hu
        have hpl : L[k].item.pos.length ≤ maxLen := HP.out _ (List.getElem_mem hkl)
        have HN : Hid (∀ x ∈ L.take (k + 1), L[k].item.pos.length ≤ 1048576 → x.item.pos.length ≤ 1048576) := Lib.hid fun x hx h9 => by
          rw [List.take_succ_eq_append_getElem hkl, List.mem_append] at hx
          rcases hx with hx | hx
          · exact HX.out x hx
          · simp at hx; subst hx; exact h9
        clear hI hcu hru
        generalize L[k] = y at *
        generalize y.item.pos.length = q at *
        by_cases hq : m < q
        · go_wp2_with (go_at_call 32; refine (szEntry_any _ _ _ _ _ q cu m (-1) hpl hm0 (by omega) (.inl ⟨hq, rfl⟩)).mono ?_; rintro e w1 ⟨rfl, hg1⟩; have HG1 := Lib.hid hg1; clear hg1)
          go_ret
          exact ⟨-1, rfl, by omega, fun h => by omega, gb_trans HG.out HG1.out⟩
        · obtain ⟨m', hm'⟩ : ∃ m', m' = m - (q : Int) := ⟨_, rfl⟩
          have h5 : 0 ≤ m' := by omega
          have h6 : m' ≤ left - n := by omega
          have h7 : q ≤ 1048576 := by omega
          have h8 : (q : Int) ≤ m := by omega
          have HM := Lib.hid hm'
          clear hm'
          go_wp2_with (go_at_call 32; refine (szEntry_any _ _ _ _ _ q cu m m' hpl hm0 (by omega) (.inr ⟨h8, HM.out⟩)).mono ?_; rintro e w1 ⟨rfl, hg1⟩; have HG1 := Lib.hid hg1; clear hg1)
          go_roundw
          case rel => exact ⟨k + 1, m', by omega, by go_num, rfl, h5, h6, fun x hx => HN.out x hx h7, gb_trans HG.out HG1.out⟩
          case measure => simp [intOf]; omega
      · obtain rfl : k = n := by omega
        go_wp2_with fail
        go_ret
        refine ⟨m, rfl, by omega, fun _ => ⟨?_, fun x hx => HX.out x ?_⟩, HG.out⟩
        · rw [← HL.out]; omega
        · rw [HL.out, List.take_of_length_le (Nat.le_refl _)]; exact hx

/-- a copy of an entry, its vector in a new block -/
def CopiedE (w : World) (x : M.Entry) (e : Ending) (w' : World) : Prop :=
  ∃ u, e = .returned (.agg #[.int .i64 x.kind, .int .i64 x.item.key, u, .int .i64 x.item.tags]) ∧ OwnInts .i64 3 w' w.heap.size u x.item.pos ∧ w.grownBy w' none

theorem toEntry_any (w : World) (u : Value) (lo hi : Nat) (x : M.Entry) (hl : x.item.pos.length ≤ 1048576) (hr : RdInts .i64 w lo hi u x.item.pos) (hhi : hi ≤ w.heap.size) :
    Calls Try.prog 33 #[.agg #[.int .i64 x.kind, .int .i64 x.item.key, u, .int .i64 x.item.tags]] w (CopiedE w x) := by
  obtain ⟨A, c, rfl, hc, hrd⟩ := hr
  obtain ⟨q, ⟨k, l, t⟩⟩ := x
  have HR := Lib.hid hrd
  have hl' : l.length ≤ 1048576 := hl
  clear hrd hl
  show Calls Try.prog 33 #[.agg #[.int .i64 q, .int .i64 k, .slice A l.length c, .int .i64 t]] w _
  go_enter Try.func33, Try.ntmps33
  go_wp2_with fail
  refine calls_name (fun W => Row W (w.heap.size + 1) 30 [.int .i64 0, .int .i64 0, .slice none 0 0, .int .i64 0] ∧ Row W (w.heap.size + 2) 30 [.int .i64 q, .int .i64 0, .slice none 0 0, .int .i64 0] ∧ w.grownBy W none ∧ W.heap.size = w.heap.size + 3) ?_ ?_
  · refine ⟨?_, ?_, gb_alloc (gb_alloc (gb_alloc (gb_refl _ _) _) _) _, by simp⟩
    · have := (Row.new (w.alloc (.cells #[.int .i64 q, .int .i64 k, .slice A l.length c, .int .i64 t] 57)) 30 (ca := #[.int .i64 0, .int .i64 0, .slice none 0 0, .int .i64 0]) rfl).alloc (.cells #[.int .i64 q, .int .i64 0, .slice none 0 0, .int .i64 0] 30)
      simpa using this
    · have := Row.new ((w.alloc (.cells #[.int .i64 q, .int .i64 k, .slice A l.length c, .int .i64 t] 57)).alloc (.cells #[.int .i64 0, .int .i64 0, .slice none 0 0, .int .i64 0] 30)) 30 (ca := #[.int .i64 q, .int .i64 0, .slice none 0 0, .int .i64 0]) rfl
      simpa using this
  rintro W ⟨r1, r2, hgW, hsz⟩
  refine (toItem_any W (.slice A l.length c) 0 W.heap.size ⟨k, l, t⟩ (by show l.length ≤ _; omega) ⟨A, c, rfl, hc, (HR.out.agree (fun b _ h2 => (Agree.of_grown hgW) b (Nat.zero_le _) (by omega))).wide (Nat.zero_le _) (by omega)⟩ (Nat.le_refl _)).mono ?_
  rintro e w1 ⟨v, rfl, ho, hg1⟩
  obtain ⟨Av, cv, rfl, hcv, _⟩ := ho.rd
  have Q1 := Lib.hid (r1.grown hg1 (by simp))
  have Q2 := Lib.hid (r2.grown hg1 (by simp))
  have a0 := Q1.out.cell 0
  have a1 := Q1.out.cell 1
  have a2 := Q1.out.cell 2
  have a3 := Q1.out.cell 3
  have af0 := Q1.out.frozen 0
  have af1 := Q1.out.frozen 1
  have af2 := Q1.out.frozen 2
  have af3 := Q1.out.frozen 3
  simp only [List.getElem?_cons_zero, List.getElem?_cons_succ] at a0 a1 a2 a3
  have b0 := Q2.out.cell 0
  have b1 := Q2.out.cell 1
  have b2 := Q2.out.cell 2
  have b3 := Q2.out.cell 3
  have bf0 := Q2.out.frozen 0
  have bf1 := Q2.out.frozen 1
  have bf2 := Q2.out.frozen 2
  have bf3 := Q2.out.frozen 3
  simp only [List.getElem?_cons_zero, List.getElem?_cons_succ] at b0 b1 b2 b3
  have HO := Lib.hid ho
  have HG := Lib.hid (gb_trans hgW hg1)
  have HS := Lib.hid hsz
  clear r1 r2 hgW hsz ho hg1
  go_wp2_with fail
  refine bodyPost_ret (v := .agg #[.int .i64 q, .int .i64 k, .slice Av l.length cv, .int .i64 t]) (by simp [results, Try.results33, go_sem, a0, a1, a2, a3]) rfl ⟨_, rfl, ?_, ?_⟩
  · refine OwnInts.wide (lo := W.heap.size) ?_ (by have := HS.out; omega)
    have hs := HS.out
    repeat (with_reducible refine OwnInts.set_ (p := ⟨_, _, none⟩) ?_ (by first | (show w.heap.size + 1 < _; omega) | (show w.heap.size + 1 + 1 < _; omega) | (show w.heap.size + 2 < _; omega)) _)
    exact HO.out
  · repeat (with_reducible refine gb_setCell (p := ⟨_, _, none⟩) ?_ (.inl (by first | (show _ ≤ w.heap.size + 1; omega) | (show _ ≤ w.heap.size + 1 + 1; omega) | (show _ ≤ w.heap.size + 2; omega))) _)
    exact HG.out
set_option maxHeartbeats 600000 in
theorem eqEntry_any (w : World) (u v : Value) (lo hi lo' hi' : Nat) (x y : M.Entry) (hl : x.item.pos.length ≤ 1048576) (hr : RdInts .i64 w lo hi u x.item.pos) (hs : RdInts .i64 w lo' hi' v y.item.pos) (h1 : hi ≤ w.heap.size) (h2 : hi' ≤ w.heap.size) :
    Calls Try.prog 34 #[.agg #[.int .i64 x.kind, .int .i64 x.item.key, u, .int .i64 x.item.tags], .agg #[.int .i64 y.kind, .int .i64 y.item.key, v, .int .i64 y.item.tags]] w fun e w' => e = .returned (.bool (x.kind == y.kind && (x.item.key == y.item.key && decide (x.item.pos = y.item.pos) && x.item.tags == y.item.tags))) ∧ w.grownBy w' none := by
  have HC : Hid (∀ W : World, w.grownBy W none → Calls Try.prog 71 #[.agg #[.int .i64 x.item.key, u, .int .i64 x.item.tags], .agg #[.int .i64 y.item.key, v, .int .i64 y.item.tags]] W fun e w' => e = .returned (.bool (x.item.key == y.item.key && decide (x.item.pos = y.item.pos) && x.item.tags == y.item.tags)) ∧ W.grownBy w' none) := Lib.hid fun W hW =>
    eqItem_any W u v lo hi lo' hi' x.item y.item hl (hr.keep hW h1) (hs.keep hW h2) (by have := hW.size; omega) (by have := hW.size; omega)
  obtain ⟨A, c, rfl, hc, hrd⟩ := hr
  obtain ⟨B, d, rfl, hd, hsd⟩ := hs
  clear hc hrd hd hsd hl
  generalize x.item.pos.length = n at *
  generalize y.item.pos.length = m at *
  generalize (x.item.key == y.item.key && decide (x.item.pos = y.item.pos) && x.item.tags == y.item.tags) = b at *
  by_cases hk : x.kind = y.kind
  · have tk : (x.kind != y.kind) = false := by simp [hk]
    have HK := Lib.hid (beq_iff_eq.2 hk)
    clear hk
    go_enter Try.func34, Try.ntmps34
    go_wp2_with fail
    refine (HC.out _ (gb_alloc (gb_alloc (gb_refl w none) _) _)).mono ?_
    rintro e w1 ⟨rfl, hg⟩
    have G := Lib.hid (gb_trans (gb_alloc (gb_alloc (gb_refl w none) _) _) hg)
    clear hg
    cases b
    · go_wp2_with fail
      go_ret
      exact ⟨ret_bool (by rw [HK.out]; rfl), G.out⟩
    · go_wp2_with fail
      go_ret
      exact ⟨ret_bool (by rw [HK.out]; rfl), G.out⟩
  · have tk : (x.kind != y.kind) = true := by simp [hk]
    have HK := Lib.hid (beq_eq_false_iff_ne.2 hk)
    clear hk
    go_enter Try.func34, Try.ntmps34
    go_wp2_with fail
    go_ret
    exact ⟨ret_bool (by rw [HK.out]; rfl), gb_alloc (gb_alloc (gb_refl _ _) _) _⟩
set_option maxHeartbeats 600000 in
theorem toEntryS_any (w : World) (A : Option Addr) (c lo hi : Nat) (L : List M.Entry) (hl : L.length ≤ 1048576) (hp : ∀ x ∈ L, x.item.pos.length ≤ 1048576) (hr : RdE w lo hi A L) (hhi : hi ≤ w.heap.size) :
    Calls Try.prog 65 #[.slice A L.length c] w fun e w' => ∃ v, e = .returned v ∧ OwnEntries w' w.heap.size v L ∧ w.grownBy w' none := by
  obtain ⟨i0, hi0, hz0, hz1, hz2⟩ := info_parts info_entry
  obtain ⟨n, hn⟩ : ∃ n, n = L.length := ⟨_, rfl⟩
  rw [← hn] at hl ⊢
  have HL := Lib.hid hn
  have HR := Lib.hid hr
  have HP := Lib.hid hp
  clear hn hr hp
  have hmk := fun W : World => run_make (P := Try.prog) W 23 30 i0 _ Try.underlying23 hi0 hz0 .i64 .i64 n n (by omega) (by omega) (by rw [hz2]; omega) (by omega)
  simp only [Int.toNat_natCast] at hmk
  go_enter Try.func65, Try.ntmps65
  go_wp2_with fail
  clear hmk
  go_loopw [4] (fun i wr => ∃ (k : Nat) (LV : List (M.Entry × Value)) (rest : List Value), k ≤ n ∧ i = .int .i64 k ∧ LV.map (·.1) = L.take k ∧ LV.length = k ∧ rest.length = (n - k) * 4 ∧ Row wr w.heap.size 30 (cellsE LV ++ rest) ∧ (∀ p ∈ LV, OwnInts .i64 3 wr (w.heap.size + 1) p.2 p.1.item.pos) ∧ LV.Pairwise (fun p q => p.2.ownBlock = none ∨ p.2.ownBlock ≠ q.2.ownBlock) ∧ w.grownBy wr none) (fun i _ => n - (intOf i).toNat)
  case atStart => exact ⟨0, [], _, Nat.zero_le _, rfl, rfl, rfl, by rw [Array.length_toList, size_madeCells]; rfl, Row.new w _ rfl, by simp, List.Pairwise.nil, gb_alloc (gb_refl _ _) _⟩
  case round =>
    obtain ⟨k, LV, rest, hk, rfl, hm, hlen, hrest, hrow, hown, hpw, hg⟩ := hrel
    have HM := Lib.hid hm
    have HN := Lib.hid hlen
    have HT := Lib.hid hrest
    have HW := Lib.hid hrow
    have HO := Lib.hid hown
    have HPW := Lib.hid hpw
    have HG := Lib.hid hg
    clear hm hlen hrest hrow hown hpw hg
    by_cases hlt : k < n
    · have hkl : k < L.length := by rw [← HL.out]; exact hlt
      obtain ⟨b, o, rfl, hb1, hb2, hI⟩ := HR.out.at_ (List.getElem?_eq_getElem hkl)
      obtain ⟨u, c0, c1, c2, c3, hu⟩ := hI.agree hb1 hb2 (fun b _ h2 => (Agree.of_grown HG.out) b (Nat.zero_le _) (by omega))
      obtain ⟨Au, cu, rfl, hcu, hru⟩ := hu
      have hpl : L[k].item.pos.length ≤ 1048576 := HP.out _ (List.getElem_mem hkl)
      have HK : Hid (L.take (k + 1) = L.take k ++ [L[k]]) := Lib.hid (List.take_succ_eq_append_getElem hkl)
      have HU := Lib.hid (show RdInts .i64 wr lo hi (.slice Au L[k].item.pos.length cu) L[k].item.pos from ⟨_, _, rfl, hcu, hru⟩)
      have hBw : w.heap.size < wr.heap.size := HW.out.lt
      have hszw : w.heap.size ≤ wr.heap.size := HG.out.size
      clear hI hcu hru
      generalize L[k] = y at *
      go_wp2_with fail
      refine (toEntry_any wr _ lo hi y hpl HU.out (by omega)).mono ?_
      rintro e w1 ⟨u', rfl, ho, hg1⟩
      obtain ⟨Av, cv, rfl, hcv, _⟩ := ho.rd
      have hrow1 := HW.out.grown hg1 (by simp)
      have hr3 : 4 ≤ rest.length := by rw [HT.out]; omega
      have hcl : (cellsE LV).length = k * 4 := by rw [cellsE_length, HN.out]
      have hcell : ∀ j, j < 4 → ∃ v, w1.cell? ⟨w.heap.size, k * 4 + j, none⟩ = some v := fun j hj => by
        rw [hrow1.cell, List.getElem?_append_right (by omega)]
        exact ⟨_, List.getElem?_eq_getElem (by omega)⟩
      obtain ⟨v0, d0⟩ := hcell 0 (by omega)
      obtain ⟨v1, d1⟩ := hcell 1 (by omega)
      obtain ⟨v2, d2⟩ := hcell 2 (by omega)
      obtain ⟨v3, d3⟩ := hcell 3 (by omega)
      rw [Nat.add_zero] at d0
      have f0 : w1.frozen? ⟨w.heap.size, k * 4, none⟩ = false := hrow1.frozen _
      have f1 : w1.frozen? ⟨w.heap.size, k * 4 + 1, none⟩ = false := hrow1.frozen _
      have f2 : w1.frozen? ⟨w.heap.size, k * 4 + 2, none⟩ = false := hrow1.frozen _
      have f3 : w1.frozen? ⟨w.heap.size, k * 4 + 3, none⟩ = false := hrow1.frozen _
      have HR2 := Lib.hid ((((hrow1.set_ (k * 4) (.int .i64 y.kind)).set_ (k * 4 + 1) (.int .i64 y.item.key)).set_ (k * 4 + 1 + 1) (.slice Av y.item.pos.length cv)).set_ (k * 4 + 1 + 2) (.int .i64 y.item.tags))
      rw [set4 hcl _ _ _ _ hr3] at HR2
      have HO1 := Lib.hid ho
      have HG1 := Lib.hid hg1
      have HR3 := Lib.hid hr3
      clear hrow1 hcell hcl ho hg1 hr3
      have kn : (k : Int) < n := by omega
      go_wp2_with fail
      go_roundw
      case rel =>
        have hw1 : wr.heap.size ≤ w1.heap.size := HG1.out.size
        refine ⟨k + 1, LV ++ [(y, .slice Av y.item.pos.length cv)], rest.drop 4, by omega, by go_num, by rw [HK.out, ← HM.out]; simp, by simp [HN.out], by rw [List.length_drop, HT.out]; omega, ?_, ?_, ?_, ?_⟩
        · rw [cellsE_append, cellsE_one]
          exact HR2.out
        · intro p hp
          rw [List.mem_append] at hp
          rcases hp with hp | hp
          · exact (((((HO.out p hp).grown HG1.out (by simp)).set_ (by show w.heap.size < _; omega) _).set_ (by show w.heap.size < _; omega) _).set_ (by show w.heap.size < _; omega) _).set_ (by show w.heap.size < _; omega) _
          · simp only [List.mem_singleton] at hp
            subst hp
            exact ((((HO1.out.set_ (by show w.heap.size < _; omega) _).set_ (by show w.heap.size < _; omega) _).set_ (by show w.heap.size < _; omega) _).set_ (by show w.heap.size < _; omega) _).wide (by omega)
        · rw [List.pairwise_append]
          refine ⟨HPW.out, by simp, fun p hp q hq => ?_⟩
          simp only [List.mem_singleton] at hq
          subst hq
          cases hb : p.2.ownBlock with
          | none => exact .inl rfl
          | some g =>
            refine .inr fun e => ?_
            have h1 := ((HO.out p hp).lt g hb).2
            have h2 := (HO1.out.lt g e.symm).1
            omega
        · exact gb_setCell (gb_setCell (gb_setCell (gb_setCell (gb_trans HG.out HG1.out) (.inl (Nat.le_refl _)) _) (.inl (Nat.le_refl _)) _) (.inl (Nat.le_refl _)) _) (.inl (Nat.le_refl _)) _
      case measure => simp [intOf]; omega
    · obtain rfl : k = n := by omega
      go_wp2_with fail
      go_ret
      have hre : rest = [] := List.eq_nil_of_length_eq_zero (by rw [HT.out]; omega)
      have hR := HW.out
      rw [hre, List.append_nil] at hR
      refine ⟨_, rfl, ⟨LV, by rw [HM.out, HL.out, List.take_of_length_le (Nat.le_refl _)], ?_, fun p hp => (HO.out p hp).wide (by omega), HPW.out⟩, HG.out⟩
      have := hR.owns (base := w.heap.size) (n := LV.length) (cap := LV.length) (size := 4) (Nat.le_refl _) (Nat.le_refl _) (by rw [HN.out]; unfold maxLen; omega) (by rw [cellsE_length])
      rw [List.take_of_length_le (by rw [cellsE_length]; exact Nat.le_refl _), HN.out] at this
      rw [HN.out]
      exact this

set_option maxHeartbeats 600000 in
theorem eqEntryS_same (w : World) (A B : Option Addr) (c d lo hi lo' hi' : Nat) (L : List M.Entry) (hl : L.length ≤ 1048576) (hp : ∀ x ∈ L, x.item.pos.length ≤ 1048576) (hr : RdE w lo hi A L) (hs : RdE w lo' hi' B L) (h1 : hi ≤ w.heap.size) (h2 : hi' ≤ w.heap.size) :
    Calls Try.prog 67 #[.slice A L.length c, .slice B L.length d] w fun e w' => e = .returned (.bool true) ∧ w.grownBy w' none := by
  obtain ⟨n, hn⟩ : ∃ n, n = L.length := ⟨_, rfl⟩
  rw [← hn] at hl ⊢
  have HL := Lib.hid hn
  have HR := Lib.hid hr
  have HS := Lib.hid hs
  have HP := Lib.hid hp
  have t0 : ((n : Int) != n) = false := by simp
  clear hn hr hs hp
  go_enter Try.func67, Try.ntmps67
  go_wp2_with fail
  go_loopw [5] (fun i wr => ∃ k : Nat, k ≤ n ∧ i = .int .i64 k ∧ w.grownBy wr none) (fun i _ => n - (intOf i).toNat)
  case atStart => exact ⟨0, Nat.zero_le _, rfl, gb_refl _ _⟩
  case round =>
    obtain ⟨k, hk, rfl, hg⟩ := hrel
    have HG := Lib.hid hg
    clear hg
    by_cases hlt : k < n
    · have hkl : k < L.length := by rw [← HL.out]; exact hlt
      obtain ⟨b, o, rfl, hb1, hb2, hI⟩ := HR.out.at_ (List.getElem?_eq_getElem hkl)
      obtain ⟨b', o', rfl, hb3, hb4, hJ⟩ := HS.out.at_ (List.getElem?_eq_getElem hkl)
      obtain ⟨u, c0, c1, c2, c3, hu⟩ := hI.agree hb1 hb2 (fun b _ h => (Agree.of_grown HG.out) b (Nat.zero_le _) (by omega))
      obtain ⟨v, d0, d1, d2, d3, hv⟩ := hJ.agree hb3 hb4 (fun b _ h => (Agree.of_grown HG.out) b (Nat.zero_le _) (by omega))
      obtain ⟨Au, cu, rfl, hcu, hru⟩ := hu
      obtain ⟨Av, cv, rfl, hcv, hrv⟩ := hv
      have hpl : L[k].item.pos.length ≤ 1048576 := HP.out _ (List.getElem_mem hkl)
      have HU := Lib.hid (show RdInts .i64 wr lo hi (.slice Au L[k].item.pos.length cu) L[k].item.pos from ⟨_, _, rfl, hcu, hru⟩)
      have HV := Lib.hid (show RdInts .i64 wr lo' hi' (.slice Av L[k].item.pos.length cv) L[k].item.pos from ⟨_, _, rfl, hcv, hrv⟩)
      clear hI hJ hcu hru hcv hrv
      generalize L[k] = y at *
      have l0 : ∀ x : Later wr, x.w.cell? ⟨b, o + k * 4, none⟩ = some (.int .i64 y.kind) := fun x => x.cell c0
      have l1 : ∀ x : Later wr, x.w.cell? ⟨b, o + k * 4 + 1, none⟩ = some (.int .i64 y.item.key) := fun x => x.cell c1
      have l2 : ∀ x : Later wr, x.w.cell? ⟨b, o + k * 4 + 1 + 1, none⟩ = some (.slice Au y.item.pos.length cu) := fun x => x.cell c2
      have l3 : ∀ x : Later wr, x.w.cell? ⟨b, o + k * 4 + 1 + 2, none⟩ = some (.int .i64 y.item.tags) := fun x => x.cell c3
      have m0 : ∀ x : Later wr, x.w.cell? ⟨b', o' + k * 4, none⟩ = some (.int .i64 y.kind) := fun x => x.cell d0
      have m1 : ∀ x : Later wr, x.w.cell? ⟨b', o' + k * 4 + 1, none⟩ = some (.int .i64 y.item.key) := fun x => x.cell d1
      have m2 : ∀ x : Later wr, x.w.cell? ⟨b', o' + k * 4 + 1 + 1, none⟩ = some (.slice Av y.item.pos.length cv) := fun x => x.cell d2
      have m3 : ∀ x : Later wr, x.w.cell? ⟨b', o' + k * 4 + 1 + 2, none⟩ = some (.int .i64 y.item.tags) := fun x => x.cell d3
      have HC : Hid (∀ W : World, wr.grownBy W none → Calls Try.prog 34 #[.agg #[.int .i64 y.kind, .int .i64 y.item.key, .slice Au y.item.pos.length cu, .int .i64 y.item.tags], .agg #[.int .i64 y.kind, .int .i64 y.item.key, .slice Av y.item.pos.length cv, .int .i64 y.item.tags]] W fun e w' => e = .returned (.bool true) ∧ W.grownBy w' none) := Lib.hid fun W hW => by
        have h := eqEntry_any W _ _ lo hi lo' hi' y y hpl (HU.out.agree (fun b _ h => (Agree.of_grown hW) b (Nat.zero_le _) (by have := HG.out.size; omega))) (HV.out.agree (fun b _ h => (Agree.of_grown hW) b (Nat.zero_le _) (by have := HG.out.size; omega))) (by have := HG.out.size; have := hW.size; omega) (by have := HG.out.size; have := hW.size; omega)
        simpa using h
      have kn : (k : Int) < n := by omega
      have k0 : (0 : Int) ≤ k := by omega
      clear c0 c1 c2 c3 d0 d1 d2 d3
      go_wp2_with fail
      refine wp_region_later (by kernel_rfl) (by kernel_rfl) ?_
      repeat (go_big_quiet_step ((go_at_call 34; exact later_call (HC.out _ (Later.h _)))))
      refine wpQuiet_nil ?_
      rintro _ ⟨x, rfl⟩
      go_wp2_with fail
      go_roundw
      case rel => exact ⟨k + 1, by omega, by go_num, gb_trans HG.out x.h⟩
      case measure => simp [intOf]; omega
    · obtain rfl : k = n := by omega
      go_wp2_with fail
      go_ret
      exact ⟨rfl, HG.out⟩

theorem tes {w : World} {A : Option Addr} {c : Nat} {L : List M.Entry} (D : SeesE w A L) : Calls Try.prog 65 #[.slice A L.length c] w (GotE w L) :=
  (toEntryS_any w A c 0 w.heap.size L D.2.1 D.2.2 D.1 (Nat.le_refl _)).mono fun _ _ h => gotE_own D.2 h
theorem ees {w : World} {A B : Option Addr} {c d : Nat} {L : List M.Entry} (D : SeesE w A L) (E : SeesE w B L) : Calls Try.prog 67 #[.slice A L.length c, .slice B L.length d] w fun e w' => e = .returned (.bool true) ∧ w.grownBy w' none :=
  eqEntryS_same w A B c d 0 w.heap.size 0 w.heap.size L D.2.1 D.2.2 D.1 E.1 (Nat.le_refl _) (Nat.le_refl _)
end Go.Proofs.Ythoakomccjjhbaa
