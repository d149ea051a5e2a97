/- The walks of the exact laws' helpers on items: sizes, copies, comparisons. -/
import Derived.Test.YtamaoljjoghajaaIntW
import Derived.Test.YtamaoljjoghajaaBase
namespace Go.Proofs.Ytamaoljjoghajaa
open Go.RowKit
set_option linter.unusedVariables false
set_option maxRecDepth 100000

theorem szItem_any (w : World) (A : Option Addr) (k t : Int) (n c : Nat) (left r : Int) (hn : n ≤ maxLen) (h0 : 0 ≤ left) (h1 : left ≤ 1048576) (hr : (left < n ∧ r = -1) ∨ (n ≤ left ∧ r = left - n)) :
    Calls Try.prog 33 #[.agg #[.int .i64 k, .slice A n c, .int .i64 t], .int .i64 left] w fun e w' => e = .returned (.int .i64 r) ∧ w.grownBy w' none := by
  have HR := Lib.hid hr
  rcases hr with ⟨h, rfl⟩ | ⟨h, h2⟩
  · go_enter Try.func33, Try.ntmps33
    go_wp2_with (go_at_call 70; refine (szIntS_any _ A n c left (-1) hn h0 h1 HR.out).mono ?_; rintro e w' ⟨rfl, rfl⟩)
    go_ret
    exact ⟨rfl, gb_alloc (gb_refl _ _) _⟩
  · have hr0 : 0 ≤ r := by omega
    clear h2
    go_enter Try.func33, Try.ntmps33
    go_wp2_with (go_at_call 70; refine (szIntS_any _ A n c left r hn h0 h1 HR.out).mono ?_; rintro e w' ⟨rfl, rfl⟩)
    go_ret
    exact ⟨rfl, gb_alloc (gb_refl _ _) _⟩

/-- what the size of items tells -/
def SzItems (w : World) (left : Int) (L : List M.Item) (e : Ending) (w' : World) : Prop :=
  ∃ r : Int, e = .returned (.int .i64 r) ∧ r ≤ left ∧ (0 ≤ r → L.length ≤ 1048576 ∧ ∀ x ∈ L, x.pos.length ≤ 1048576) ∧ w.grownBy w' none

theorem szItemS_any (w : World) (A : Option Addr) (c lo hi : Nat) (L : List M.Item) (left : Int) (hl : L.length ≤ maxLen) (hp : ∀ x ∈ L, x.pos.length ≤ maxLen) (hr : RdI w lo hi A L) (hhi : hi ≤ w.heap.size) (h0 : 0 ≤ left) (h1 : left ≤ 1048576) :
    Calls Try.prog 7 #[.slice A L.length c, .int .i64 left] w (SzItems w left L) := by
  obtain ⟨n, hn⟩ : ∃ n, n = L.length := ⟨_, rfl⟩
  rw [← hn] at hl ⊢
  have HL := Lib.hid hn
  have HR := Lib.hid hr
  have HP := Lib.hid hp
  clear hn hr hp
  unfold maxLen at hl
  by_cases h : left < n
  · go_enter Try.func7, Try.ntmps7
    go_wp2_with fail
    go_ret
    exact ⟨-1, rfl, by omega, fun h => by omega, gb_refl _ _⟩
  · go_enter Try.func7, Try.ntmps7
    go_wp2_with fail
    go_loopw [1, 5] (fun l i wr => ∃ (k : Nat) (m : Int), k ≤ n ∧ i = .int .i64 k ∧ l = .int .i64 m ∧ 0 ≤ m ∧ m ≤ left - n ∧ (∀ x ∈ L.take k, x.pos.length ≤ 1048576) ∧ w.grownBy wr none) (fun _ i _ => n - (intOf i).toNat)
    case atStart => exact ⟨0, left - n, Nat.zero_le _, rfl, rfl, by omega, by omega, by simp, gb_refl _ _⟩
    case round =>
      obtain ⟨k, m, hk, rfl, rfl, hm0, hm1, hx, hg⟩ := hrel
      have HX := Lib.hid hx
      have HG := Lib.hid hg
      clear hx hg
      by_cases hlt : k < n
      · have hkl : k < L.length := by rw [← HL.out]; exact hlt
        obtain ⟨b, o, rfl, hb1, hb2, hI⟩ := HR.out.at_ (List.getElem?_eq_getElem hkl)
        obtain ⟨u, c0, c1, c2, hu⟩ := hI.agree hb1 hb2 (fun b _ h2 => (Agree.of_grown HG.out) b (Nat.zero_le _) (by omega))
        obtain ⟨Au, cu, rfl, hcu, hru⟩ := hu
        have hpl : L[k].pos.length ≤ maxLen := HP.out _ (List.getElem_mem hkl)
        have HN : Hid (∀ x ∈ L.take (k + 1), L[k].pos.length ≤ 1048576 → x.pos.length ≤ 1048576) := Lib.hid fun x hx h9 => by
          rw [List.take_succ_eq_append_getElem hkl, List.mem_append] at hx
          rcases hx with hx | hx
          · exact HX.out x hx
          · simp at hx; subst hx; exact h9
        clear hI hcu hru
        generalize L[k] = y at *
        generalize y.pos.length = q at *
        by_cases hq : m < q
        · go_wp2_with (go_at_call 33; refine (szItem_any _ _ _ _ q cu m (-1) hpl hm0 (by omega) (.inl ⟨hq, rfl⟩)).mono ?_; rintro e w1 ⟨rfl, hg1⟩; have HG1 := Lib.hid hg1; clear hg1)
          go_ret
          exact ⟨-1, rfl, by omega, fun h => by omega, gb_trans HG.out HG1.out⟩
        · obtain ⟨m', hm'⟩ : ∃ m', m' = m - (q : Int) := ⟨_, rfl⟩
          have h5 : 0 ≤ m' := by omega
          have h6 : m' ≤ left - n := by omega
          have h7 : q ≤ 1048576 := by omega
          have h8 : (q : Int) ≤ m := by omega
          have HM := Lib.hid hm'
          clear hm'
          go_wp2_with (go_at_call 33; refine (szItem_any _ _ _ _ q cu m m' hpl hm0 (by omega) (.inr ⟨h8, HM.out⟩)).mono ?_; rintro e w1 ⟨rfl, hg1⟩; have HG1 := Lib.hid hg1; clear hg1)
          go_roundw
          case rel => exact ⟨k + 1, m', by omega, by go_num, rfl, h5, h6, fun x hx => HN.out x hx h7, gb_trans HG.out HG1.out⟩
          case measure => simp [intOf]; omega
      · obtain rfl : k = n := by omega
        go_wp2_with fail
        go_ret
        refine ⟨m, rfl, by omega, fun _ => ⟨?_, fun x hx => HX.out x ?_⟩, HG.out⟩
        · rw [← HL.out]; omega
        · rw [HL.out, List.take_of_length_le (Nat.le_refl _)]; exact hx

/-- a copy of an item, its vector in a new block -/
def Copied (w : World) (x : M.Item) (e : Ending) (w' : World) : Prop :=
  ∃ u, e = .returned (.agg #[.int .i64 x.key, u, .int .i64 x.tags]) ∧ OwnInts .i64 3 w' w.heap.size u x.pos ∧ w.grownBy w' none

theorem toItem_any (w : World) (u : Value) (lo hi : Nat) (x : M.Item) (hl : x.pos.length ≤ 1048576) (hr : RdInts .i64 w lo hi u x.pos) (hhi : hi ≤ w.heap.size) :
    Calls Try.prog 39 #[.agg #[.int .i64 x.key, u, .int .i64 x.tags]] w (Copied w x) := by
  obtain ⟨A, c, rfl, hc, hrd⟩ := hr
  obtain ⟨k, l, t⟩ := x
  have HR := Lib.hid hrd
  have hl' : l.length ≤ 1048576 := hl
  clear hrd hl
  show Calls Try.prog 39 #[.agg #[.int .i64 k, .slice A l.length c, .int .i64 t]] w _
  go_enter Try.func39, Try.ntmps39
  go_wp2_with fail
  refine calls_name (fun W => Row W w.heap.size 60 [.int .i64 k, .slice A l.length c, .int .i64 t] ∧ Row W (w.heap.size + 1) 54 [.int .i64 0, .slice none 0 0, .int .i64 0] ∧ Row W (w.heap.size + 2) 54 [.int .i64 k, .slice none 0 0, .int .i64 0] ∧ w.grownBy W none ∧ W.heap.size = w.heap.size + 3) ?_ ?_
  · refine ⟨?_, ?_, ?_, gb_alloc (gb_alloc (gb_alloc (gb_refl _ _) _) _) _, by simp⟩
    · exact ((Row.new w _ rfl).alloc _).alloc _
    · have := (Row.new (w.alloc (.cells #[.int .i64 k, .slice A l.length c, .int .i64 t] 60)) 54 (ca := #[.int .i64 0, .slice none 0 0, .int .i64 0]) rfl).alloc (.cells #[.int .i64 k, .slice none 0 0, .int .i64 0] 54)
      simpa using this
    · have := Row.new ((w.alloc (.cells #[.int .i64 k, .slice A l.length c, .int .i64 t] 60)).alloc (.cells #[.int .i64 0, .slice none 0 0, .int .i64 0] 54)) 54 (ca := #[.int .i64 k, .slice none 0 0, .int .i64 0]) rfl
      simpa using this
  rintro W ⟨r0, r1, r2, hgW, hsz⟩
  refine (toIntS_any W A c l hl' ((HR.out.agree (fun b _ h2 => (Agree.of_grown hgW) b (Nat.zero_le _) (by omega))).wide (Nat.zero_le _) (by omega))).mono ?_
  rintro e w1 ⟨v, rfl, ho, hg1⟩
  obtain ⟨Av, cv, rfl, hcv, _⟩ := ho.rd
  have q0 := r0.grown hg1 (by simp)
  have q1 := r1.grown hg1 (by simp)
  have q2 := r2.grown hg1 (by simp)
  have a00 : w1.cell? ⟨w.heap.size, 0, none⟩ = some (.int .i64 k) := q0.cell 0
  have a02 : w1.cell? ⟨w.heap.size, 2, none⟩ = some (.int .i64 t) := q0.cell 2
  have a10 : w1.cell? ⟨w.heap.size + 1, 0, none⟩ = some (.int .i64 0) := q1.cell 0
  have a11 : w1.cell? ⟨w.heap.size + 1, 1, none⟩ = some (.slice none 0 0) := q1.cell 1
  have a12 : w1.cell? ⟨w.heap.size + 1, 2, none⟩ = some (.int .i64 0) := q1.cell 2
  have f10 : w1.frozen? ⟨w.heap.size + 1, 0, none⟩ = false := q1.frozen 0
  have f11 : w1.frozen? ⟨w.heap.size + 1, 1, none⟩ = false := q1.frozen 1
  have f12 : w1.frozen? ⟨w.heap.size + 1, 2, none⟩ = false := q1.frozen 2
  have a20 : w1.cell? ⟨w.heap.size + 2, 0, none⟩ = some (.int .i64 k) := q2.cell 0
  have a21 : w1.cell? ⟨w.heap.size + 2, 1, none⟩ = some (.slice none 0 0) := q2.cell 1
  have a22 : w1.cell? ⟨w.heap.size + 2, 2, none⟩ = some (.int .i64 0) := q2.cell 2
  have f21 : w1.frozen? ⟨w.heap.size + 2, 1, none⟩ = false := q2.frozen 1
  have f22 : w1.frozen? ⟨w.heap.size + 2, 2, none⟩ = false := q2.frozen 2
  have HO := Lib.hid ho
  have HG := Lib.hid (gb_trans hgW hg1)
  have HS := Lib.hid hsz
  clear r0 r1 r2 hgW hsz ho hg1 q0 q1 q2
  go_wp2_with fail
  refine bodyPost_ret (v := .agg #[.int .i64 k, .slice Av l.length cv, .int .i64 t]) (by simp [results, Try.results39, go_sem, a10, a11, a12]) rfl ⟨_, rfl, ?_, ?_⟩
  · refine OwnInts.wide (lo := W.heap.size) ?_ (by have := HS.out; omega)
    exact ((((HO.out.set_ (by show w.heap.size + 1 + 1 < _; have := HS.out; omega) _).set_ (by show w.heap.size + 1 + 1 < _; have := HS.out; omega) _).set_ (by show w.heap.size + 1 < _; have := HS.out; omega) _).set_ (by show w.heap.size + 1 < _; have := HS.out; omega) _).set_ (by show w.heap.size + 1 < _; have := HS.out; omega) _
  · exact gb_setCell (gb_setCell (gb_setCell (gb_setCell (gb_setCell HG.out (.inl (by show _ ≤ w.heap.size + 1 + 1; omega)) _) (.inl (by show _ ≤ w.heap.size + 1 + 1; omega)) _) (.inl (by show _ ≤ w.heap.size + 1; omega)) _) (.inl (by show _ ≤ w.heap.size + 1; omega)) _) (.inl (by show _ ≤ w.heap.size + 1; omega)) _

set_option maxHeartbeats 600000 in
theorem eqItem_any (w : World) (u v : Value) (lo hi lo' hi' : Nat) (x y : M.Item) (hl : x.pos.length ≤ 1048576) (hr : RdInts .i64 w lo hi u x.pos) (hs : RdInts .i64 w lo' hi' v y.pos) (h1 : hi ≤ w.heap.size) (h2 : hi' ≤ w.heap.size) :
    Calls Try.prog 46 #[.agg #[.int .i64 x.key, u, .int .i64 x.tags], .agg #[.int .i64 y.key, v, .int .i64 y.tags]] w fun e w' => e = .returned (.bool (x.key == y.key && decide (x.pos = y.pos) && x.tags == y.tags)) ∧ w.grownBy w' none := by
  obtain ⟨A, c, rfl, hc, hrd⟩ := hr
  obtain ⟨B, d, rfl, hd, hsd⟩ := hs
  obtain ⟨k, l, t⟩ := x
  obtain ⟨k', m, t'⟩ := y
  have HR := Lib.hid hrd
  have HS := Lib.hid hsd
  have hl' : l.length ≤ 1048576 := hl
  have HC : Hid (∀ W : World, w.grownBy W none → Calls Try.prog 14 #[.slice A l.length c, .slice B m.length d] W fun e w' => e = .returned (.bool (decide (l = m))) ∧ ∃ n, w' = W.drewN n) := Lib.hid fun W hW =>
    eqIntS_any W A B c d l m lo hi lo' hi' (by omega) (HR.out.agree (fun b _ h => (Agree.of_grown hW) b (Nat.zero_le _) (by omega))) (HS.out.agree (fun b _ h => (Agree.of_grown hW) b (Nat.zero_le _) (by omega)))
  clear hrd hsd hl
  show Calls Try.prog 46 #[.agg #[.int .i64 k, .slice A l.length c, .int .i64 t], .agg #[.int .i64 k', .slice B m.length d, .int .i64 t']] w fun e w' => e = .returned (.bool (k == k' && decide (l = m) && t == t')) ∧ w.grownBy w' none
  by_cases hk : k = k'
  · subst hk
    have tk : (k != k) = false := by simp
    have G2 := Lib.hid (gb_alloc (gb_alloc (gb_refl w none) (.cells #[.int .i64 k, .slice A l.length c, .int .i64 t] 54)) (.cells #[.int .i64 k, .slice B m.length d, .int .i64 t'] 54))
    by_cases hlm : l = m
    · have HD := Lib.hid (decide_eq_true hlm)
      clear hlm
      by_cases ht : t = t'
      · subst ht
        have tt : (t != t) = false := by simp
        go_enter Try.func46, Try.ntmps46
        go_wp2_with (go_at_call 14; refine (HC.out _ G2.out).mono ?_; rintro e w' ⟨rfl, q, rfl⟩; rw [HD.out])
        go_ret
        exact ⟨ret_bool (by rw [HD.out]; simp), gb_drewN G2.out q⟩
      · have tt : (t != t') = true := by simpa using ht
        have HT := Lib.hid (beq_eq_false_iff_ne.2 ht)
        clear ht
        go_enter Try.func46, Try.ntmps46
        go_wp2_with (go_at_call 14; refine (HC.out _ G2.out).mono ?_; rintro e w' ⟨rfl, q, rfl⟩; rw [HD.out])
        go_ret
        exact ⟨ret_bool (by rw [HT.out]; simp), gb_drewN G2.out q⟩
    · have HD := Lib.hid (decide_eq_false hlm)
      clear hlm
      go_enter Try.func46, Try.ntmps46
      go_wp2_with (go_at_call 14; refine (HC.out _ G2.out).mono ?_; rintro e w' ⟨rfl, q, rfl⟩; rw [HD.out])
      go_ret
      exact ⟨ret_bool (by rw [HD.out]; simp), gb_drewN G2.out q⟩
  · have tk : (k != k') = true := by simpa using hk
    have HK := Lib.hid (beq_eq_false_iff_ne.2 hk)
    clear hk
    go_enter Try.func46, Try.ntmps46
    go_wp2_with fail
    go_ret
    exact ⟨ret_bool (by rw [HK.out]; simp), gb_alloc (gb_alloc (gb_refl _ _) _) _⟩

theorem info_item : (Try.prog.info? 54).map (fun i => (i.zero, i.size, i.bytes)) = some (some (.agg #[.int .i64 0, .slice none 0 0, .int .i64 0]), 3, 40) := by kernel_rfl

set_option maxHeartbeats 600000 in
theorem toItemS_any (w : World) (A : Option Addr) (c lo hi : Nat) (L : List M.Item) (hl : L.length ≤ 1048576) (hp : ∀ x ∈ L, x.pos.length ≤ 1048576) (hr : RdI w lo hi A L) (hhi : hi ≤ w.heap.size) :
    Calls Try.prog 9 #[.slice A L.length c] w fun e w' => ∃ v, e = .returned v ∧ OwnItems w' w.heap.size v L ∧ w.grownBy w' none := by
  obtain ⟨i0, hi0, hz0, hz1, hz2⟩ := info_parts info_item
  obtain ⟨n, hn⟩ : ∃ n, n = L.length := ⟨_, rfl⟩
  rw [← hn] at hl ⊢
  have HL := Lib.hid hn
  have HR := Lib.hid hr
  have HP := Lib.hid hp
  clear hn hr hp
  have hmk := fun W : World => run_make (P := Try.prog) W 27 54 i0 _ Try.underlying27 hi0 hz0 .i64 .i64 n n (by omega) (by omega) (by rw [hz2]; omega) (by omega)
  simp only [Int.toNat_natCast] at hmk
  go_enter Try.func9, Try.ntmps9
  go_wp2_with fail
  clear hmk
  go_loopw [4] (fun i wr => ∃ (k : Nat) (LV : List (M.Item × Value)) (rest : List Value), k ≤ n ∧ i = .int .i64 k ∧ LV.map (·.1) = L.take k ∧ LV.length = k ∧ rest.length = (n - k) * 3 ∧ Row wr w.heap.size 54 (cellsI LV ++ rest) ∧ (∀ p ∈ LV, OwnInts .i64 3 wr (w.heap.size + 1) p.2 p.1.pos) ∧ LV.Pairwise (fun p q => p.2.ownBlock = none ∨ p.2.ownBlock ≠ q.2.ownBlock) ∧ w.grownBy wr none) (fun i _ => n - (intOf i).toNat)
  case atStart => exact ⟨0, [], _, Nat.zero_le _, rfl, rfl, rfl, by rw [Array.length_toList, size_madeCells]; rfl, Row.new w _ rfl, by simp, List.Pairwise.nil, gb_alloc (gb_refl _ _) _⟩
  case round =>
    obtain ⟨k, LV, rest, hk, rfl, hm, hlen, hrest, hrow, hown, hpw, hg⟩ := hrel
    have HM := Lib.hid hm
    have HN := Lib.hid hlen
    have HT := Lib.hid hrest
    have HW := Lib.hid hrow
    have HO := Lib.hid hown
    have HPW := Lib.hid hpw
    have HG := Lib.hid hg
    clear hm hlen hrest hrow hown hpw hg
    by_cases hlt : k < n
    · have hkl : k < L.length := by rw [← HL.out]; exact hlt
      obtain ⟨b, o, rfl, hb1, hb2, hI⟩ := HR.out.at_ (List.getElem?_eq_getElem hkl)
      obtain ⟨u, c0, c1, c2, hu⟩ := hI.agree hb1 hb2 (fun b _ h2 => (Agree.of_grown HG.out) b (Nat.zero_le _) (by omega))
      obtain ⟨Au, cu, rfl, hcu, hru⟩ := hu
      have hpl : L[k].pos.length ≤ 1048576 := HP.out _ (List.getElem_mem hkl)
      have HK : Hid (L.take (k + 1) = L.take k ++ [L[k]]) := Lib.hid (List.take_succ_eq_append_getElem hkl)
      have HU := Lib.hid (show RdInts .i64 wr lo hi (.slice Au L[k].pos.length cu) L[k].pos from ⟨_, _, rfl, hcu, hru⟩)
      have hBw : w.heap.size < wr.heap.size := HW.out.lt
      have hszw : w.heap.size ≤ wr.heap.size := HG.out.size
      clear hI hcu hru
      generalize L[k] = y at *
      go_wp2_with fail
      refine (toItem_any wr _ lo hi y hpl HU.out (by omega)).mono ?_
      rintro e w1 ⟨u', rfl, ho, hg1⟩
      obtain ⟨Av, cv, rfl, hcv, _⟩ := ho.rd
      have hrow1 := HW.out.grown hg1 (by simp)
      have hr3 : 3 ≤ rest.length := by rw [HT.out]; omega
      have hcl : (cellsI LV).length = k * 3 := by rw [cellsI_length, HN.out]
      have hcell : ∀ j, j < 3 → ∃ v, w1.cell? ⟨w.heap.size, k * 3 + j, none⟩ = some v := fun j hj => by
        rw [hrow1.cell, List.getElem?_append_right (by omega)]
        exact ⟨_, List.getElem?_eq_getElem (by omega)⟩
      obtain ⟨v0, d0⟩ := hcell 0 (by omega)
      obtain ⟨v1, d1⟩ := hcell 1 (by omega)
      obtain ⟨v2, d2⟩ := hcell 2 (by omega)
      rw [Nat.add_zero] at d0
      have f0 : w1.frozen? ⟨w.heap.size, k * 3, none⟩ = false := hrow1.frozen _
      have f1 : w1.frozen? ⟨w.heap.size, k * 3 + 1, none⟩ = false := hrow1.frozen _
      have f2 : w1.frozen? ⟨w.heap.size, k * 3 + 2, none⟩ = false := hrow1.frozen _
      have HR2 := Lib.hid (((hrow1.set_ (k * 3) (.int .i64 y.key)).set_ (k * 3 + 1) (.slice Av y.pos.length cv)).set_ (k * 3 + 2) (.int .i64 y.tags))
      rw [set3 hcl _ _ _ hr3] at HR2
      have HO1 := Lib.hid ho
      have HG1 := Lib.hid hg1
      have HR3 := Lib.hid hr3
      clear hrow1 hcell hcl ho hg1 hr3
      have kn : (k : Int) < n := by omega
      go_wp2_with fail
      go_roundw
      case rel =>
        have hw1 : wr.heap.size ≤ w1.heap.size := HG1.out.size
        refine ⟨k + 1, LV ++ [(y, .slice Av y.pos.length cv)], rest.drop 3, by omega, by go_num, by rw [HK.out, ← HM.out]; simp, by simp [HN.out], by rw [List.length_drop, HT.out]; omega, ?_, ?_, ?_, ?_⟩
        · rw [cellsI_append, cellsI_one]
          exact HR2.out
        · intro p hp
          rw [List.mem_append] at hp
          rcases hp with hp | hp
          · exact ((((HO.out p hp).grown HG1.out (by simp)).set_ (by show w.heap.size < _; omega) _).set_ (by show w.heap.size < _; omega) _).set_ (by show w.heap.size < _; omega) _
          · simp only [List.mem_singleton] at hp
            subst hp
            exact (((HO1.out.set_ (by show w.heap.size < _; omega) _).set_ (by show w.heap.size < _; omega) _).set_ (by show w.heap.size < _; omega) _).wide (by omega)
        · rw [List.pairwise_append]
          refine ⟨HPW.out, by simp, fun p hp q hq => ?_⟩
          simp only [List.mem_singleton] at hq
          subst hq
          cases hb : p.2.ownBlock with
          | none => exact .inl rfl
          | some g =>
            refine .inr fun e => ?_
            have h1 := ((HO.out p hp).lt g hb).2
            have h2 := (HO1.out.lt g e.symm).1
            omega
        · exact gb_setCell (gb_setCell (gb_setCell (gb_trans HG.out HG1.out) (.inl (Nat.le_refl _)) _) (.inl (Nat.le_refl _)) _) (.inl (Nat.le_refl _)) _
      case measure => simp [intOf]; omega
    · obtain rfl : k = n := by omega
      go_wp2_with fail
      go_ret
      have hre : rest = [] := List.eq_nil_of_length_eq_zero (by rw [HT.out]; omega)
      have hR := HW.out
      rw [hre, List.append_nil] at hR
      refine ⟨_, rfl, ⟨LV, by rw [HM.out, HL.out, List.take_of_length_le (Nat.le_refl _)], ?_, fun p hp => (HO.out p hp).wide (by omega), HPW.out⟩, HG.out⟩
      have := hR.owns (base := w.heap.size) (n := LV.length) (cap := LV.length) (size := 3) (Nat.le_refl _) (Nat.le_refl _) (by rw [HN.out]; unfold maxLen; omega) (by rw [cellsI_length])
      rw [List.take_of_length_le (by rw [cellsI_length]; exact Nat.le_refl _), HN.out] at this
      rw [HN.out]
      exact this

end Go.Proofs.Ytamaoljjoghajaa
