/- The draws of vectors whose numbers lie near, of texts and of lines. The walk of the draw that changes a line. The walk of the draw of a session's lines. -/
import Derived.Test.YtibbpbbgmgdpdaaGreatDoorSesR
import Derived.Test.YtibbpbbgmgdpdaaGreatDoorDrawV
namespace Go.Proofs.YtibbpbbgmgdpdaaGreatDoor
open Go.RowKit
set_option linter.unusedVariables false
set_option linter.unusedSimpArgs false
set_option maxRecDepth 100000

/-- every number lies near -/
def Bd (l : List Int) : Prop := ∀ x ∈ l, -1000 ≤ x ∧ x ≤ 1000
theorem Bd.nil : Bd [] := by simp [Bd]
theorem Bd.snoc {l : List Int} {x : Int} (h : Bd l) (hx : -1000 ≤ x ∧ x ≤ 1000) : Bd (l ++ [x]) := fun y hy => by
  rw [List.mem_append, List.mem_singleton] at hy
  rcases hy with hy | rfl
  · exact h y hy
  · exact hx
theorem Bd.drop {l : List Int} (h : Bd l) (n : Nat) : Bd (l.drop n) := fun y hy => h y (List.mem_of_mem_drop hy)
theorem Bd.set {l : List Int} (h : Bd l) (n : Nat) {x : Int} (hx : -1000 ≤ x ∧ x ≤ 1000) : Bd (l.set n x) := fun y hy => by
  rcases List.mem_or_eq_of_mem_set hy with hy | rfl
  · exact h y hy
  · exact hx
def CoordB (w : World) (g p : Nat) (e : Ending) (w' : World) : Prop := ∃ v : Int, (-1000 ≤ v ∧ v ≤ 1000) ∧ e = .returned (.int .i64 v) ∧ RdrB w' g p ∧ w.grownBy w' (some g)
theorem coord_b (w : World) (g p : Nat) (hr : RdrB w g p) (hp : p ≤ 999000) :
    Calls Tryz.prog 26 #[.pointer (some ⟨g, 0, none⟩)] w (CoordB w g (p + 3)) := by
  have R0 := Lib.hid hr
  clear hr
  go_enter Tryz.func26, Tryz.ntmps26
  go_wp2_with fail
  refine (pick_b _ _ p 201 R0.out (by omega) (by omega) (by omega)).mono ?_
  rintro e w1 ⟨x, hx0, hx1, rfl, hr1, hg1⟩
  have R1 := Lib.hid hr1
  have G1 := Lib.hid hg1
  clear hr1 hg1
  go_wp2_with fail
  refine (pick_b _ _ (p + 1) 21 R1.out (by omega) (by omega) (by omega)).mono ?_
  rintro e w2 ⟨y, hy0, hy1, rfl, hr2, hg2⟩
  have R2 := Lib.hid hr2
  have G2 := Lib.hid (gb_trans G1.out hg2)
  clear hr2 hg2
  go_wp2_with fail
  refine (one_b _ _ (p + 1 + 1) _ [0, 1, -1, 5, -7, 10, 3, 100, -100, x - 100, y - 10] (R2.out.grown (World.grownBy_alloc _ _ _)) (by omega) (by simp) (by simp) ((RdInts.lit .i64 w2 R2.out.lt _ _ rfl).wide (by omega) (by simp))).mono ?_
  rintro e w3 ⟨v, hv, rfl, hr3, hg3⟩
  have R3 := Lib.hid hr3
  have G3 := Lib.hid (gb_trans (gb_alloc G2.out _) hg3)
  have HV : Hid (-1000 ≤ v ∧ v ≤ 1000) := Lib.hid (by simp only [List.mem_cons, List.not_mem_nil, or_false] at hv; omega)
  clear hr3 hg3 hv
  go_wp2_with fail
  go_ret
  exact ⟨v, HV.out, rfl, R3.out, G3.out⟩

/-- a vector was drawn -/
def VecB (w : World) (g p : Nat) (e : Ending) (w' : World) : Prop := ∃ (v : Value) (l : List Int), e = .returned v ∧ OwnInts .i64 3 w' w.heap.size v l ∧ l.length = 4 ∧ Bd l ∧ RdrB w' g p ∧ w.grownBy w' (some g)
set_option maxHeartbeats 1000000 in
theorem vector_b (w : World) (g p : Nat) (hr : RdrB w g p) (hp : p ≤ 990000) :
    Calls Tryz.prog 20 #[.pointer (some ⟨g, 0, none⟩)] w (VecB w g (p + 12)) := by
  obtain ⟨i0, hi0, hz0, hz1, hz2⟩ := info_parts info_int'
  have R0 := Lib.hid hr
  have HLT := Lib.hid hr.lt
  clear hr
  go_enter Tryz.func20, Tryz.ntmps20
  go_wp2_with fail
  go_loopw [3, 4] (fun v i wr => ∃ (k : Nat) (l : List Int), k ≤ 4 ∧ i = .int .i64 k ∧ l.length = k ∧ Bd l ∧ RdrB wr g (p + 3 * k) ∧ wr.ownsRow w.heap.size 3 1 v l.length (l.map (.int .i64)) ∧ w.grownBy wr (some g)) (fun _ i _ => 4 - (intOf i).toNat)
  case atStart =>
    refine ⟨0, [], by omega, rfl, rfl, Bd.nil, R0.out.grown (World.grownBy_alloc _ _ _), ?_, gb_alloc (gb_refl _ _) _⟩
    have := World.ownsRow_made (base := w.heap.size) (e := 3) (size := 1) w #[] 0 (Nat.le_refl _) (by decide) rfl
    simpa using this
  case round =>
    obtain ⟨k, l, hk, rfl, hl, hbd, hrd, hown, hg⟩ := hrel
    have R1 := Lib.hid hrd
    have O1 := Lib.hid hown
    have G1 := Lib.hid hg
    have HL := Lib.hid hl
    have HBD := Lib.hid hbd
    clear hrd hown hg hl hbd
    by_cases hlt : k < 4
    · go_wp2_with fail
      refine (coord_b _ _ (p + 3 * k) R1.out (by omega)).mono ?_
      rintro e w1 ⟨x, hxb, rfl, hr1, hg1⟩
      have HXB := Lib.hid hxb
      clear hxb
      have R2 := Lib.hid hr1
      have G2 := Lib.hid (gb_trans G1.out hg1)
      have O2 := Lib.hid (O1.out.kept hg1 (own_ge O1.out (fun b e => by injection e with e; have := HLT.out; omega)))
      have hlen : l.length ≤ 4 := by have := HL.out; omega
      have hsz := G2.out.size
      clear hr1 hg1
      go_wp2_with (at_builtin; refine wpList_append_own _ rfl (.tmp 10) (.tmp 13) 34 rfl w.heap.size 3 i0 (.int .i64 0) 1 8 Tryz.underlying34 hi0 hz0 hz1 hz2 rfl (by decide) _ l.length (l.map (.int .i64)) rfl (O2.out.alloc _) ⟨w1.heap.size, 0, none⟩ 1 1 [.int .i64 x] rfl rfl one_cell_new (one_cells rfl) (by unfold maxLen; omega) (by omega) (by simp; omega) ?_; intro v' w4 hown' hgrow _; have T1 := Lib.hid hown'; have T2 := Lib.hid hgrow; clear hown' hgrow)
      go_roundw
      case rel =>
        have hO := T1.out
        rw [show l.map (Value.int IntKind.i64) ++ [Value.int IntKind.i64 x] = (l ++ [x]).map (Value.int IntKind.i64) from by simp] at hO
        have hrow : ∀ b, u3.ownBlock = some b → w.heap.size ≤ b := fun b hb => (O1.out.lt b hb).1
        refine ⟨k + 1, l ++ [x], by omega, by go_num, by simp [HL.out], HBD.out.snoc HXB.out, ?_, by simpa using hO, ?_⟩
        · exact ((R2.out.grown (World.grownBy_alloc _ _ none)).row T2.out (fun b hb => by have := hrow b hb; have := HLT.out; omega)).mono (by omega)
        · exact gb_new (gb_alloc G2.out _) T2.out (fun b hb => .inl (hrow b hb))
      case measure => simp [intOf]; omega
    · obtain rfl : k = 4 := by omega
      go_wp2_with fail
      go_ret
      exact ⟨_, l, rfl, O1.out, HL.out, HBD.out, R1.out, G1.out⟩

/-- a vector that was drawn and perhaps spoiled -/
def SpoilB (w : World) (g p m : Nat) (e : Ending) (w' : World) : Prop := ∃ (v : Value) (l : List Int), e = .returned v ∧ TV w' w.heap.size w'.heap.size v l ∧ l.length ≤ m ∧ Bd l ∧ RdrB w' g p ∧ w.grownBy w' (some g)
set_option maxHeartbeats 1000000 in
theorem spoil_b (w : World) (g p : Nat) (v : Value) (l : List Int) (n : Int) (hr : RdrB w g p) (hp : p ≤ 990000) (hn : -1000 ≤ n ∧ n ≤ 1000) (hbd : Bd l) (hl : l.length ≤ 1000) (hv : RdInts .i64 w (g + 1) w.heap.size v l) :
    Calls Tryz.prog 27 #[.pointer (some ⟨g, 0, none⟩), v, .int .i64 n] w (SpoilB w g (p + 3) (l.length + 1)) := by
  obtain ⟨i0, hi0, hz0, hz1, hz2⟩ := info_parts info_int'
  obtain ⟨A, c, rfl, hc, hrd⟩ := hv
  have R0 := Lib.hid hr
  have HLT := Lib.hid hr.lt
  have HR := Lib.hid hrd
  have HBD := Lib.hid hbd
  have HNB := Lib.hid hn
  clear hr hc hrd hbd hn
  go_enter Tryz.func27, Tryz.ntmps27
  go_wp2_with fail
  refine (copyInts_spec w A c _ _ l (by omega) HR.out (Nat.le_refl _)).mono ?_
  rintro e w1 ⟨v1, rfl, ho1, hg1⟩
  obtain ⟨A1, c1, rfl, hc1, hd1⟩ := ho1.rd
  have R1 := Lib.hid (R0.out.grown hg1)
  have G1 := Lib.hid (gb_some hg1 (some g))
  have O1 := Lib.hid ho1
  clear hd1 ho1 hg1
  go_wp2_with fail
  refine (pick_b _ _ p 20 R1.out (by omega) (by omega) (by omega)).mono ?_
  rintro e w2 ⟨x, hx0, hx1, rfl, hr2, hg2⟩
  have R2 := Lib.hid hr2
  have G2 := Lib.hid (gb_trans G1.out hg2)
  have O2 := Lib.hid (OwnInts.grown O1.out hg2 (fun b e => by injection e with e; have := HLT.out; omega))
  have hsz := G2.out.size
  clear hr2 hg2
  by_cases hx : x = 0
  · subst hx
    go_wp2_with (at_builtin; refine wpList_append_own _ rfl (.tmp 14) (.tmp 16) 34 rfl w.heap.size 3 i0 (.int .i64 0) 1 8 Tryz.underlying34 hi0 hz0 hz1 hz2 rfl (by decide) _ l.length (l.map (.int .i64)) rfl (World.ownsRow.alloc O2.out _) ⟨w2.heap.size, 0, none⟩ 1 1 [.int .i64 n] rfl rfl one_cell_new (one_cells rfl) (by unfold maxLen; omega) (by omega) (by simp; omega) ?_; intro v' w4 hown' hgrow _; have T1 := Lib.hid hown'; have T2 := Lib.hid hgrow; clear hown' hgrow)
    go_ret
    have HO := T1.out
    rw [show l.map (Value.int IntKind.i64) ++ [Value.int IntKind.i64 n] = (l ++ [n]).map (Value.int IntKind.i64) from by simp] at HO
    have hrow : ∀ b, (Value.slice A1 l.length c1).ownBlock = some b → w.heap.size ≤ b := fun b hb => (World.ownsRow.lt O2.out b hb).1
    have hlt := HLT.out
    refine ⟨v', l ++ [n], rfl, (show OwnInts .i64 3 w4 w.heap.size v' (l ++ [n]) from by simpa [OwnInts] using HO).tv, by simp, HBD.out.snoc HNB.out, ?_, gb_new (gb_alloc G2.out _) T2.out (fun b hb => .inl (hrow b hb))⟩
    exact ((R2.out.grown (World.grownBy_alloc _ _ none)).row T2.out (fun b hb => by have := hrow b hb; omega)).mono (by omega)
  · have HD := Lib.hid (OwnInts.tv O2.out)
    by_cases hx' : x = 1
    · subst hx'
      by_cases h0 : l.length = 0
      · have t0 : decide (0 < l.length) = false := decide_eq_false (by omega)
        have t0' : decide ((0 : Int) < (l.length : Int)) = false := decide_eq_false (by omega)
        have HH := Lib.hid h0
        clear h0
        go_wp2_with fail
        go_ret
        exact ⟨_, l, rfl, HD.out, by omega, HBD.out, R2.out.mono (by omega), G2.out⟩
      · have t0 : decide (0 < l.length) = true := decide_eq_true (by omega)
        have t0' : decide ((0 : Int) < (l.length : Int)) = true := decide_eq_true (by omega)
        have hr1 : RdInts .i64 w2 w.heap.size w2.heap.size (.slice A1 l.length c1) l := HD.out.1
        obtain ⟨A', c', e', hc', hd'⟩ := hr1
        injection e' with e1 e2 e3
        subst e1 e3
        have HD' := Lib.hid hd'
        clear hd'
        by_cases h1 : c1 = 1
        · go_wp2_with fail
          go_ret
          exact ⟨.slice A1 (l.length - 1) 0, [], rfl, ⟨⟨A1, 0, by rw [show l.length - 1 = 0 by omega]; rfl, Nat.zero_le _, Rd.nil_ _ _ _ _⟩, HD.out.2.cut⟩, by simp, Bd.nil, R2.out.mono (by omega), G2.out⟩
        · go_wp2_with fail
          go_ret
          have hf : TV w2 w.heap.size w2.heap.size (.slice (A1.map fun x => ⟨x.block, x.off + 1, none⟩) (l.length - 1) (c1 - 1)) (l.drop 1) := ⟨⟨_, c1 - 1, by rw [List.length_drop], by rw [List.length_drop]; omega, by rw [List.map_drop]; exact HD'.out.drop1⟩, HD.out.2.map1⟩
          exact ⟨_, l.drop 1, rfl, hf, by rw [List.length_drop]; omega, HBD.out.drop 1, R2.out.mono (by omega), G2.out⟩
    · by_cases hx2 : x = 2
      · subst hx2
        by_cases h0 : l.length = 0
        · have t0 : decide (0 < l.length) = false := decide_eq_false (by omega)
          have t0' : decide ((0 : Int) < (l.length : Int)) = false := decide_eq_false (by omega)
          have HH := Lib.hid h0
          clear h0
          go_wp2_with fail
          go_ret
          exact ⟨_, l, rfl, HD.out, by omega, HBD.out, R2.out.mono (by omega), G2.out⟩
        · have t0 : decide (0 < l.length) = true := decide_eq_true (by omega)
          have t0' : decide ((0 : Int) < (l.length : Int)) = true := decide_eq_true (by omega)
          go_wp2_with fail
          refine (pick_b _ _ (p + 1) _ R2.out (by omega) (by omega) (by omega)).mono ?_
          rintro e w3 ⟨y, hy0, hy1, rfl, hr3, hg3⟩
          have R3 := Lib.hid hr3
          have G3 := Lib.hid (gb_trans G2.out hg3)
          have O3 := Lib.hid (OwnInts.grown O2.out hg3 (fun b e => by injection e with e; have := HLT.out; omega))
          clear hr3 hg3
          go_wp2_with fail
          refine (one_b _ _ (p + 1 + 1) _ [-1, n, 0, 1] (R3.out.grown (World.grownBy_alloc _ _ _)) (by omega) (by simp) (by simp) ((RdInts.lit .i64 w3 R3.out.lt _ _ rfl).wide (by omega) (by simp))).mono ?_
          rintro e w4 ⟨z, hz, rfl, hr4, hg4⟩
          have R4 := Lib.hid hr4
          have G4 := Lib.hid (gb_trans (gb_alloc G3.out _) hg4)
          have O4 := (OwnInts.grown (OwnInts.grown O3.out (World.grownBy_alloc w3 (.cells #[.int .i64 (-1), .int .i64 n, .int .i64 0, .int .i64 1] 3) none) (by simp)) hg4 (fun b e => by injection e with e; have := HLT.out; omega))
          have HZ : Hid (-1000 ≤ z ∧ z ≤ 1000) := Lib.hid (by have := HNB.out; simp only [List.mem_cons, List.not_mem_nil, or_false] at hz; omega)
          clear hr4 hg4 hz
          obtain ⟨b, rfl, hb1, hb2, hb3⟩ := own_form' O4 (by omega)
          obtain ⟨j, rfl⟩ := Int.eq_ofNat_of_zero_le hy0
          have hjl : j < l.length := by omega
          have f1 : w4.frozen? ⟨b, j, none⟩ = false := World.ownsRow.frozenAt O4 j
          have d1 : w4.cell? ⟨b, j, none⟩ = some (.int .i64 l[j]) := by
            rw [World.ownsRow.cellAt O4 j (by omega)]; simp [hjl]
          have HS := Lib.hid (World.ownsRow.stored O4 j (.int .i64 z))
          generalize l[j] = lj at *
          clear O4
          go_wp2_with fail
          go_ret
          have hS := HS.out.1
          rw [← List.map_set] at hS
          have hlt := HLT.out
          have hlen : (l.set j z).length = l.length := List.length_set ..
          have hO : OwnInts .i64 3 (w4.setCell ⟨b, j, none⟩ (.int .i64 z)) w.heap.size (.slice (some ⟨b, 0, none⟩) l.length c1) (l.set j z) := by unfold OwnInts; rw [hlen]; exact hS
          exact ⟨_, l.set j z, rfl, OwnInts.tv hO, by rw [hlen]; omega, HBD.out.set j HZ.out, R4.out.row HS.out.2 (fun k e => by injection e with e; omega), gb_setCell G4.out (.inl hb1) _⟩
      · have t0 : (x == 0) = false := beq_eq_false_iff_ne.2 hx
        have t1 : (x == 1) = false := beq_eq_false_iff_ne.2 hx'
        have t2 : (x == 2) = false := beq_eq_false_iff_ne.2 hx2
        go_wp2_with fail
        go_ret
        exact ⟨_, l, rfl, HD.out, by omega, HBD.out, R2.out.mono (by omega), G2.out⟩

theorem anyVec_b (w : World) (g p : Nat) (hr : RdrB w g p) (hp : p ≤ 900000) :
    Calls Tryz.prog 21 #[.pointer (some ⟨g, 0, none⟩)] w (SpoilB w g (p + 16) 5) := by
  have R0 := Lib.hid hr
  have HLT := Lib.hid hr.lt
  clear hr
  go_enter Tryz.func21, Tryz.ntmps21
  go_wp2_with fail
  refine (pick_b _ _ p 10 R0.out (by omega) (by omega) (by omega)).mono ?_
  rintro e w1 ⟨x, hx0, hx1, rfl, hr1, hg1⟩
  have R1 := Lib.hid hr1
  have hsz := hg1.size
  have G1 := Lib.hid hg1
  clear hr1 hg1
  by_cases hx : x = 0
  · subst hx
    go_wp2_with fail
    refine (vector_b _ _ (p + 1) R1.out (by omega)).mono ?_
    rintro e w2 ⟨v, l, rfl, ho, hl, hbd, hr2, hg2⟩
    have R2 := Lib.hid hr2
    have G2 := Lib.hid (gb_trans G1.out hg2)
    have D2 := Lib.hid (ho.rd.wide (lo' := g + 1) (by have := HLT.out; omega) (Nat.le_refl _))
    have HL := Lib.hid hl
    have HBD := Lib.hid hbd
    clear hr2 hg2 ho hl hbd
    go_wp2_with fail
    refine (spoil_b _ _ (p + 1 + 12) v l 101 R2.out (by omega) (by omega) HBD.out (by have := HL.out; omega) D2.out).mono ?_
    rintro e w3 ⟨v3, l3, rfl, hd3, hl3, hb3, hr3, hg3⟩
    have hz := G2.out.size
    have R3 := Lib.hid hr3
    have G3 := Lib.hid (gb_trans G2.out hg3)
    have D3 := Lib.hid hd3
    have B3 := Lib.hid hb3
    have hL := HL.out
    clear hr3 hg3 hd3 hb3 HL
    go_wp2_with fail
    go_ret
    exact ⟨v3, l3, rfl, D3.out.wide (by omega) (Nat.le_refl _), by omega, B3.out, R3.out.mono (by omega), G3.out⟩
  · have t0 : (x == 0) = false := beq_eq_false_iff_ne.2 hx
    go_wp2_with fail
    refine (vector_b _ _ (p + 1) R1.out (by omega)).mono ?_
    rintro e w2 ⟨v, l, rfl, ho, hl, hbd, hr2, hg2⟩
    have R2 := Lib.hid hr2
    have G2 := Lib.hid (gb_trans G1.out hg2)
    have D2 := Lib.hid ho.tv
    have HL := Lib.hid hl
    have HBD := Lib.hid hbd
    clear hr2 hg2 ho hl hbd
    go_wp2_with fail
    go_ret
    exact ⟨v, l, rfl, D2.out.wide (by omega) (Nat.le_refl _), by have := HL.out; omega, HBD.out, R2.out.mono (by omega), G2.out⟩

/-! texts -/
/-- a text of at most m bytes was made -/
def TextGot (w : World) (m : Nat) (e : Ending) (w' : World) : Prop := ∃ t : List UInt8, t.length ≤ m ∧ e = .returned (.string (tb t)) ∧ w.grownBy w' none
theorem decimal_b (n : Int) (h : -1000 ≤ n ∧ n ≤ 1000) (w : World) : Calls Tryz.prog 18 #[.int .i64 n] w (TextGot w 21) :=
  (decimal_any n (by omega) w).mono fun e w' ⟨he, hg⟩ => ⟨Lib.itoa n, Lib.itoa_length_le n (by omega) (by omega), he, hg⟩
theorem vecText_b (w : World) (v : Value) (l : List Int) (hl : l.length ≤ 5) (hb : Bd l) (hv : RdInts .i64 w 0 w.heap.size v l) :
    Calls Tryz.prog 19 #[v] w (TextGot w 120) := by
  obtain ⟨A, c, rfl, hc, hrd⟩ := hv
  obtain ⟨n, hn⟩ : ∃ n, n = l.length := ⟨_, rfl⟩
  rw [← hn] at hl ⊢
  have HN := Lib.hid hn
  have HB := Lib.hid hb
  have HD := Lib.hid hrd
  have h00 : tb [] = (⟨#[]⟩ : ByteArray) := rfl
  clear hn hb hrd hc
  go_enter Tryz.func19, Tryz.ntmps19
  go_wp2_with fail
  go_loopw [3, 4] (fun v iv wr => ∃ (k : Nat) (t : List UInt8), k ≤ n ∧ v = .string (tb t) ∧ t.length ≤ 22 * k ∧ iv = .int .i64 k ∧ w.grownBy wr none) (fun _ i _ => n - (intOf i).toNat)
  case atStart => exact ⟨0, [], Nat.zero_le _, rfl, by simp, rfl, gb_refl _ _⟩
  case round =>
    obtain ⟨k, t, hk, rfl, ht, rfl, hg⟩ := hrel
    have G := Lib.hid hg
    have HT := Lib.hid ht
    by_cases hlt : k < n
    · have hkl : k < l.length := by rw [← HN.out]; exact hlt
      obtain ⟨b, o, rfl, _, hbh, hcell⟩ := HD.out.at_ (j := k) (u := .int .i64 l[k]) (by simp [hkl])
      have hcell := World.grownBy.cell (a := ⟨b, o + k, none⟩) hg (v := .int .i64 l[k]) hcell (by simp)
      have hx := HB.out _ (List.getElem_mem hkl)
      have kn : (k : Int) < n := by omega
      have k0 : (0 : Int) ≤ k := by omega
      generalize l[k] = x at *
      have HC := Lib.hid (fun W => decimal_b x hx W)
      clear hg h00 hx hkl hbh
      by_cases hk0 : 0 < k
      · have tk0 : (0 : Int) < k := by omega
        have hadd := fun W => tb_add Tryz.prog W t [44] (by simp only [List.length_cons, List.length_nil]; omega)
        rw [show tb [44] = (⟨#[44]⟩ : ByteArray) from rfl] at hadd
        have HT2 : Hid ((t ++ [44]).length ≤ 22 * k + 1) := Lib.hid (by simp only [List.length_append, List.length_cons, List.length_nil]; omega)
        generalize t ++ [44] = t2 at *
        clear ht
        generalize tb t = X at *
        obtain ⟨X2, hX2⟩ : ∃ X2, X2 = tb t2 := ⟨_, rfl⟩
        rw [← hX2] at hadd
        have HX2 := Lib.hid hX2
        clear hX2
        go_wp2_with fail
        refine (HC.out _).mono ?_
        rintro e w2 ⟨y, hy, rfl, hg⟩
        have G2 := Lib.hid (gb_trans G.out hg)
        have HY := Lib.hid hy
        have hadd2 := fun W => tb_add Tryz.prog W t2 y (by have := HT2.out; omega)
        rw [← HX2.out] at hadd2
        clear hg hy
        have HT3 : Hid ((t2 ++ y).length ≤ 22 * (k + 1)) := Lib.hid (by have := HT2.out; have := HY.out; simp only [List.length_append]; omega)
        generalize t2 ++ y = t3 at *
        generalize tb y = Y at *
        obtain ⟨X3, hX3⟩ : ∃ X3, X3 = tb t3 := ⟨_, rfl⟩
        rw [← hX3] at hadd2
        have HX3 := Lib.hid hX3
        clear hX3
        go_wp2_with fail
        go_roundw
        case rel => exact ⟨k + 1, t3, by omega, by rw [HX3.out], HT3.out, by go_num, G2.out⟩
        case measure => simp [intOf]; omega
      · have hz : decide ((0 : Int) < (k : Int)) = false := decide_eq_false (by omega)
        have hz' : decide (0 < k) = false := decide_eq_false (by omega)
        clear ht
        obtain ⟨X, hX⟩ : ∃ X, X = tb t := ⟨_, rfl⟩
        have HX := Lib.hid hX
        rw [← hX]
        clear hX
        go_wp2_with fail
        refine (HC.out _).mono ?_
        rintro e w2 ⟨y, hy, rfl, hg⟩
        have G2 := Lib.hid (gb_trans G.out hg)
        have HY := Lib.hid hy
        have hadd2 := fun W => tb_add Tryz.prog W t y (by have := HT.out; omega)
        rw [← HX.out] at hadd2
        clear hg hy
        have HT3 : Hid ((t ++ y).length ≤ 22 * (k + 1)) := Lib.hid (by have := HT.out; have := HY.out; simp only [List.length_append]; omega)
        generalize t ++ y = t3 at *
        generalize tb y = Y at *
        obtain ⟨X3, hX3⟩ : ∃ X3, X3 = tb t3 := ⟨_, rfl⟩
        rw [← hX3] at hadd2
        have HX3 := Lib.hid hX3
        clear hX3
        go_wp2_with fail
        go_roundw
        case rel => exact ⟨k + 1, t3, by omega, by rw [HX3.out], HT3.out, by go_num, G2.out⟩
        case measure => simp [intOf]; omega
    · obtain rfl : k = n := by omega
      go_wp2_with fail
      go_ret
      exact ⟨t, by omega, rfl, G.out⟩

/-- one of the texts of a list was chosen -/
def TextDrawn (w : World) (g p : Nat) (L : List (List UInt8)) (e : Ending) (w' : World) : Prop := ∃ t ∈ L, e = .returned (.string (tb t)) ∧ RdrB w' g p ∧ w.grownBy w' (some g)
theorem of_walk (w : World) (g p N b o c : Nat) (hr : RdrB w g p) (hp : p ≤ 1000000) (h1 : 1 ≤ N) (h2 : N ≤ 1000000) (hb : g < b) (V : Nat → ByteArray)
    (hc : ∀ w', w.grownBy w' (some g) → ∀ k, k < N → w'.cell? ⟨b, o + k, none⟩ = some (.string (V k))) :
    Calls Tryz.prog 22 #[.pointer (some ⟨g, 0, none⟩), .slice (some ⟨b, o, none⟩) N c] w fun e w' => ∃ k, k < N ∧ e = .returned (.string (V k)) ∧ RdrB w' g (p + 1) ∧ w.grownBy w' (some g) := by
  have HC := Lib.hid hc
  have HR := Lib.hid hr
  clear hc hr
  go_enter Tryz.func22, Tryz.ntmps22
  go_wp2_with (go_at_call 17; refine (pick_b _ g p (N : Int) HR.out hp (by omega) (by omega)).mono ?_; rintro e w1 ⟨v, hv0, hv1, rfl, hr1, hg1⟩; have hcell := HC.out w1 hg1 v.toNat (by omega); have HG := Lib.hid hg1; have HR1 := Lib.hid hr1; clear hg1 hr1)
  go_ret
  exact ⟨v.toNat, by omega, rfl, HR1.out, HG.out⟩
theorem of_b (w : World) (g p : Nat) (A : Option Addr) (n c : Nat) (L : List (List UInt8)) (hn : n = L.length) (hr : RdrB w g p) (hp : p ≤ 1000000) (h1 : L ≠ []) (h2 : L.length ≤ 1000000) (hrd : Rd w (g + 1) w.heap.size A (L.map fun x => .string (tb x))) :
    Calls Tryz.prog 22 #[.pointer (some ⟨g, 0, none⟩), .slice A n c] w (TextDrawn w g (p + 1) L) := by
  subst hn
  obtain ⟨b, o, rfl, hb1, hb2, hcell⟩ := hrd (by simpa using h1)
  have hpos : 0 < L.length := List.length_pos_iff.2 h1
  refine (of_walk w g p L.length b o c hr hp hpos h2 hb1 (fun k => tb (L.getD k [])) (fun w' hg k hk => ?_)).mono ?_
  · rw [(Agree.of_grown_some hg).cell (p := ⟨b, o + k, none⟩) hb1 hb2, hcell k (.string (tb (L.getD k []))) (by simp [hk])]
  · rintro e w' ⟨k, hk, rfl, h3, h4⟩
    refine ⟨_, ?_, rfl, h3, h4⟩
    show L.getD k [] ∈ L
    have hg : L.getD k [] = L[k] := by simp [hk]
    rw [hg]
    exact List.getElem_mem hk
theorem Rd.litT {w : World} {g lo hi : Nat} (hg : g = w.heap.size) (hlo : lo ≤ g) (hhi : g < hi) (t : TypeId) (L : List (List UInt8)) {cs : Array Value} (hcs : cs.toList = L.map fun x => .string (tb x)) :
    Rd (w.alloc (.cells cs t)) lo hi (some ⟨g, 0, none⟩) (L.map fun x => .string (tb x)) := by
  subst hg
  refine fun _ => ⟨_, _, rfl, hlo, hhi, fun j u hu => ?_⟩
  rw [← hcs] at hu
  rw [cell_of_row _ _ _ cs t (0, 0) (heap_alloc_new w _)]
  simpa using hu
end Go.Proofs.YtibbpbbgmgdpdaaGreatDoor

namespace Go.Proofs.YtibbpbbgmgdpdaaGreatDoor
open Go.RowKit
set_option linter.unusedVariables false
set_option linter.unusedSimpArgs false
set_option maxRecDepth 100000

/-- a line was changed -/
def LineDrawn (w : World) (g p m : Nat) (e : Ending) (w' : World) : Prop := ∃ t : List UInt8, t.length ≤ m ∧ e = .returned (.string (tb t)) ∧ RdrB w' g p ∧ w.grownBy w' (some g)
def L8 : List (List UInt8) := [[48], [49], [32], [45], [44], [112], [110], [57]]
def L6 : List (List UInt8) := [[48], [32], [112, 117, 116], [44, 49], [120], [110, 101, 97, 114]]
theorem L8_le : ∀ t ∈ L8, t.length ≤ 4 := by decide
theorem L6_le : ∀ t ∈ L6, t.length ≤ 4 := by decide
set_option maxHeartbeats 1000000 in
theorem mutate_b (w : World) (g p : Nat) (l : List UInt8) (hr : RdrB w g p) (hp : p ≤ 900000) (hl : l.length ≤ 100000) :
    Calls Tryz.prog 23 #[.pointer (some ⟨g, 0, none⟩), .string (tb l)] w (LineDrawn w g (p + 3) (l.length + 5)) := by
  obtain ⟨n, hn⟩ : ∃ n, n = l.length := ⟨_, rfl⟩
  have hsz : (tb l).size = n := by rw [tb_size, hn]
  have HX := Lib.hid (fun a b => tb_extract l a b)
  have HS : Hid (∃ S, S = tb l) := Lib.hid ⟨_, rfl⟩
  have HN := Lib.hid hn
  have R0 := Lib.hid hr
  have HLT := Lib.hid hr.lt
  rw [← hn] at hl ⊢
  clear hn hr HS
  obtain ⟨S, hS⟩ : ∃ S, S = tb l := ⟨_, rfl⟩
  rw [← hS] at hsz HX ⊢
  have HSS := Lib.hid hS
  clear hS
  go_enter Tryz.func23, Tryz.ntmps23
  go_wp2_with fail
  refine (pick_b _ _ p _ R0.out (by omega) (by omega) (by omega)).mono ?_
  rintro e w1 ⟨k, hk0, hk1, rfl, hr1, hg1⟩
  obtain ⟨k, rfl⟩ := Int.eq_ofNat_of_zero_le hk0
  have R1 := Lib.hid hr1
  have G1 := Lib.hid hg1
  have hkn : k ≤ n := by omega
  clear hr1 hg1
  go_wp2_with fail
  refine (pick_b _ _ (p + 1) 5 R1.out (by omega) (by omega) (by omega)).mono ?_
  rintro e w2 ⟨x, hx0, hx1, rfl, hr2, hg2⟩
  have R2 := Lib.hid hr2
  have G2 := Lib.hid (gb_trans G1.out hg2)
  have hlt2 := Lib.hid hr2.lt
  clear hr2 hg2
  by_cases hx : x = 0
  · subst hx
    by_cases hlt : k < n
    · have kn : (k : Int) < n := by omega
      have kw : IntKind.i64.wrap ((k : Int) + 1) = (k : Int) + 1 := IntWalk.i64_in _ (by omega)
      have kn0 : (0 : Int) ≤ (k : Int) + 1 := by omega
      have kn1 : (k : Int) + 1 ≤ n := by omega
      have kt : ((k : Int) + 1).toNat = k + 1 := by omega
      have he1 := HX.out 0 k
      have he2 := HX.out (k + 1) n
      have HE1 : Hid (((l.take k).drop 0).length ≤ k) := Lib.hid (by simp only [List.drop_zero, List.length_take]; omega)
      have HE2 : Hid (((l.take n).drop (k + 1)).length ≤ n - (k + 1)) := Lib.hid (by simp only [List.length_drop, List.length_take]; omega)
      generalize (l.take k).drop 0 = la at *
      generalize (l.take n).drop (k + 1) = lb at *
      have HO : Hid (∀ V, (w2.alloc (.cells #[.string ⟨#[48]⟩, .string ⟨#[49]⟩, .string ⟨#[32]⟩, .string ⟨#[45]⟩, .string ⟨#[44]⟩, .string ⟨#[112]⟩, .string ⟨#[110]⟩, .string ⟨#[57]⟩] 9)).grownBy V none → Calls Tryz.prog 22 #[.pointer (some ⟨g, 0, none⟩), .slice (some ⟨w2.heap.size, 0, none⟩) 8 8] V (fun e w' => ∃ t ∈ L8, e = .returned (.string (tb t)) ∧ RdrB w' g (p + 3) ∧ w.grownBy w' (some g))) := Lib.hid (fun V hV => by
        have hD : Rd (w2.alloc (.cells #[.string ⟨#[48]⟩, .string ⟨#[49]⟩, .string ⟨#[32]⟩, .string ⟨#[45]⟩, .string ⟨#[44]⟩, .string ⟨#[112]⟩, .string ⟨#[110]⟩, .string ⟨#[57]⟩] 9)) (g + 1) (w2.heap.size + 1) (some ⟨w2.heap.size, 0, none⟩) (L8.map fun x => .string (tb x)) := Rd.litT rfl hlt2.out (Nat.lt_succ_self _) 9 L8 rfl
        have hz := hV.size
        have hz2 : (w2.alloc (.cells #[.string ⟨#[48]⟩, .string ⟨#[49]⟩, .string ⟨#[32]⟩, .string ⟨#[45]⟩, .string ⟨#[44]⟩, .string ⟨#[112]⟩, .string ⟨#[110]⟩, .string ⟨#[57]⟩] 9)).heap.size = w2.heap.size + 1 := by simp
        have hD2 := (hD.keep hV (by omega)).wide (Nat.le_refl _) (show w2.heap.size + 1 ≤ V.heap.size by omega)
        refine (of_b V g (p + 2) _ 8 8 L8 rfl ((R2.out.grown (World.grownBy_alloc _ _ _)).grown hV) (by omega) (by simp [L8]) (by simp [L8]) hD2).mono ?_
        rintro e w3 ⟨t, ht, rfl, hr3, hg3⟩
        exact ⟨t, ht, rfl, hr3, gb_trans (gb_trans (gb_alloc G2.out _) (gb_some hV (some g))) hg3⟩)
      go_wp2_with fail
      go_region_law
        (first
          | (go_simp; go_at_call 22; refine Calls.mono (HO.out _ (gb_drew (gb_refl _ none))) ?_; rintro e w5 ⟨t, ht, rfl, hr3, hg3⟩; have R3 := Lib.hid hr3; have G3 := Lib.hid hg3; have HT := Lib.hid (L8_le t ht); have hadd1 := fun W => tb_add Tryz.prog W la t (by have := HT.out; have := HE1.out; omega); have hadd2 := fun W => tb_add Tryz.prog W (la ++ t) lb (by have := HT.out; have := HE1.out; have := HE2.out; rw [List.length_append]; omega); clear hr3 hg3 ht)
          | fail)
      all_goals
        go_wp2_with fail
        go_ret
        exact ⟨la ++ (t ++ lb), by have := HT.out; have := HE1.out; have := HE2.out; simp only [List.length_append]; omega, rfl, R3.out, G3.out⟩
    · have kn : ¬ (k : Int) < n := by omega
      go_wp2_with fail
      go_ret
      exact ⟨l, by have := HN.out; omega, congrArg (fun s => Ending.returned (Value.string s)) HSS.out, R2.out.mono (by omega), G2.out⟩
  · by_cases hx' : x = 1
    · subst hx'
      have he1 := HX.out 0 k
      go_wp2_with fail
      go_ret
      exact ⟨_, by simp only [List.drop_zero, List.length_take]; omega, rfl, R2.out.mono (by omega), G2.out⟩
    · by_cases hx2 : x = 2
      · subst hx2
        go_wp2_with fail
        have hD : Rd (w2.alloc (.cells (L6.map fun x => Value.string (tb x)).toArray 9)) (g + 1) (w2.heap.size + 1) (some ⟨w2.heap.size, 0, none⟩) (L6.map fun x => .string (tb x)) := Rd.litT rfl hlt2.out (Nat.lt_succ_self _) 9 L6 rfl
        refine (of_b _ g (p + 2) _ 6 6 L6 rfl (R2.out.grown (World.grownBy_alloc _ _ _)) (by omega) (by simp [L6]) (by simp [L6]) (hD.wide (Nat.le_refl _) (by simp))).mono ?_
        rintro e w3 ⟨t, ht, rfl, hr3, hg3⟩
        have R3 := Lib.hid hr3
        have G3 := Lib.hid (gb_trans (gb_alloc G2.out _) hg3)
        have HT := Lib.hid (L6_le t ht)
        have hadd := fun W => tb_add Tryz.prog W l t (by have := HT.out; have := HN.out; omega)
        rw [← HSS.out] at hadd
        clear hr3 hg3 ht hD
        go_wp2_with fail
        go_ret
        exact ⟨l ++ t, by have := HT.out; have := HN.out; rw [List.length_append]; omega, rfl, R3.out, G3.out⟩
      · have t0 : (x == 0) = false := beq_eq_false_iff_ne.2 hx
        have t1 : (x == 1) = false := beq_eq_false_iff_ne.2 hx'
        have t2 : (x == 2) = false := beq_eq_false_iff_ne.2 hx2
        go_wp2_with fail
        go_ret
        exact ⟨l, by have := HN.out; omega, congrArg (fun s => Ending.returned (Value.string s)) HSS.out, R2.out.mono (by omega), G2.out⟩
end Go.Proofs.YtibbpbbgmgdpdaaGreatDoor

namespace Go.Proofs.YtibbpbbgmgdpdaaGreatDoor
open Go.RowKit
set_option linter.unusedVariables false
set_option linter.unusedSimpArgs false
set_option maxRecDepth 100000

def L13 : List (List UInt8) := [[100, 114, 111, 112, 32, 51], [100, 114, 111, 112, 32, 55], [100, 114, 111, 112, 32, 57], [107, 105, 110, 100, 32, 50], [107, 105, 110, 100, 32, 51], [107, 105, 110, 100, 32, 53], [112, 97, 105, 114], [99, 111, 117, 110, 116], [110, 101, 97, 114, 32, 49, 44, 50, 32, 49], [112, 117, 116, 32, 49, 32, 120, 32, 48], [], [104, 101, 108, 112], [107, 105, 110, 100, 32, 52]]
def L2 : List (List UInt8) := [[112, 117, 116, 32, 51, 32, 49, 44, 50, 44, 51, 44, 52, 32, 49], [112, 117, 116, 32, 55, 32, 45, 53, 44, 48, 44, 49, 48, 44, 50, 32, 48]]
theorem L13_le : ∀ t ∈ L13, t.length ≤ 10 := by decide
theorem L2_le : ∀ t ∈ L2, t.length ≤ 900 := by decide
theorem cat_any (a b : List UInt8) (m : Nat) (h : a.length + b.length ≤ m) (hm : m ≤ 1000000) : ∃ t : List UInt8, t.length ≤ m ∧ ∀ W, (Op.stringOp .add (tb a) (tb b)).run Tryz.prog W = .ok (.string (tb t)) W :=
  ⟨a ++ b, by rw [List.length_append]; exact h, fun W => tb_add Tryz.prog W a b (by omega)⟩
/-- lines were drawn -/
def LinesDrawn (w : World) (e : Ending) (w' : World) : Prop :=
  ∃ (ls : List (List UInt8)) (A : Option Addr) (c : Nat), e = .returned (.slice A ls.length c) ∧ ls.length ≤ c ∧ ls.length ≤ 18 ∧ (∀ x ∈ ls, x.length ≤ 1000) ∧ SeesT w' A ls ∧ w.grownBy w' none
theorem all_push {ls : List (List UInt8)} {y : List UInt8} {m : Nat} (h : ∀ x ∈ ls, x.length ≤ m) (hy : y.length ≤ m) : ∀ x ∈ ls ++ [y], x.length ≤ m := fun x hx => by
  rw [List.mem_append, List.mem_singleton] at hx
  rcases hx with hx | rfl
  · exact h x hx
  · exact hy
theorem all_set {ls : List (List UInt8)} {y : List UInt8} {m m' : Nat} {k : Nat} (h : ∀ x ∈ ls, x.length ≤ m) (hm : m ≤ m') (hy : y.length ≤ m') : ∀ x ∈ ls.set k y, x.length ≤ m' := fun x hx => by
  rcases List.mem_or_eq_of_mem_set hx with hx | rfl
  · exact Nat.le_trans (h x hx) hm
  · exact hy
theorem OwnT.lit {w : World} {lo : Nat} (hlo : lo ≤ w.heap.size) (L : List (List UInt8)) (hL : L.length ≤ 1000) {cs : Array Value} (hcs : cs = (L.map fun x => Value.string (tb x)).toArray) {n : Nat} (hn : n = L.length) : OwnT (w.alloc (.cells cs 9)) lo (.slice (some ⟨w.heap.size, 0, none⟩) n n) L := by
  subst hcs hn
  have hR : Row (w.alloc (.cells (L.map fun x => Value.string (tb x)).toArray 9)) w.heap.size 9 (L.map fun x => .string (tb x)) := Row.new w 9 (by simp)
  have hO := hR.owns (base := lo) (n := L.length) (cap := L.length) (size := 1) hlo (Nat.le_refl _) (by unfold maxLen; omega) (by simp)
  rw [List.take_of_length_le (by simp)] at hO
  exact hO
set_option maxHeartbeats 2000000 in
theorem drawLines_any (w : World) (A : Option Addr) (c : Nat) (bs : List Int) (h2 : bs.length ≤ c) (hb : bs.length ≤ 1048576) (h3 : ∀ x ∈ bs, 0 ≤ x ∧ x ≤ 255) (h4 : Rd w 0 w.heap.size A (bs.map (.int .u8))) :
    Calls Tryz.prog 9 #[.slice A bs.length c] w (LinesDrawn w) := by
  obtain ⟨i0, hi0, hz0, hz1, hz2⟩ := info_parts info_string
  have H2 := Lib.hid h2
  have HB := Lib.hid hb
  have H3 := Lib.hid h3
  have H4 := Lib.hid h4
  clear h2 hb h3 h4
  go_enter Tryz.func9, Tryz.ntmps9
  go_wp2_with fail
  refine (newReader_any _ A c bs H2.out HB.out H3.out H4.out).mono ?_
  rintro e W ⟨rfl, hr, hg⟩
  have hlt := hr.lt
  have O0 := Lib.hid (OwnT.lit (w := W) (lo := w.heap.size + 1) (by omega) L2 (by decide) (cs := #[.string ⟨#[112, 117, 116, 32, 51, 32, 49, 44, 50, 44, 51, 44, 52, 32, 49]⟩, .string ⟨#[112, 117, 116, 32, 55, 32, 45, 53, 44, 48, 44, 49, 48, 44, 50, 32, 48]⟩]) rfl (n := 2) rfl)
  have R0 := Lib.hid (show RdrB W w.heap.size 0 from ⟨0, Nat.le_refl _, hr⟩)
  have G0 := Lib.hid hg
  have HLT := Lib.hid hlt
  have hz := World.grownBy_alloc W (.cells #[.string ⟨#[112, 117, 116, 32, 51, 32, 49, 44, 50, 44, 51, 44, 52, 32, 49]⟩, .string ⟨#[112, 117, 116, 32, 55, 32, 45, 53, 44, 48, 44, 49, 48, 44, 50, 32, 48]⟩] 9) none
  replace R0 := Lib.hid (R0.out.grown hz)
  replace G0 := Lib.hid (gb_trans hg hz)
  have HLT := Lib.hid (show w.heap.size + 1 ≤ (W.alloc (.cells #[.string ⟨#[112, 117, 116, 32, 51, 32, 49, 44, 50, 44, 51, 44, 52, 32, 49]⟩, .string ⟨#[112, 117, 116, 32, 55, 32, 45, 53, 44, 48, 44, 49, 48, 44, 50, 32, 48]⟩] 9)).heap.size by simp; omega)
  clear hr hg H2 HB H3 H4 hlt hz
  obtain ⟨a0, ha0⟩ : ∃ a0, a0 = W.heap.size := ⟨_, rfl⟩
  rw [← ha0] at O0
  have HV1 := Lib.hid (show a0 + 1 = (W.alloc (.cells #[.string ⟨#[112, 117, 116, 32, 51, 32, 49, 44, 50, 44, 51, 44, 52, 32, 49]⟩, .string ⟨#[112, 117, 116, 32, 55, 32, 45, 53, 44, 48, 44, 49, 48, 44, 50, 32, 48]⟩] 9)).heap.size by rw [ha0]; simp)
  go_wp2_with fail
  rw [← ha0]
  generalize W.alloc (.cells #[.string ⟨#[112, 117, 116, 32, 51, 32, 49, 44, 50, 44, 51, 44, 52, 32, 49]⟩, .string ⟨#[112, 117, 116, 32, 55, 32, 45, 53, 44, 48, 44, 49, 48, 44, 50, 32, 48]⟩] 9) = V at *
  refine (one_b (V.alloc (.cells #[.int .i64 5, .int .i64 8, .int .i64 10, .int .i64 3, .int .i64 0, .int .i64 16] 3)) _ 0 _ [5, 8, 10, 3, 0, 16] (R0.out.grown (World.grownBy_alloc V _ none)) (by omega) (by simp) (by simp) (RdInts.lit_at .i64 (w := V) HV1.out (by have := HLT.out; have := HV1.out; omega) (by have := HV1.out; simp; omega) 3 [5, 8, 10, 3, 0, 16] rfl rfl)).mono ?_
  rintro e W1 ⟨n, hn, rfl, hr, hg⟩
  have hnb : 0 ≤ n ∧ n ≤ 16 := by simp only [List.mem_cons, List.not_mem_nil, or_false] at hn; omega
  have R := Lib.hid hr
  have O := Lib.hid (OwnT.grown (O0.out.on (World.grownBy_alloc V (.cells #[.int .i64 5, .int .i64 8, .int .i64 10, .int .i64 3, .int .i64 0, .int .i64 16] 3) none)) hg (own_ge (O0.out.on (World.grownBy_alloc V (.cells #[.int .i64 5, .int .i64 8, .int .i64 10, .int .i64 3, .int .i64 0, .int .i64 16] 3) none)) (fun b e => by injection e with e; omega)))
  have G := Lib.hid (gb_new (gb_alloc G0.out (.cells #[.int .i64 5, .int .i64 8, .int .i64 10, .int .i64 3, .int .i64 0, .int .i64 16] 3)) hg (fun b e => .inl (by injection e with e; omega)))
  clear hr hg hn O0 G0 R0
  obtain ⟨hn0, hn1⟩ := hnb
  obtain ⟨m, rfl⟩ := Int.eq_ofNat_of_zero_le hn0
  have hm : m ≤ 16 := by omega
  clear hn0 hn1
  go_wp2_with fail
  go_loopw [4, 5] (fun v nv wr => ∃ (k : Nat) (ls : List (List UInt8)), nv = .int .i64 k ∧ k ≤ 16 ∧ ls.length + k ≤ 18 ∧ 2 ≤ ls.length ∧ (∀ x ∈ ls, x.length ≤ 900) ∧ OwnT wr (w.heap.size + 1) v ls ∧ RdrB wr w.heap.size (1 + 20 * (16 - k)) ∧ w.grownBy wr none) (fun _ nv _ => (intOf nv).toNat)
  case atStart => exact ⟨m, L2, rfl, hm, by simp [L2]; omega, by simp [L2], L2_le, by rw [← ha0]; exact O.out, R.out.mono (by omega), G.out⟩
  case round =>
    obtain ⟨k, ls, rfl, hk, hls, hl2, hall, ho, hr, hg⟩ := hrel
    replace O := Lib.hid ho
    replace R := Lib.hid hr
    replace G := Lib.hid hg
    have HA := Lib.hid hall
    have hls18 : ls.length ≤ 18 := by omega
    clear ho hr hg hall
    by_cases hk0 : 0 < k
    · have tk0 : (0 : Int) < k := by omega
      go_wp2_with fail
      refine (pick_b _ _ _ 4 R.out (by omega) (by omega) (by omega)).mono ?_
      rintro e W ⟨x, hx0, hx1, rfl, hr, hg⟩
      replace O := Lib.hid (OwnT.grown O.out hg (own_ge O.out (fun b e => by injection e with e; omega)))
      replace R := Lib.hid hr
      replace G := Lib.hid (gb_new G.out hg (fun b e => .inl (by injection e with e; omega)))
      clear hr hg
      by_cases hx : x = 0
      · subst hx
        go_wp2_with fail
        refine (pick_b _ _ _ 12 R.out (by omega) (by omega) (by omega)).mono ?_
        rintro e W ⟨y, hy0, hy1, rfl, hr, hg⟩
        replace O := Lib.hid (OwnT.grown O.out hg (own_ge O.out (fun b e => by injection e with e; omega)))
        replace R := Lib.hid hr
        replace G := Lib.hid (gb_new G.out hg (fun b e => .inl (by injection e with e; omega)))
        clear hr hg
        have wy : IntKind.i64.wrap (1 + y) = 1 + y := IntWalk.i64_in _ (by omega)
        go_wp2_with fail
        refine (decimal_b (1 + y) (by omega) _).mono ?_
        rintro e W ⟨y1, hy1', rfl, hg⟩
        replace O := Lib.hid (OwnT.on O.out hg)
        replace R := Lib.hid (R.out.grown hg)
        replace G := Lib.hid (gb_trans G.out hg)
        clear hg
        obtain ⟨t1, b1, k1⟩ : ∃ t : List UInt8, t.length ≤ 25 ∧ ∀ W, (Op.stringOp .add ⟨#[112, 117, 116, 32]⟩ (tb y1)).run Tryz.prog W = .ok (.string (tb t)) W := cat_any [112, 117, 116, 32] y1 25 (by simp only [List.length_cons, List.length_nil]; omega) (by omega)
        obtain ⟨t2, b2, k2⟩ : ∃ t : List UInt8, t.length ≤ 26 ∧ ∀ W, (Op.stringOp .add (tb t1) ⟨#[32]⟩).run Tryz.prog W = .ok (.string (tb t)) W := cat_any t1 [32] 26 (by simp only [List.length_cons, List.length_nil]; omega) (by omega)
        have B2 := Lib.hid b2
        clear b2 b1 hy1'
        go_wp2_with fail
        refine (vector_b _ _ _ R.out (by omega)).mono ?_
        rintro e W ⟨v, l, rfl, hov, hlen, hbd, hr, hg⟩
        replace O := Lib.hid (OwnT.grown O.out hg (own_ge O.out (fun b e => by injection e with e; omega)))
        replace R := Lib.hid hr
        replace G := Lib.hid (gb_new G.out hg (fun b e => .inl (by injection e with e; omega)))
        clear hr hg
        have HV := Lib.hid (hov.rd.wide (Nat.zero_le _) (Nat.le_refl _))
        have HL := Lib.hid hlen
        have HBD := Lib.hid hbd
        clear hov hlen hbd
        go_wp2_with fail
        refine (vecText_b _ v l (by have := HL.out; omega) HBD.out HV.out).mono ?_
        rintro e W ⟨y2, hy2, rfl, hg⟩
        replace O := Lib.hid (OwnT.on O.out hg)
        replace R := Lib.hid (R.out.grown hg)
        replace G := Lib.hid (gb_trans G.out hg)
        clear hg
        obtain ⟨t3, b3, k3⟩ : ∃ t : List UInt8, t.length ≤ 146 ∧ ∀ W, (Op.stringOp .add (tb t2) (tb y2)).run Tryz.prog W = .ok (.string (tb t)) W := cat_any t2 y2 146 (by have := B2.out; omega) (by omega)
        obtain ⟨t4, b4, k4⟩ : ∃ t : List UInt8, t.length ≤ 147 ∧ ∀ W, (Op.stringOp .add (tb t3) ⟨#[32]⟩).run Tryz.prog W = .ok (.string (tb t)) W := cat_any t3 [32] 147 (by simp only [List.length_cons, List.length_nil]; omega) (by omega)
        have B4 := Lib.hid b4
        clear b3 b4 hy2 HV HBD
        go_wp2_with fail
        refine (pick_b _ _ _ 17 R.out (by omega) (by omega) (by omega)).mono ?_
        rintro e W ⟨z, hz0', hz1', rfl, hr, hg⟩
        replace O := Lib.hid (OwnT.grown O.out hg (own_ge O.out (fun b e => by injection e with e; omega)))
        replace R := Lib.hid hr
        replace G := Lib.hid (gb_new G.out hg (fun b e => .inl (by injection e with e; omega)))
        clear hr hg
        go_wp2_with fail
        refine (decimal_b z (by omega) _).mono ?_
        rintro e W ⟨y3, hy3, rfl, hg⟩
        replace O := Lib.hid (OwnT.on O.out hg)
        replace R := Lib.hid (R.out.grown hg)
        replace G := Lib.hid (gb_trans G.out hg)
        clear hg
        obtain ⟨t5, b5, k5⟩ : ∃ t : List UInt8, t.length ≤ 168 ∧ ∀ W, (Op.stringOp .add (tb t4) (tb y3)).run Tryz.prog W = .ok (.string (tb t)) W := cat_any t4 y3 168 (by have := B4.out; omega) (by omega)
        have B5 := Lib.hid b5
        clear b5 hy3
        have hsz := G.out.size
        go_wp2_with (at_builtin; refine wpList_append_own _ rfl (.tmp 27) (.tmp 43) 23 rfl (w.heap.size + 1) 9 i0 (.string ByteArray.empty) 1 16 Tryz.underlying23 hi0 hz0 hz1 hz2 rfl (by decide) _ ls.length (ls.map fun l => .string (tb l)) rfl (World.ownsRow.alloc O.out _) ⟨W.heap.size, 0, none⟩ 1 1 [.string (tb t5)] rfl rfl one_cell_new one_str (by unfold maxLen; omega) (by omega) (by simp; omega) ?_; intro v' w6 hown' hgrow _; have T1 := Lib.hid hown'; have T2 := Lib.hid hgrow; clear hown' hgrow)
        go_roundw
        case rel =>
          have hrow := World.ownsRow.lt O.out
          refine ⟨k - 1, ls ++ [t5], by go_num, by omega, by simp; omega, by simp; omega, all_push HA.out (by have := B5.out; omega), textPush_own rfl T1.out, ?_, gb_new (gb_alloc G.out _) T2.out (fun b hb => .inl (by have := (hrow b hb).1; omega))⟩
          exact ((R.out.grown (World.grownBy_alloc _ _ none)).row T2.out (fun b hb => by have := (hrow b hb).1; omega)).mono (by omega)
        case measure => simp [intOf]; omega
      · by_cases hx' : x = 1
        · subst hx'
          go_wp2_with fail
          refine (anyVec_b _ _ _ R.out (by omega)).mono ?_
          rintro e W ⟨v, l, rfl, htv, hlen, hbd, hr, hg⟩
          replace O := Lib.hid (OwnT.grown O.out hg (own_ge O.out (fun b e => by injection e with e; omega)))
          replace R := Lib.hid hr
          replace G := Lib.hid (gb_new G.out hg (fun b e => .inl (by injection e with e; omega)))
          clear hr hg
          have HV := Lib.hid (htv.1.wide (Nat.zero_le _) (Nat.le_refl _))
          have HL := Lib.hid hlen
          have HBD := Lib.hid hbd
          clear htv hlen hbd
          go_wp2_with fail
          refine (vecText_b _ v l HL.out HBD.out HV.out).mono ?_
          rintro e W ⟨y2, hy2, rfl, hg⟩
          replace O := Lib.hid (OwnT.on O.out hg)
          replace R := Lib.hid (R.out.grown hg)
          replace G := Lib.hid (gb_trans G.out hg)
          clear hg
          obtain ⟨t3, b3, k3⟩ : ∃ t : List UInt8, t.length ≤ 146 ∧ ∀ W, (Op.stringOp .add ⟨#[110, 101, 97, 114, 32]⟩ (tb y2)).run Tryz.prog W = .ok (.string (tb t)) W := cat_any [110, 101, 97, 114, 32] y2 146 (by simp only [List.length_cons, List.length_nil]; omega) (by omega)
          obtain ⟨t4, b4, k4⟩ : ∃ t : List UInt8, t.length ≤ 147 ∧ ∀ W, (Op.stringOp .add (tb t3) ⟨#[32]⟩).run Tryz.prog W = .ok (.string (tb t)) W := cat_any t3 [32] 147 (by simp only [List.length_cons, List.length_nil]; omega) (by omega)
          have B4 := Lib.hid b4
          clear b3 b4 hy2 HV HBD
          go_wp2_with fail
          refine (pick_b _ _ _ 5 R.out (by omega) (by omega) (by omega)).mono ?_
          rintro e W ⟨z, hz0', hz1', rfl, hr, hg⟩
          replace O := Lib.hid (OwnT.grown O.out hg (own_ge O.out (fun b e => by injection e with e; omega)))
          replace R := Lib.hid hr
          replace G := Lib.hid (gb_new G.out hg (fun b e => .inl (by injection e with e; omega)))
          clear hr hg
          go_wp2_with fail
          refine (decimal_b z (by omega) _).mono ?_
          rintro e W ⟨y3, hy3, rfl, hg⟩
          replace O := Lib.hid (OwnT.on O.out hg)
          replace R := Lib.hid (R.out.grown hg)
          replace G := Lib.hid (gb_trans G.out hg)
          clear hg
          obtain ⟨t5, b5, k5⟩ : ∃ t : List UInt8, t.length ≤ 168 ∧ ∀ W, (Op.stringOp .add (tb t4) (tb y3)).run Tryz.prog W = .ok (.string (tb t)) W := cat_any t4 y3 168 (by have := B4.out; omega) (by omega)
          have B5 := Lib.hid b5
          clear b5 hy3
          have hsz := G.out.size
          go_wp2_with (at_builtin; refine wpList_append_own _ rfl (.tmp 47) (.tmp 57) 23 rfl (w.heap.size + 1) 9 i0 (.string ByteArray.empty) 1 16 Tryz.underlying23 hi0 hz0 hz1 hz2 rfl (by decide) _ ls.length (ls.map fun l => .string (tb l)) rfl (World.ownsRow.alloc O.out _) ⟨W.heap.size, 0, none⟩ 1 1 [.string (tb t5)] rfl rfl one_cell_new one_str (by unfold maxLen; omega) (by omega) (by simp; omega) ?_; intro v' w6 hown' hgrow _; have T1 := Lib.hid hown'; have T2 := Lib.hid hgrow; clear hown' hgrow)
          go_roundw
          case rel =>
            have hrow := World.ownsRow.lt O.out
            refine ⟨k - 1, ls ++ [t5], by go_num, by omega, by simp; omega, by simp; omega, all_push HA.out (by have := B5.out; omega), textPush_own rfl T1.out, ?_, gb_new (gb_alloc G.out _) T2.out (fun b hb => .inl (by have := (hrow b hb).1; omega))⟩
            exact ((R.out.grown (World.grownBy_alloc _ _ none)).row T2.out (fun b hb => by have := (hrow b hb).1; omega)).mono (by omega)
          case measure => simp [intOf]; omega
        · have t0 : (x == 0) = false := beq_eq_false_iff_ne.2 hx
          have t1 : (x == 1) = false := beq_eq_false_iff_ne.2 hx'
          have hlt := Lib.hid R.out.lt
          have hD : Hid (Rd (W.alloc (.cells #[.string ⟨#[100, 114, 111, 112, 32, 51]⟩, .string ⟨#[100, 114, 111, 112, 32, 55]⟩, .string ⟨#[100, 114, 111, 112, 32, 57]⟩, .string ⟨#[107, 105, 110, 100, 32, 50]⟩, .string ⟨#[107, 105, 110, 100, 32, 51]⟩, .string ⟨#[107, 105, 110, 100, 32, 53]⟩, .string ⟨#[112, 97, 105, 114]⟩, .string ⟨#[99, 111, 117, 110, 116]⟩, .string ⟨#[110, 101, 97, 114, 32, 49, 44, 50, 32, 49]⟩, .string ⟨#[112, 117, 116, 32, 49, 32, 120, 32, 48]⟩, .string ⟨#[]⟩, .string ⟨#[104, 101, 108, 112]⟩, .string ⟨#[107, 105, 110, 100, 32, 52]⟩] 9)) (w.heap.size + 1) (W.heap.size + 1) (some ⟨W.heap.size, 0, none⟩) (L13.map fun x => .string (tb x))) := Lib.hid (Rd.litT rfl hlt.out (Nat.lt_succ_self _) 9 L13 rfl)
          replace O := Lib.hid (O.out.on (World.grownBy_alloc W (.cells #[.string ⟨#[100, 114, 111, 112, 32, 51]⟩, .string ⟨#[100, 114, 111, 112, 32, 55]⟩, .string ⟨#[100, 114, 111, 112, 32, 57]⟩, .string ⟨#[107, 105, 110, 100, 32, 50]⟩, .string ⟨#[107, 105, 110, 100, 32, 51]⟩, .string ⟨#[107, 105, 110, 100, 32, 53]⟩, .string ⟨#[112, 97, 105, 114]⟩, .string ⟨#[99, 111, 117, 110, 116]⟩, .string ⟨#[110, 101, 97, 114, 32, 49, 44, 50, 32, 49]⟩, .string ⟨#[112, 117, 116, 32, 49, 32, 120, 32, 48]⟩, .string ⟨#[]⟩, .string ⟨#[104, 101, 108, 112]⟩, .string ⟨#[107, 105, 110, 100, 32, 52]⟩] 9) none))
          replace R := Lib.hid (R.out.grown (World.grownBy_alloc W (.cells #[.string ⟨#[100, 114, 111, 112, 32, 51]⟩, .string ⟨#[100, 114, 111, 112, 32, 55]⟩, .string ⟨#[100, 114, 111, 112, 32, 57]⟩, .string ⟨#[107, 105, 110, 100, 32, 50]⟩, .string ⟨#[107, 105, 110, 100, 32, 51]⟩, .string ⟨#[107, 105, 110, 100, 32, 53]⟩, .string ⟨#[112, 97, 105, 114]⟩, .string ⟨#[99, 111, 117, 110, 116]⟩, .string ⟨#[110, 101, 97, 114, 32, 49, 44, 50, 32, 49]⟩, .string ⟨#[112, 117, 116, 32, 49, 32, 120, 32, 48]⟩, .string ⟨#[]⟩, .string ⟨#[104, 101, 108, 112]⟩, .string ⟨#[107, 105, 110, 100, 32, 52]⟩] 9) none))
          replace G := Lib.hid (gb_alloc G.out (.cells #[.string ⟨#[100, 114, 111, 112, 32, 51]⟩, .string ⟨#[100, 114, 111, 112, 32, 55]⟩, .string ⟨#[100, 114, 111, 112, 32, 57]⟩, .string ⟨#[107, 105, 110, 100, 32, 50]⟩, .string ⟨#[107, 105, 110, 100, 32, 51]⟩, .string ⟨#[107, 105, 110, 100, 32, 53]⟩, .string ⟨#[112, 97, 105, 114]⟩, .string ⟨#[99, 111, 117, 110, 116]⟩, .string ⟨#[110, 101, 97, 114, 32, 49, 44, 50, 32, 49]⟩, .string ⟨#[112, 117, 116, 32, 49, 32, 120, 32, 48]⟩, .string ⟨#[]⟩, .string ⟨#[104, 101, 108, 112]⟩, .string ⟨#[107, 105, 110, 100, 32, 52]⟩] 9))
          go_wp2_with fail
          refine (of_b _ _ _ _ 13 13 L13 rfl R.out (by omega) (by simp [L13]) (by simp [L13]) (hD.out.wide (Nat.le_refl _) (by simp))).mono ?_
          rintro e W ⟨t5, ht5, rfl, hr, hg⟩
          replace O := Lib.hid (OwnT.grown O.out hg (own_ge O.out (fun b e => by injection e with e; omega)))
          replace R := Lib.hid hr
          replace G := Lib.hid (gb_new G.out hg (fun b e => .inl (by injection e with e; omega)))
          clear hr hg
          have B5 := Lib.hid (L13_le t5 ht5)
          clear ht5 hD
          have hsz := G.out.size
          go_wp2_with (at_builtin; refine wpList_append_own _ rfl (.tmp 19) (.tmp 23) 23 rfl (w.heap.size + 1) 9 i0 (.string ByteArray.empty) 1 16 Tryz.underlying23 hi0 hz0 hz1 hz2 rfl (by decide) _ ls.length (ls.map fun l => .string (tb l)) rfl (World.ownsRow.alloc O.out _) ⟨W.heap.size, 0, none⟩ 1 1 [.string (tb t5)] rfl rfl one_cell_new one_str (by unfold maxLen; omega) (by omega) (by simp; omega) ?_; intro v' w6 hown' hgrow _; have T1 := Lib.hid hown'; have T2 := Lib.hid hgrow; clear hown' hgrow)
          go_roundw
          case rel =>
            have hrow := World.ownsRow.lt O.out
            refine ⟨k - 1, ls ++ [t5], by go_num, by omega, by simp; omega, by simp; omega, all_push HA.out (by have := B5.out; omega), textPush_own rfl T1.out, ?_, gb_new (gb_alloc G.out _) T2.out (fun b hb => .inl (by have := (hrow b hb).1; omega))⟩
            exact ((R.out.grown (World.grownBy_alloc _ _ none)).row T2.out (fun b hb => by have := (hrow b hb).1; omega)).mono (by omega)
          case measure => simp [intOf]; omega
    · obtain rfl : k = 0 := by omega
      go_wp2_with fail
      refine (pick_b _ _ _ 5 R.out (by omega) (by omega) (by omega)).mono ?_
      rintro e W ⟨x, hx0, hx1, rfl, hr, hg⟩
      replace O := Lib.hid (OwnT.grown O.out hg (own_ge O.out (fun b e => by injection e with e; omega)))
      replace R := Lib.hid hr
      replace G := Lib.hid (gb_new G.out hg (fun b e => .inl (by injection e with e; omega)))
      clear hr hg
      by_cases hx : x = 0
      · subst hx
        obtain ⟨A1, c1, rfl, hc1⟩ := O.out.form
        go_wp2_with fail
        refine (pick_b _ _ _ _ R.out (by omega) (by omega) (by omega)).mono ?_
        rintro e W ⟨y, hy0, hy1, rfl, hr, hg⟩
        replace O := Lib.hid (OwnT.grown O.out hg (own_ge O.out (fun b e => by injection e with e; omega)))
        replace R := Lib.hid hr
        replace G := Lib.hid (gb_new G.out hg (fun b e => .inl (by injection e with e; omega)))
        clear hr hg
        obtain ⟨j, rfl⟩ := Int.eq_ofNat_of_zero_le hy0
        have hjl : j < ls.length := by omega
        obtain ⟨b, rfl, hb1, hb2, hb3⟩ := own_form' O.out (by omega)
        have hcell : W.cell? ⟨b, j, none⟩ = some (.string (tb ls[j])) := by
          rw [World.ownsRow.cellAt O.out j (by omega)]; simp [hjl]
        have hx := HA.out _ (List.getElem_mem hjl)
        generalize ls[j] = x at *
        go_wp2_with fail
        refine (mutate_b _ _ _ x R.out (by omega) (by omega)).mono ?_
        rintro e W ⟨t, ht, rfl, hr, hg⟩
        replace O := Lib.hid (OwnT.grown O.out hg (own_ge O.out (fun b e => by injection e with e; omega)))
        replace R := Lib.hid hr
        replace G := Lib.hid (gb_new G.out hg (fun b e => .inl (by injection e with e; omega)))
        clear hr hg
        have f1 : W.frozen? ⟨b, j, none⟩ = false := World.ownsRow.frozenAt O.out j
        have d1 : W.cell? ⟨b, j, none⟩ = some (.string (tb ls[j])) := by
          rw [World.ownsRow.cellAt O.out j (by omega)]; simp [hjl]
        have HS := Lib.hid (World.ownsRow.stored O.out j (.string (tb t)))
        have ht2 : t.length ≤ 1000 := by omega
        have HT := Lib.hid ht2
        clear hcell ht ht2
        generalize ls[j] = y at *
        go_wp2_with fail
        go_ret
        have hS := HS.out.1
        have e1 : (ls.map fun l => Value.string (tb l)).set j (.string (tb t)) = (ls.set j t).map fun l => Value.string (tb l) := by rw [List.map_set]
        rw [e1] at hS
        have hlen : (ls.set j t).length = ls.length := List.length_set ..
        have hO : OwnT (W.setCell ⟨b, j, none⟩ (.string (tb t))) (w.heap.size + 1) (.slice (some ⟨b, 0, none⟩) ls.length c1) (ls.set j t) := by unfold OwnT; rw [hlen]; exact hS
        exact ⟨ls.set j t, some ⟨b, 0, none⟩, c1, by rw [hlen]; rfl, by rw [hlen]; exact hc1, by rw [hlen]; omega, all_set HA.out (by omega) HT.out, hO.sees, gb_setCell G.out (.inl (show w.heap.size ≤ b by omega)) _⟩
      · have t0 : (x == 0) = false := beq_eq_false_iff_ne.2 hx
        obtain ⟨A1, c1, rfl, hc1⟩ := O.out.form
        go_wp2_with fail
        go_ret
        exact ⟨ls, A1, c1, rfl, hc1, by omega, fun x hx => Nat.le_trans (HA.out x hx) (by omega), O.out.sees, G.out⟩
end Go.Proofs.YtibbpbbgmgdpdaaGreatDoor
