/- The walks of the draws of vectors and items. -/
import Derived.Test.YtibbpbbgmgdpdaaGreatDoorDrawKW
import Derived.Test.YtibbpbbgmgdpdaaGreatDoorPutIW
import Derived.Test.YtibbpbbgmgdpdaaGreatDoorKeep
namespace Go.Proofs.YtibbpbbgmgdpdaaGreatDoor
open Go.RowKit
set_option linter.unusedVariables false
set_option maxRecDepth 100000

/-- the reader in block g; it has given at most p numbers -/
def RdrB (w : World) (g p : Nat) : Prop := ∃ q, q ≤ p ∧ Rdr w g q
theorem RdrB.lt {w : World} {g p : Nat} (h : RdrB w g p) : g < w.heap.size := by obtain ⟨q, _, h⟩ := h; exact h.lt
theorem RdrB.grown {w w' : World} {g p : Nat} (h : RdrB w g p) (hg : w.grownBy w' none) : RdrB w' g p := by obtain ⟨q, hq, h⟩ := h; exact ⟨q, hq, h.grown hg⟩
theorem RdrB.row {w w' : World} {g p : Nat} {r : Option Nat} (h : RdrB w g p) (hg : w.grownBy w' r) (hr : ∀ k, r = some k → g < k) : RdrB w' g p := by obtain ⟨q, hq, h⟩ := h; exact ⟨q, hq, h.row hg hr⟩
theorem RdrB.mono {w : World} {g p p' : Nat} (h : RdrB w g p) (hp : p ≤ p') : RdrB w g p' := by obtain ⟨q, hq, h⟩ := h; exact ⟨q, by omega, h⟩

theorem RdrB.set_ {w : World} {g p : Nat} (h : RdrB w g p) {a : Addr} (ha : g < a.block) (u : Value) : RdrB (w.setCell a u) g p :=
  h.row (gb_setCell (gb_refl w (some a.block)) (.inr rfl) u) (fun k e => by injection e with e; omega)

/-- what was read of blocks behind the reader's stays read -/
theorem RdInts.keepG {k : IntKind} {w w' : World} {g hi : Nat} {v : Value} {l : List Int} (h : RdInts k w (g + 1) hi v l) (hg : w.grownBy w' (some g)) (hh : hi ≤ w.heap.size) : RdInts k w' (g + 1) hi v l :=
  h.agree fun b h1 h2 => (Agree.of_grown_some hg) b h1 (by omega)
theorem RdItems.keepG {w w' : World} {g hi : Nat} {v : Value} {L : List M.Item} (h : RdItems w (g + 1) hi v L) (hg : w.grownBy w' (some g)) (hh : hi ≤ w.heap.size) : RdItems w' (g + 1) hi v L :=
  h.agree fun b h1 h2 => (Agree.of_grown_some hg) b h1 (by omega)

theorem Rd.drop1 {w : World} {lo hi : Nat} {A : Option Addr} {xs : List Value} (h : Rd w lo hi A xs) : Rd w lo hi (A.map fun x => ⟨x.block, x.off + 1, none⟩) (xs.drop 1) := fun hn => by
  obtain ⟨b, o, rfl, h3, h4, hc⟩ := h (by intro hx; subst hx; simp at hn)
  refine ⟨b, o + 1, rfl, h3, h4, fun j u hu => ?_⟩
  rw [List.getElem?_drop] at hu
  rw [show o + 1 + j = o + (1 + j) by omega]
  exact hc _ u hu

theorem Agree.refl (lo hi : Nat) (w : World) : Agree lo hi w w := fun _ _ _ => rfl
theorem Agree.trans {lo hi : Nat} {a b c : World} (h : Agree lo hi a b) (k : Agree lo hi b c) : Agree lo hi a c := fun i h1 h2 => (k i h1 h2).trans (h i h1 h2)
theorem Agree.set_ {lo hi : Nat} {a b : World} (h : Agree lo hi a b) {p : Addr} (hp : p.block < lo ∨ hi ≤ p.block) (u : Value) : Agree lo hi a (b.setCell p u) := fun i h1 h2 => (Below.heap_setCell b p u i (by rintro rfl; omega)).trans (h i h1 h2)
theorem Agree.by_ {lo hi : Nat} {a b c : World} {r : Option Nat} (h : Agree lo hi a b) (k : b.grownBy c r) (hr : ∀ g, r = some g → g < lo ∨ hi ≤ g) (hh : hi ≤ b.heap.size) : Agree lo hi a c :=
  fun i h1 h2 => (k.block i (by omega) (by intro e; have := hr i e.symm; omega)).trans (h i h1 h2)
theorem Agree.alloc {lo hi : Nat} {a b : World} (h : Agree lo hi a b) (o : Obj) (hh : hi ≤ b.heap.size) : Agree lo hi a (b.alloc o) := h.by_ (World.grownBy_alloc b o none) (by simp) hh

/-- a slice's address lies in a block of integers -/
def IntBlk (w : World) (lo hi : Nat) (v : Value) : Prop := ∀ A n c, v = .slice (some A) n c → lo ≤ A.block ∧ A.block < hi ∧ ∃ cs q, w.heap[A.block]? = some (.cells cs 3 q)
theorem IntBlk.cut {w : World} {lo hi n c m d : Nat} {A : Option Addr} (h : IntBlk w lo hi (.slice A n c)) : IntBlk w lo hi (.slice A m d) := fun B x y e => by
  injection e with e1
  subst e1
  exact h B n c rfl
theorem IntBlk.map1 {w : World} {lo hi n c m d : Nat} {A : Option Addr} (h : IntBlk w lo hi (.slice A n c)) : IntBlk w lo hi (.slice (A.map fun x => ⟨x.block, x.off + 1, none⟩) m d) := fun B x y e => by
  injection e with e1
  cases A with
  | none => cases e1
  | some a =>
    simp only [Option.map_some, Option.some.injEq] at e1
    subst e1
    exact h a n c rfl
/-- a vector in a block of integers -/
def TV (w : World) (lo hi : Nat) (v : Value) (l : List Int) : Prop := RdInts .i64 w lo hi v l ∧ IntBlk w lo hi v
theorem TV.agree {w w' : World} {lo hi : Nat} {v : Value} {l : List Int} (h : TV w lo hi v l) (ha : Agree lo hi w w') : TV w' lo hi v l :=
  ⟨h.1.agree ha, fun A n c e => by obtain ⟨h1, h2, cs, q, h3⟩ := h.2 A n c e; exact ⟨h1, h2, cs, q, (ha _ h1 h2).trans h3⟩⟩
theorem TV.wide {w : World} {lo hi lo' hi' : Nat} {v : Value} {l : List Int} (h : TV w lo hi v l) (h1 : lo' ≤ lo) (h2 : hi ≤ hi') : TV w lo' hi' v l :=
  ⟨h.1.wide h1 h2, fun A n c e => by obtain ⟨h3, h4, h5⟩ := h.2 A n c e; exact ⟨by omega, by omega, h5⟩⟩
theorem OwnInts.tv {w : World} {lo : Nat} {v : Value} {l : List Int} (h : OwnInts .i64 3 w lo v l) : TV w lo w.heap.size v l :=
  ⟨h.rd, fun A n c e => by
    subst e
    rcases h.2 with ⟨e, _⟩ | ⟨g, cap, cur, e, hg, hh, _⟩
    · cases e
    · injection e with e1
      injection e1 with e1
      subst e1
      exact ⟨hg, lt_of_block hh, _, _, hh⟩⟩
/-- where a row of another type was written -/
theorem TV.kept {w w' : World} {lo hi lo' size n : Nat} {t : TypeId} {u v : Value} {l : List Int} {xs : List Value} (h : TV w lo hi u l) (hrow : w.ownsRow lo' t size v n xs) (ht : t ≠ 3) (hg : w.grownBy w' v.ownBlock) : TV w' lo hi u l := by
  obtain ⟨⟨A, c, e, hc, hr⟩, hb⟩ := h
  subst e
  have hblk : ∀ B m d, Value.slice A l.length c = .slice (some B) m d → w'.heap[B.block]? = w.heap[B.block]? := fun B m d e => by
    obtain ⟨h1, h2, cs, q, h3⟩ := hb B m d e
    refine hg.block _ (lt_of_block h3) (fun e1 => ?_)
    rcases hrow.2 with ⟨rfl, _⟩ | ⟨g, cap, cur, rfl, _, hh, _⟩
    · simp [Value.ownBlock] at e1
    · simp only [Value.ownBlock, Option.some.injEq] at e1
      rw [e1, hh] at h3
      injection h3 with h3
      injection h3 with _ h4
      exact ht h4
  refine ⟨⟨A, c, rfl, hc, fun hn => ?_⟩, fun B m d e => ?_⟩
  · obtain ⟨b, o, rfl, h1, h2, h3⟩ := hr hn
    exact ⟨b, o, rfl, h1, h2, fun j x hx => (World.cell?_of_block (a := ⟨b, o + j, none⟩) (hblk ⟨b, o, none⟩ _ _ rfl)).trans (h3 j x hx)⟩
  · obtain ⟨h1, h2, cs, q, h3⟩ := hb B m d e
    exact ⟨h1, h2, cs, q, (hblk B m d e).trans h3⟩

def NumDrawn (w : World) (g p : Nat) (lo hi : Int) (e : Ending) (w' : World) : Prop := ∃ v : Int, lo ≤ v ∧ v < hi ∧ e = .returned (.int .i64 v) ∧ RdrB w' g p ∧ w.grownBy w' (some g)
theorem pick_b (w : World) (g p : Nat) (n : Int) (hr : RdrB w g p) (hp : p ≤ 1000000) (hn1 : 1 ≤ n) (hn2 : n ≤ 1000000) :
    Calls Tryz.prog 17 #[.pointer (some ⟨g, 0, none⟩), .int .i64 n] w (NumDrawn w g (p + 1) 0 n) := by
  obtain ⟨q, hq, hr⟩ := hr
  exact (pick_any w g q n hr (by omega) hn1 hn2).mono fun e w' ⟨v, h0, h1, he, h2, h3⟩ => ⟨v, h0, h1, he, ⟨q + 1, by omega, h2⟩, h3⟩
def OneDrawn (w : World) (g p : Nat) (l : List Int) (e : Ending) (w' : World) : Prop := ∃ v : Int, v ∈ l ∧ e = .returned (.int .i64 v) ∧ RdrB w' g p ∧ w.grownBy w' (some g)
theorem one_b (w : World) (g p : Nat) (v : Value) (l : List Int) (hr : RdrB w g p) (hp : p ≤ 1000000) (h1 : l ≠ []) (h2 : l.length ≤ 1000000) (hv : RdInts .i64 w (g + 1) w.heap.size v l) :
    Calls Tryz.prog 16 #[.pointer (some ⟨g, 0, none⟩), v] w (OneDrawn w g (p + 1) l) := by
  obtain ⟨q, hq, hr⟩ := hr
  exact (one_any w g q v l hr (by omega) h1 h2 hv).mono fun e w' ⟨v, h0, he, h2, h3⟩ => ⟨v, h0, he, ⟨q + 1, by omega, h2⟩, h3⟩

def CoordDrawn (w : World) (g p : Nat) (e : Ending) (w' : World) : Prop := ∃ v : Int, e = .returned (.int .i64 v) ∧ RdrB w' g p ∧ w.grownBy w' (some g)
theorem someCoord_any (w : World) (g p : Nat) (hr : RdrB w g p) (hp : p ≤ 999000) :
    Calls Tryz.prog 26 #[.pointer (some ⟨g, 0, none⟩)] w (CoordDrawn w g (p + 3)) := by
  have R0 := Lib.hid hr
  clear hr
  go_enter Tryz.func26, Tryz.ntmps26
  go_wp2_with fail
  refine (pick_b _ _ p 201 R0.out (by omega) (by omega) (by omega)).mono ?_
  rintro e w1 ⟨x, hx0, hx1, rfl, hr1, hg1⟩
  have R1 := Lib.hid hr1
  have G1 := Lib.hid hg1
  clear hr1 hg1
  go_wp2_with fail
  refine (pick_b _ _ (p + 1) 21 R1.out (by omega) (by omega) (by omega)).mono ?_
  rintro e w2 ⟨y, hy0, hy1, rfl, hr2, hg2⟩
  have R2 := Lib.hid hr2
  have G2 := Lib.hid (gb_trans G1.out hg2)
  clear hr2 hg2
  go_wp2_with fail
  refine (one_b _ _ (p + 1 + 1) _ [0, 1, -1, 5, -7, 10, 3, 100, -100, x - 100, y - 10] (R2.out.grown (World.grownBy_alloc _ _ _)) (by omega) (by simp) (by simp) ((RdInts.lit .i64 w2 R2.out.lt _ _ rfl).wide (by omega) (by simp))).mono ?_
  rintro e w3 ⟨v, hv, rfl, hr3, hg3⟩
  have R3 := Lib.hid hr3
  have G3 := Lib.hid (gb_trans (gb_alloc G2.out _) hg3)
  clear hr3 hg3 hv
  go_wp2_with fail
  go_ret
  exact ⟨v, rfl, R3.out, G3.out⟩

/-- a vector was drawn -/
def VecDrawn (w : World) (g p : Nat) (e : Ending) (w' : World) : Prop := ∃ (v : Value) (l : List Int), e = .returned v ∧ OwnInts .i64 3 w' w.heap.size v l ∧ l.length = 4 ∧ RdrB w' g p ∧ w.grownBy w' (some g)
set_option maxHeartbeats 1000000 in
theorem someVector_any (w : World) (g p : Nat) (hr : RdrB w g p) (hp : p ≤ 990000) :
    Calls Tryz.prog 20 #[.pointer (some ⟨g, 0, none⟩)] w (VecDrawn w g (p + 12)) := by
  obtain ⟨i0, hi0, hz0, hz1, hz2⟩ := info_parts info_int'
  have R0 := Lib.hid hr
  have HLT := Lib.hid hr.lt
  clear hr
  go_enter Tryz.func20, Tryz.ntmps20
  go_wp2_with fail
  go_loopw [3, 4] (fun v i wr => ∃ (k : Nat) (l : List Int), k ≤ 4 ∧ i = .int .i64 k ∧ l.length = k ∧ RdrB wr g (p + 3 * k) ∧ wr.ownsRow w.heap.size 3 1 v l.length (l.map (.int .i64)) ∧ w.grownBy wr (some g)) (fun _ i _ => 4 - (intOf i).toNat)
  case atStart =>
    refine ⟨0, [], by omega, rfl, rfl, R0.out.grown (World.grownBy_alloc _ _ _), ?_, gb_alloc (gb_refl _ _) _⟩
    have := World.ownsRow_made (base := w.heap.size) (e := 3) (size := 1) w #[] 0 (Nat.le_refl _) (by decide) rfl
    simpa using this
  case round =>
    obtain ⟨k, l, hk, rfl, hl, hrd, hown, hg⟩ := hrel
    have R1 := Lib.hid hrd
    have O1 := Lib.hid hown
    have G1 := Lib.hid hg
    have HL := Lib.hid hl
    clear hrd hown hg hl
    by_cases hlt : k < 4
    · go_wp2_with fail
      refine (someCoord_any _ _ (p + 3 * k) R1.out (by omega)).mono ?_
      rintro e w1 ⟨x, rfl, hr1, hg1⟩
      have R2 := Lib.hid hr1
      have G2 := Lib.hid (gb_trans G1.out hg1)
      have O2 := Lib.hid (O1.out.kept hg1 (own_ge O1.out (fun b e => by injection e with e; have := HLT.out; omega)))
      have hlen : l.length ≤ 4 := by have := HL.out; omega
      have hsz := G2.out.size
      clear hr1 hg1
      go_wp2_with (at_builtin; refine wpList_append_own _ rfl (.tmp 10) (.tmp 13) 34 rfl w.heap.size 3 i0 (.int .i64 0) 1 8 Tryz.underlying34 hi0 hz0 hz1 hz2 rfl (by decide) _ l.length (l.map (.int .i64)) rfl (O2.out.alloc _) ⟨w1.heap.size, 0, none⟩ 1 1 [.int .i64 x] rfl rfl one_cell_new (one_cells rfl) (by unfold maxLen; omega) (by omega) (by simp; omega) ?_; intro v' w4 hown' hgrow _; have T1 := Lib.hid hown'; have T2 := Lib.hid hgrow; clear hown' hgrow)
      go_roundw
      case rel =>
        have hO := T1.out
        rw [show l.map (Value.int IntKind.i64) ++ [Value.int IntKind.i64 x] = (l ++ [x]).map (Value.int IntKind.i64) from by simp] at hO
        have hrow : ∀ b, u3.ownBlock = some b → w.heap.size ≤ b := fun b hb => (O1.out.lt b hb).1
        refine ⟨k + 1, l ++ [x], by omega, by go_num, by simp [HL.out], ?_, by simpa using hO, ?_⟩
        · exact ((R2.out.grown (World.grownBy_alloc _ _ none)).row T2.out (fun b hb => by have := hrow b hb; have := HLT.out; omega)).mono (by omega)
        · exact gb_new (gb_alloc G2.out _) T2.out (fun b hb => .inl (hrow b hb))
      case measure => simp [intOf]; omega
    · obtain rfl : k = 4 := by omega
      go_wp2_with fail
      go_ret
      exact ⟨_, l, rfl, O1.out, HL.out, R1.out, G1.out⟩

/-- a vector that was drawn and perhaps spoiled -/
def SpoilDrawn (w : World) (g p m : Nat) (e : Ending) (w' : World) : Prop := ∃ (v : Value) (l : List Int), e = .returned v ∧ TV w' w.heap.size w'.heap.size v l ∧ l.length ≤ m ∧ RdrB w' g p ∧ w.grownBy w' (some g)
set_option maxHeartbeats 1000000 in
theorem spoil_any (w : World) (g p : Nat) (v : Value) (l : List Int) (n : Int) (hr : RdrB w g p) (hp : p ≤ 990000) (hl : l.length ≤ 1000) (hv : RdInts .i64 w (g + 1) w.heap.size v l) :
    Calls Tryz.prog 27 #[.pointer (some ⟨g, 0, none⟩), v, .int .i64 n] w (SpoilDrawn w g (p + 3) (l.length + 1)) := by
  obtain ⟨i0, hi0, hz0, hz1, hz2⟩ := info_parts info_int'
  obtain ⟨A, c, rfl, hc, hrd⟩ := hv
  have R0 := Lib.hid hr
  have HLT := Lib.hid hr.lt
  have HR := Lib.hid hrd
  clear hr hc hrd
  go_enter Tryz.func27, Tryz.ntmps27
  go_wp2_with fail
  refine (copyInts_spec w A c _ _ l (by omega) HR.out (Nat.le_refl _)).mono ?_
  rintro e w1 ⟨v1, rfl, ho1, hg1⟩
  obtain ⟨A1, c1, rfl, hc1, hd1⟩ := ho1.rd
  have R1 := Lib.hid (R0.out.grown hg1)
  have G1 := Lib.hid (gb_some hg1 (some g))
  have O1 := Lib.hid ho1
  clear hd1 ho1 hg1
  go_wp2_with fail
  refine (pick_b _ _ p 20 R1.out (by omega) (by omega) (by omega)).mono ?_
  rintro e w2 ⟨x, hx0, hx1, rfl, hr2, hg2⟩
  have R2 := Lib.hid hr2
  have G2 := Lib.hid (gb_trans G1.out hg2)
  have O2 := Lib.hid (OwnInts.grown O1.out hg2 (fun b e => by injection e with e; have := HLT.out; omega))
  have hsz := G2.out.size
  clear hr2 hg2
  by_cases hx : x = 0
  · subst hx
    go_wp2_with (at_builtin; refine wpList_append_own _ rfl (.tmp 14) (.tmp 16) 34 rfl w.heap.size 3 i0 (.int .i64 0) 1 8 Tryz.underlying34 hi0 hz0 hz1 hz2 rfl (by decide) _ l.length (l.map (.int .i64)) rfl (World.ownsRow.alloc O2.out _) ⟨w2.heap.size, 0, none⟩ 1 1 [.int .i64 n] rfl rfl one_cell_new (one_cells rfl) (by unfold maxLen; omega) (by omega) (by simp; omega) ?_; intro v' w4 hown' hgrow _; have T1 := Lib.hid hown'; have T2 := Lib.hid hgrow; clear hown' hgrow)
    go_ret
    have HO := T1.out
    rw [show l.map (Value.int IntKind.i64) ++ [Value.int IntKind.i64 n] = (l ++ [n]).map (Value.int IntKind.i64) from by simp] at HO
    have hrow : ∀ b, (Value.slice A1 l.length c1).ownBlock = some b → w.heap.size ≤ b := fun b hb => (World.ownsRow.lt O2.out b hb).1
    have hlt := HLT.out
    refine ⟨v', l ++ [n], rfl, (show OwnInts .i64 3 w4 w.heap.size v' (l ++ [n]) from by simpa [OwnInts] using HO).tv, by simp, ?_, gb_new (gb_alloc G2.out _) T2.out (fun b hb => .inl (hrow b hb))⟩
    exact ((R2.out.grown (World.grownBy_alloc _ _ none)).row T2.out (fun b hb => by have := hrow b hb; omega)).mono (by omega)
  · have HD := Lib.hid (OwnInts.tv O2.out)
    by_cases hx' : x = 1
    · subst hx'
      by_cases h0 : l.length = 0
      · have t0 : decide (0 < l.length) = false := decide_eq_false (by omega)
        have t0' : decide ((0 : Int) < (l.length : Int)) = false := decide_eq_false (by omega)
        have HH := Lib.hid h0
        clear h0
        go_wp2_with fail
        go_ret
        exact ⟨_, l, rfl, HD.out, by omega, R2.out.mono (by omega), G2.out⟩
      · have t0 : decide (0 < l.length) = true := decide_eq_true (by omega)
        have t0' : decide ((0 : Int) < (l.length : Int)) = true := decide_eq_true (by omega)
        have hr1 : RdInts .i64 w2 w.heap.size w2.heap.size (.slice A1 l.length c1) l := HD.out.1
        obtain ⟨A', c', e', hc', hd'⟩ := hr1
        injection e' with e1 e2 e3
        subst e1 e3
        have HD' := Lib.hid hd'
        clear hd'
        by_cases h1 : c1 = 1
        · go_wp2_with fail
          go_ret
          exact ⟨.slice A1 (l.length - 1) 0, [], rfl, ⟨⟨A1, 0, by rw [show l.length - 1 = 0 by omega]; rfl, Nat.zero_le _, Rd.nil_ _ _ _ _⟩, HD.out.2.cut⟩, by simp, R2.out.mono (by omega), G2.out⟩
        · go_wp2_with fail
          go_ret
          have hf : TV w2 w.heap.size w2.heap.size (.slice (A1.map fun x => ⟨x.block, x.off + 1, none⟩) (l.length - 1) (c1 - 1)) (l.drop 1) := ⟨⟨_, c1 - 1, by rw [List.length_drop], by rw [List.length_drop]; omega, by rw [List.map_drop]; exact HD'.out.drop1⟩, HD.out.2.map1⟩
          exact ⟨_, l.drop 1, rfl, hf, by rw [List.length_drop]; omega, R2.out.mono (by omega), G2.out⟩
    · by_cases hx2 : x = 2
      · subst hx2
        by_cases h0 : l.length = 0
        · have t0 : decide (0 < l.length) = false := decide_eq_false (by omega)
          have t0' : decide ((0 : Int) < (l.length : Int)) = false := decide_eq_false (by omega)
          have HH := Lib.hid h0
          clear h0
          go_wp2_with fail
          go_ret
          exact ⟨_, l, rfl, HD.out, by omega, R2.out.mono (by omega), G2.out⟩
        · have t0 : decide (0 < l.length) = true := decide_eq_true (by omega)
          have t0' : decide ((0 : Int) < (l.length : Int)) = true := decide_eq_true (by omega)
          go_wp2_with fail
          refine (pick_b _ _ (p + 1) _ R2.out (by omega) (by omega) (by omega)).mono ?_
          rintro e w3 ⟨y, hy0, hy1, rfl, hr3, hg3⟩
          have R3 := Lib.hid hr3
          have G3 := Lib.hid (gb_trans G2.out hg3)
          have O3 := Lib.hid (OwnInts.grown O2.out hg3 (fun b e => by injection e with e; have := HLT.out; omega))
          clear hr3 hg3
          go_wp2_with fail
          refine (one_b _ _ (p + 1 + 1) _ [-1, n, 0, 1] (R3.out.grown (World.grownBy_alloc _ _ _)) (by omega) (by simp) (by simp) ((RdInts.lit .i64 w3 R3.out.lt _ _ rfl).wide (by omega) (by simp))).mono ?_
          rintro e w4 ⟨z, hz, rfl, hr4, hg4⟩
          have R4 := Lib.hid hr4
          have G4 := Lib.hid (gb_trans (gb_alloc G3.out _) hg4)
          have O4 := (OwnInts.grown (OwnInts.grown O3.out (World.grownBy_alloc w3 (.cells #[.int .i64 (-1), .int .i64 n, .int .i64 0, .int .i64 1] 3) none) (by simp)) hg4 (fun b e => by injection e with e; have := HLT.out; omega))
          clear hr4 hg4 hz
          obtain ⟨b, rfl, hb1, hb2, hb3⟩ := own_form' O4 (by omega)
          obtain ⟨j, rfl⟩ := Int.eq_ofNat_of_zero_le hy0
          have hjl : j < l.length := by omega
          have f1 : w4.frozen? ⟨b, j, none⟩ = false := World.ownsRow.frozenAt O4 j
          have d1 : w4.cell? ⟨b, j, none⟩ = some (.int .i64 l[j]) := by
            rw [World.ownsRow.cellAt O4 j (by omega)]; simp [hjl]
          have HS := Lib.hid (World.ownsRow.stored O4 j (.int .i64 z))
          generalize l[j] = lj at *
          clear O4
          go_wp2_with fail
          go_ret
          have hS := HS.out.1
          rw [← List.map_set] at hS
          have hlt := HLT.out
          have hlen : (l.set j z).length = l.length := List.length_set ..
          have hO : OwnInts .i64 3 (w4.setCell ⟨b, j, none⟩ (.int .i64 z)) w.heap.size (.slice (some ⟨b, 0, none⟩) l.length c1) (l.set j z) := by unfold OwnInts; rw [hlen]; exact hS
          exact ⟨_, l.set j z, rfl, OwnInts.tv hO, by rw [hlen]; omega, R4.out.row HS.out.2 (fun k e => by injection e with e; omega), gb_setCell G4.out (.inl hb1) _⟩
      · have t0 : (x == 0) = false := beq_eq_false_iff_ne.2 hx
        have t1 : (x == 1) = false := beq_eq_false_iff_ne.2 hx'
        have t2 : (x == 2) = false := beq_eq_false_iff_ne.2 hx2
        go_wp2_with fail
        go_ret
        exact ⟨_, l, rfl, HD.out, by omega, R2.out.mono (by omega), G2.out⟩

theorem anyVector_any (w : World) (g p : Nat) (hr : RdrB w g p) (hp : p ≤ 900000) :
    Calls Tryz.prog 21 #[.pointer (some ⟨g, 0, none⟩)] w (SpoilDrawn w g (p + 16) 5) := by
  have R0 := Lib.hid hr
  have HLT := Lib.hid hr.lt
  clear hr
  go_enter Tryz.func21, Tryz.ntmps21
  go_wp2_with fail
  refine (pick_b _ _ p 10 R0.out (by omega) (by omega) (by omega)).mono ?_
  rintro e w1 ⟨x, hx0, hx1, rfl, hr1, hg1⟩
  have R1 := Lib.hid hr1
  have hsz := hg1.size
  have G1 := Lib.hid hg1
  clear hr1 hg1
  by_cases hx : x = 0
  · subst hx
    go_wp2_with fail
    refine (someVector_any _ _ (p + 1) R1.out (by omega)).mono ?_
    rintro e w2 ⟨v, l, rfl, ho, hl, hr2, hg2⟩
    have R2 := Lib.hid hr2
    have G2 := Lib.hid (gb_trans G1.out hg2)
    have D2 := Lib.hid (ho.rd.wide (lo' := g + 1) (by have := HLT.out; omega) (Nat.le_refl _))
    have HL := Lib.hid hl
    clear hr2 hg2 ho hl
    go_wp2_with fail
    refine (spoil_any _ _ (p + 1 + 12) v l 101 R2.out (by omega) (by have := HL.out; omega) D2.out).mono ?_
    rintro e w3 ⟨v3, l3, rfl, hd3, hl3, hr3, hg3⟩
    have hz := G2.out.size
    have R3 := Lib.hid hr3
    have G3 := Lib.hid (gb_trans G2.out hg3)
    have D3 := Lib.hid hd3
    have hL := HL.out
    clear hr3 hg3 hd3 HL
    go_wp2_with fail
    go_ret
    exact ⟨v3, l3, rfl, D3.out.wide (by omega) (Nat.le_refl _), by omega, R3.out.mono (by omega), G3.out⟩
  · have t0 : (x == 0) = false := beq_eq_false_iff_ne.2 hx
    go_wp2_with fail
    refine (someVector_any _ _ (p + 1) R1.out (by omega)).mono ?_
    rintro e w2 ⟨v, l, rfl, ho, hl, hr2, hg2⟩
    have R2 := Lib.hid hr2
    have G2 := Lib.hid (gb_trans G1.out hg2)
    have D2 := Lib.hid ho.tv
    have HL := Lib.hid hl
    clear hr2 hg2 ho hl
    go_wp2_with fail
    go_ret
    exact ⟨v, l, rfl, D2.out.wide (by omega) (Nat.le_refl _), by have := HL.out; omega, R2.out.mono (by omega), G2.out⟩

/-- an item was drawn -/
def ItemDrawn (w : World) (g p m : Nat) (e : Ending) (w' : World) : Prop :=
  ∃ (x : M.Item) (A : Option Addr) (c : Nat), e = .returned (.agg #[.int .i64 x.key, .slice A x.pos.length c, .int .i64 x.tags]) ∧ TV w' w.heap.size w'.heap.size (.slice A x.pos.length c) x.pos ∧ x.pos.length ≤ m ∧ RdrB w' g p ∧ w.grownBy w' (some g)

end Go.Proofs.YtibbpbbgmgdpdaaGreatDoor
