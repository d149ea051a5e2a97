/- The walks of the draws of a store with numbers. -/
import Derived.Test.YthohidhhhknnaaaSee
namespace Go.Proofs.Ythohidhhhknnaaa
open Go.RowKit
set_option linter.unusedVariables false
set_option maxRecDepth 100000

theorem RdrB.of {w : World} {g p : Nat} (h : Rdr w g p) : RdrB w g p := ⟨p, Nat.le_refl _, h⟩
theorem someShards_b (w : World) (g p : Nat) (hr : RdrB w g p) (hp : p ≤ 900000) : Calls Try.prog 57 #[.pointer (some ⟨g, 0, none⟩)] w (NumDrawn w g (p + 1) 0 10) := by
  obtain ⟨q, hq, hr⟩ := hr
  exact (someShards_any w g q hr (by omega)).mono fun e w' ⟨v, h0, h1, he, h2, h3⟩ => ⟨v, h0, by omega, he, ⟨q + 1, by omega, h2⟩, h3⟩
/-- a list of items behind the reader's block -/
def SeesG (g : Nat) (w : World) (A : Option Addr) (L : List M.Item) : Prop := RdI w (g + 1) w.heap.size A L ∧ Small L
theorem SeesG.onG {g : Nat} {w w' : World} {A : Option Addr} {L : List M.Item} (h : SeesG g w A L) (hg : w.grownBy w' (some g)) : SeesG g w' A L :=
  ⟨(h.1.agree (Agree.of_grown_some hg)).wide (Nat.le_refl _) hg.size, h.2⟩
theorem SeesG.sees {g : Nat} {w : World} {A : Option Addr} {L : List M.Item} (h : SeesG g w A L) : SeesI w A L := ⟨h.1.wide (Nat.zero_le _) (Nat.le_refl _), h.2⟩
def StoreGot (w : World) (g p : Nat) (e : Ending) (w' : World) : Prop :=
  ∃ (A : Option Addr) (c : Nat) (L : List M.Item), e = .returned (.slice A L.length c) ∧ L.length ≤ c ∧ SeesG g w' A L ∧ RdrB w' g p ∧ w.grownBy w' (some g)
theorem anyStore_b (w : World) (g p : Nat) (hr : RdrB w g p) (hp : p ≤ 700000) : Calls Try.prog 56 #[.pointer (some ⟨g, 0, none⟩)] w (StoreGot w g (p + 400)) :=
  (anyStore_any w g p hr hp).mono fun e w' ⟨v, L, he, hd, hl, hx, h2, h3⟩ => by
    obtain ⟨A, c, rfl, hc, hrd⟩ := hd
    exact ⟨A, c, L, he, hc, ⟨hrd.wide (by have := hr.lt; omega) (Nat.le_refl _), ⟨by omega, fun x hx' => by have := hx x hx'; omega⟩⟩, h2, h3⟩

/-- a store and two numbers were drawn -/
def DrewSNN (w : World) (e : Ending) (w' : World) : Prop :=
  ∃ (A : Option Addr) (c : Nat) (L : List M.Item) (f t : Int), e = .returned (.tuple #[.slice A L.length c, .int .i64 f, .int .i64 t]) ∧ -100 ≤ f ∧ f ≤ 100 ∧ -100 ≤ t ∧ t ≤ 100 ∧ L.length ≤ c ∧ SeesI w' A L ∧ w.grownBy w' none
theorem drawMovedKeys_any (w : World) (A : Option Addr) (c : Nat) (bs : List Int) (h2 : bs.length ≤ c) (hb : bs.length ≤ 1048576) (h3 : ∀ x ∈ bs, 0 ≤ x ∧ x ≤ 255) (h4 : Rd w 0 w.heap.size A (bs.map (.int .u8))) :
    Calls Try.prog 29 #[.slice A bs.length c] w (DrewSNN w) := by
  have H2 := Lib.hid h2
  have HB := Lib.hid hb
  have H3 := Lib.hid h3
  have H4 := Lib.hid h4
  clear h2 hb h3 h4
  go_enter Try.func29, Try.ntmps29
  go_wp2_with fail
  refine (newReader_any _ A c bs H2.out HB.out H3.out H4.out).mono ?_
  rintro e W ⟨rfl, hr, hg⟩
  have R := Lib.hid (RdrB.of hr)
  have G := Lib.hid hg
  clear hr hg
  go_wp2_with fail
  refine (anyStore_b _ _ 0 R.out (by omega)).mono ?_
  rintro e W ⟨A1, c1, L, rfl, hc1, hd, hr, hg⟩
  replace G := Lib.hid (gb_new G.out hg (fun b e => .inl (by injection e with e; omega)))
  replace R := Lib.hid hr
  have D := Lib.hid hd
  clear hr hg hd
  go_wp2_with fail
  refine (someShards_b _ _ _ R.out (by omega)).mono ?_
  rintro e W ⟨f, hf0, hf1, rfl, hr, hg⟩
  replace D := Lib.hid (D.out.onG hg)
  replace G := Lib.hid (gb_new G.out hg (fun b e => .inl (by injection e with e; omega)))
  replace R := Lib.hid hr
  clear hr hg
  go_wp2_with fail
  refine (someShards_b _ _ _ R.out (by omega)).mono ?_
  rintro e W ⟨t, ht0, ht1, rfl, hr, hg⟩
  replace D := Lib.hid (D.out.onG hg)
  replace G := Lib.hid (gb_new G.out hg (fun b e => .inl (by injection e with e; omega)))
  clear hr hg R
  go_wp2_with fail
  go_ret3
  exact ⟨A1, c1, L, f, t, rfl, by omega, by omega, by omega, by omega, hc1, D.out.sees, G.out⟩
theorem drawShardItems_any (w : World) (A : Option Addr) (c : Nat) (bs : List Int) (h2 : bs.length ≤ c) (hb : bs.length ≤ 1048576) (h3 : ∀ x ∈ bs, 0 ≤ x ∧ x ≤ 255) (h4 : Rd w 0 w.heap.size A (bs.map (.int .u8))) :
    Calls Try.prog 34 #[.slice A bs.length c] w (DrewSNN w) := by
  have H2 := Lib.hid h2
  have HB := Lib.hid hb
  have H3 := Lib.hid h3
  have H4 := Lib.hid h4
  clear h2 hb h3 h4
  go_enter Try.func34, Try.ntmps34
  go_wp2_with fail
  refine (newReader_any _ A c bs H2.out HB.out H3.out H4.out).mono ?_
  rintro e W ⟨rfl, hr, hg⟩
  have R := Lib.hid (RdrB.of hr)
  have G := Lib.hid hg
  clear hr hg
  go_wp2_with fail
  refine (anyStore_b _ _ 0 R.out (by omega)).mono ?_
  rintro e W ⟨A1, c1, L, rfl, hc1, hd, hr, hg⟩
  replace G := Lib.hid (gb_new G.out hg (fun b e => .inl (by injection e with e; omega)))
  replace R := Lib.hid hr
  have D := Lib.hid hd
  clear hr hg hd
  go_wp2_with fail
  refine (someShards_b _ _ _ R.out (by omega)).mono ?_
  rintro e W ⟨f, hf0, hf1, rfl, hr, hg⟩
  replace D := Lib.hid (D.out.onG hg)
  replace G := Lib.hid (gb_new G.out hg (fun b e => .inl (by injection e with e; omega)))
  replace R := Lib.hid hr
  clear hr hg
  by_cases hf : 1 < f
  · have tt : True := trivial
    go_wp2_with fail
    refine (pick_b _ _ _ (f + 1) R.out (by omega) (by omega) (by omega)).mono ?_
    rintro e W ⟨x, hx0, hx1, rfl, hr, hg⟩
    replace D := Lib.hid (D.out.onG hg)
    replace G := Lib.hid (gb_new G.out hg (fun b e => .inl (by injection e with e; omega)))
    replace R := Lib.hid hr
    clear hr hg
    go_wp2_with fail
    refine (pick_b _ _ _ 2 R.out (by omega) (by omega) (by omega)).mono ?_
    rintro e W ⟨y, hy0, hy1, rfl, hr, hg⟩
    replace D := Lib.hid (D.out.onG hg)
    replace G := Lib.hid (gb_new G.out hg (fun b e => .inl (by injection e with e; omega)))
    clear hr hg R
    go_wp2_with fail
    go_ret3
    exact ⟨A1, c1, L, _, _, rfl, by omega, by omega, by omega, by omega, hc1, D.out.sees, G.out⟩
  · by_cases hf' : f = 1
    · subst hf'
      have tt : True := trivial
      go_wp2_with fail
      refine (pick_b _ _ _ (2) R.out (by omega) (by omega) (by omega)).mono ?_
      rintro e W ⟨x, hx0, hx1, rfl, hr, hg⟩
      replace D := Lib.hid (D.out.onG hg)
      replace G := Lib.hid (gb_new G.out hg (fun b e => .inl (by injection e with e; omega)))
      replace R := Lib.hid hr
      clear hr hg
      go_wp2_with fail
      refine (pick_b _ _ _ 2 R.out (by omega) (by omega) (by omega)).mono ?_
      rintro e W ⟨y, hy0, hy1, rfl, hr, hg⟩
      replace D := Lib.hid (D.out.onG hg)
      replace G := Lib.hid (gb_new G.out hg (fun b e => .inl (by injection e with e; omega)))
      clear hr hg R
      go_wp2_with fail
      go_ret3
      exact ⟨A1, c1, L, _, _, rfl, by omega, by omega, by omega, by omega, hc1, D.out.sees, G.out⟩
    · obtain rfl : f = 0 := by omega
      have tt : True := trivial
      go_wp2_with fail
      refine (pick_b _ _ _ (2) R.out (by omega) (by omega) (by omega)).mono ?_
      rintro e W ⟨x, hx0, hx1, rfl, hr, hg⟩
      replace D := Lib.hid (D.out.onG hg)
      replace G := Lib.hid (gb_new G.out hg (fun b e => .inl (by injection e with e; omega)))
      replace R := Lib.hid hr
      clear hr hg
      go_wp2_with fail
      refine (pick_b _ _ _ 2 R.out (by omega) (by omega) (by omega)).mono ?_
      rintro e W ⟨y, hy0, hy1, rfl, hr, hg⟩
      replace D := Lib.hid (D.out.onG hg)
      replace G := Lib.hid (gb_new G.out hg (fun b e => .inl (by injection e with e; omega)))
      clear hr hg R
      go_wp2_with fail
      go_ret3
      exact ⟨A1, c1, L, _, _, rfl, by omega, by omega, by omega, by omega, hc1, D.out.sees, G.out⟩
end Go.Proofs.Ythohidhhhknnaaa
