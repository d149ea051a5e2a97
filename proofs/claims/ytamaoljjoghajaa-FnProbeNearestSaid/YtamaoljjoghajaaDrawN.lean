/- The walks of the draws of a store with a vector. -/
import Derived.Test.YtamaoljjoghajaaShNI
import Derived.Test.YtamaoljjoghajaaShNS
namespace Go.Proofs.Ytamaoljjoghajaa
open Go.RowKit
set_option linter.unusedVariables false
set_option maxRecDepth 100000

def IntDrawn (w : World) (g p : Nat) (e : Ending) (w' : World) : Prop := ∃ v : Int, e = .returned (.int .i64 v) ∧ RdrB w' g p ∧ w.grownBy w' (some g)
theorem anyKind_b (w : World) (g p : Nat) (hr : RdrB w g p) (hp : p ≤ 900000) : Calls Try.prog 50 #[.pointer (some ⟨g, 0, none⟩)] w (IntDrawn w g (p + 1)) := by
  have HR := Lib.hid hr
  have hl := hr.lt
  clear hr
  go_enter Try.func50, Try.ntmps50
  go_wp2_with (go_at_call 57; refine (one_b _ g p _ [1, 2, 3, 4, 1, 2, 3, 4, 1, 2, 0, 5] (HR.out.grown (World.grownBy_alloc _ _ _)) (by omega) (by simp) (by simp) ((RdInts.lit .i64 w hl _ _ rfl).wide (by omega) (by simp))).mono ?_; rintro e w1 ⟨v, hv, rfl, hr1, hg1⟩; have HR1 := Lib.hid hr1; have HG := Lib.hid hg1; clear hv hr1 hg1)
  go_ret
  exact ⟨v, rfl, HR1.out, gb_new (World.grownBy_alloc w _ _) HG.out (by simp)⟩
theorem someK_b (w : World) (g p : Nat) (hr : RdrB w g p) (hp : p ≤ 900000) : Calls Try.prog 52 #[.pointer (some ⟨g, 0, none⟩)] w (IntDrawn w g (p + 1)) := by
  have HR := Lib.hid hr
  have hl := hr.lt
  clear hr
  go_enter Try.func52, Try.ntmps52
  go_wp2_with (go_at_call 57; refine (one_b _ g p _ [1, 2, 3, 5, 16, 4, 0, 17] (HR.out.grown (World.grownBy_alloc _ _ _)) (by omega) (by simp) (by simp) ((RdInts.lit .i64 w hl _ _ rfl).wide (by omega) (by simp))).mono ?_; rintro e w1 ⟨v, hv, rfl, hr1, hg1⟩; have HR1 := Lib.hid hr1; have HG := Lib.hid hg1; clear hv hr1 hg1)
  go_ret
  exact ⟨v, rfl, HR1.out, gb_new (World.grownBy_alloc w _ _) HG.out (by simp)⟩
/-- integers behind the reader's block -/
def SeesNG (g : Nat) (w : World) (A : Option Addr) (l : List Int) : Prop := Rd w (g + 1) w.heap.size A (l.map (.int .i64)) ∧ l.length ≤ 1048576
theorem SeesNG.onG {g : Nat} {w w' : World} {A : Option Addr} {l : List Int} (h : SeesNG g w A l) (hg : w.grownBy w' (some g)) : SeesNG g w' A l :=
  ⟨(h.1.agree (Agree.of_grown_some hg)).wide (Nat.le_refl _) hg.size, h.2⟩
theorem SeesNG.sees {g : Nat} {w : World} {A : Option Addr} {l : List Int} (h : SeesNG g w A l) : SeesN .i64 w A l := ⟨h.1.wide (Nat.zero_le _) (Nat.le_refl _), h.2⟩
def VecGot (w : World) (g p : Nat) (e : Ending) (w' : World) : Prop :=
  ∃ (A : Option Addr) (c : Nat) (l : List Int), e = .returned (.slice A l.length c) ∧ l.length ≤ c ∧ SeesNG g w' A l ∧ RdrB w' g p ∧ w.grownBy w' (some g)
theorem anyVector_b (w : World) (g p : Nat) (hr : RdrB w g p) (hp : p ≤ 900000) : Calls Try.prog 51 #[.pointer (some ⟨g, 0, none⟩)] w (VecGot w g (p + 16)) :=
  (anyVector_any w g p hr hp).mono fun e w' ⟨v, l, he, hd, hl, h2, h3⟩ => by
    obtain ⟨A, c, rfl, hc, hrd⟩ := hd.1
    exact ⟨A, c, l, he, hc, ⟨hrd.wide (by have := hr.lt; omega) (Nat.le_refl _), by omega⟩, h2, h3⟩
/-- a store, shards, a kind, a vector and a number were drawn -/
def DrewQ (w : World) (e : Ending) (w' : World) : Prop :=
  ∃ (A : Option Addr) (c : Nat) (L : List M.Item) (s kind : Int) (B : Option Addr) (d : Nat) (m : List Int) (k : Int), e = .returned (.tuple #[.slice A L.length c, .int .i64 s, .int .i64 kind, .slice B m.length d, .int .i64 k]) ∧ L.length ≤ c ∧ SeesI w' A L ∧ SeesN .i64 w' B m ∧ w.grownBy w' none
theorem drawShardNearest_any (w : World) (A : Option Addr) (c : Nat) (bs : List Int) (h2 : bs.length ≤ c) (hb : bs.length ≤ 1048576) (h3 : ∀ x ∈ bs, 0 ≤ x ∧ x ≤ 255) (h4 : Rd w 0 w.heap.size A (bs.map (.int .u8))) :
    Calls Try.prog 19 #[.slice A bs.length c] w (DrewQ w) := by
  have H2 := Lib.hid h2
  have HB := Lib.hid hb
  have H3 := Lib.hid h3
  have H4 := Lib.hid h4
  clear h2 hb h3 h4
  go_enter Try.func19, Try.ntmps19
  go_wp2_with fail
  refine (newReader_any _ A c bs H2.out HB.out H3.out H4.out).mono ?_
  rintro e W ⟨rfl, hr, hg⟩
  have R := Lib.hid (RdrB.of hr)
  have G := Lib.hid hg
  clear hr hg
  go_wp2_with fail
  refine (anyStore_b _ _ 0 R.out (by omega)).mono ?_
  rintro e W ⟨A1, c1, L, rfl, hc1, hd, hr, hg⟩
  replace G := Lib.hid (gb_new G.out hg (fun b e => .inl (by injection e with e; omega)))
  replace R := Lib.hid hr
  have D := Lib.hid hd
  clear hr hg hd
  go_wp2_with fail
  refine (someShards_b _ _ _ R.out (by omega)).mono ?_
  rintro e W ⟨s, hf0, hf1, rfl, hr, hg⟩
  replace D := Lib.hid (D.out.onG hg)
  replace G := Lib.hid (gb_new G.out hg (fun b e => .inl (by injection e with e; omega)))
  replace R := Lib.hid hr
  clear hr hg
  go_wp2_with fail
  refine (anyKind_b _ _ _ R.out (by omega)).mono ?_
  rintro e W ⟨kind, rfl, hr, hg⟩
  replace D := Lib.hid (D.out.onG hg)
  replace G := Lib.hid (gb_new G.out hg (fun b e => .inl (by injection e with e; omega)))
  replace R := Lib.hid hr
  clear hr hg
  go_wp2_with fail
  refine (anyVector_b _ _ _ R.out (by omega)).mono ?_
  rintro e W ⟨B1, d1, m, rfl, hc2, hn, hr, hg⟩
  replace D := Lib.hid (D.out.onG hg)
  replace G := Lib.hid (gb_new G.out hg (fun b e => .inl (by injection e with e; omega)))
  replace R := Lib.hid hr
  have N := Lib.hid hn
  clear hr hg hn
  go_wp2_with fail
  refine (someK_b _ _ _ R.out (by omega)).mono ?_
  rintro e W ⟨k, rfl, hr, hg⟩
  replace D := Lib.hid (D.out.onG hg)
  replace N := Lib.hid (N.out.onG hg)
  replace G := Lib.hid (gb_new G.out hg (fun b e => .inl (by injection e with e; omega)))
  clear hr hg R
  go_wp2_with fail
  refine bodyPost_ret (v := .tuple #[.slice A1 L.length c1, .int .i64 s, .int .i64 kind, .slice B1 m.length d1, .int .i64 k]) (by simp [results, Try.results19, go_sem]) rfl ?_
  exact ⟨A1, c1, L, s, kind, B1, d1, m, k, rfl, hc1, D.out.sees, N.out.sees, G.out⟩
/-- hits that are handed back are seen -/
def GotX (w : World) (l : List M.Hit) (e : Ending) (w' : World) : Prop := ∃ A c, e = .returned (.slice A l.length c) ∧ l.length ≤ c ∧ SeesX w' A l ∧ w.grownBy w' none
theorem gotX_of {w w' : World} {l : List M.Hit} {e : Ending} (hl : l.length ≤ 16) (h : HitsMade w l e w') : GotX w l e w' := by
  obtain ⟨A, c, rfl, hc, ho, hg⟩ := h
  exact ⟨A, c, rfl, hc, ho.sees (by omega), hg⟩
theorem sn_le (L : List M.Item) (s kind : Int) (m : List Int) (k : Int) : (M.ShardNearest L s kind m k).length ≤ 16 := by
  unfold M.ShardNearest
  split
  · rename_i h
    exact Nat.le_trans (M.nearest_len _ _ _ _) (M.validStore_of (M.canFind_of h.1).1).1
  · exact Nat.zero_le _
theorem ne_le (L : List M.Item) (kind : Int) (m : List Int) (k : Int) : (M.Nearest L kind m k).length ≤ 16 := by
  unfold M.Nearest
  split
  · rename_i h
    exact Nat.le_trans (M.nearest_len _ _ _ _) (M.validStore_of (M.canFind_of h).1).1
  · exact Nat.zero_le _
end Go.Proofs.Ytamaoljjoghajaa
