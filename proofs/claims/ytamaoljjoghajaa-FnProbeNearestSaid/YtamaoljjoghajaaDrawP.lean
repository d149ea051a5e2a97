/- The draw of a search among centres. -/
import Derived.Test.YtamaoljjoghajaaDrawZ
import Derived.Test.YtamaoljjoghajaaVecX
namespace Go.Proofs.Ytamaoljjoghajaa
open Go.RowKit
set_option linter.unusedVariables false
set_option linter.unusedSimpArgs false
set_option maxRecDepth 100000
/-- centres behind the reader's block -/
def SeesVG (g : Nat) (w : World) (A : Option Addr) (C : List (List Int)) : Prop := RdV w (g + 1) w.heap.size A C ∧ C.length ≤ 1000 ∧ ∀ c ∈ C, c.length ≤ 1048576
theorem SeesVG.onG {g : Nat} {w w' : World} {A : Option Addr} {C : List (List Int)} (h : SeesVG g w A C) (hg : w.grownBy w' (some g)) : SeesVG g w' A C :=
  ⟨(h.1.agree (Agree.of_grown_some hg)).wide (Nat.le_refl _) hg.size, h.2⟩
theorem SeesVG.sees {g : Nat} {w : World} {A : Option Addr} {C : List (List Int)} (h : SeesVG g w A C) : SeesV w A C := ⟨h.1.wide (Nat.zero_le _) (Nat.le_refl _), h.2⟩
theorem SemiV.seesG {w : World} {lo g : Nat} {v : Value} {LV : List (List Int × Value)} (h : SemiV w lo v LV) (hn : LV.length ≤ 1000) (hlt : g < lo) : ∃ A c, v = .slice A (LV.map (·.1)).length c ∧ (LV.map (·.1)).length ≤ c ∧ SeesVG g w A (LV.map (·.1)) := by
  obtain ⟨ho, ht, hl⟩ := h
  have hs : ∀ c ∈ LV.map (·.1), c.length ≤ 1048576 := fun c hc => by
    obtain ⟨q, hq, rfl⟩ := List.mem_map.1 hc
    have := hl q hq
    omega
  rcases ho.2 with ⟨e, h0⟩ | ⟨b, cap, cur, e, hg, hh, hnc, hcm, hcs, htk⟩
  · have : LV = [] := List.eq_nil_of_length_eq_zero h0
    subst this
    exact ⟨none, 0, e, Nat.le_refl _, fun hn => absurd rfl hn, by simp, by simp⟩
  · refine ⟨some ⟨b, 0, none⟩, cap, by rw [List.length_map]; exact e, by rw [List.length_map]; exact hnc, fun _ => ⟨b, 0, rfl, by omega, (Array.getElem?_eq_some_iff.1 hh).1, fun i c hc => ?_⟩, by rw [List.length_map]; exact hn, hs⟩
    rw [List.getElem?_map] at hc
    obtain ⟨q, hq, rfl⟩ := Option.map_eq_some_iff.1 hc
    have hil : i < LV.length := (List.getElem?_eq_some_iff.1 hq).1
    refine ⟨q.2, ?_, (ht q (List.mem_of_getElem? hq)).1.wide (by omega) (Nat.le_refl _)⟩
    subst e
    rw [Nat.zero_add, ho.cellAt i (by omega), List.getElem?_map, hq]
    rfl
def CentresGot (w : World) (g p : Nat) (e : Ending) (w' : World) : Prop :=
  ∃ (A : Option Addr) (c : Nat) (C : List (List Int)), e = .returned (.slice A C.length c) ∧ C.length ≤ c ∧ SeesVG g w' A C ∧ RdrB w' g p ∧ w.grownBy w' (some g)
theorem anyCentres_b (w : World) (g p : Nat) (hr : RdrB w g p) (hp : p ≤ 800000) : Calls Try.prog 56 #[.pointer (some ⟨g, 0, none⟩)] w (CentresGot w g (p + 100)) :=
  (anyCentres_any w g p hr hp).mono fun e w' ⟨v, LV, he, hs, hl, h2, h3⟩ => by
    obtain ⟨A, c, rfl, hc, hv⟩ := hs.seesG (g := g) (by omega) hr.lt
    exact ⟨A, c, _, he, hc, hv, h2, h3⟩
/-- centres, a store, a vector and two numbers were drawn -/
def DrewP (w : World) (e : Ending) (w' : World) : Prop :=
  ∃ (A0 : Option Addr) (c0 : Nat) (C : List (List Int)) (A : Option Addr) (c : Nat) (L : List M.Item) (B : Option Addr) (d : Nat) (m : List Int) (many k : Int), e = .returned (.tuple #[.slice A0 C.length c0, .slice A L.length c, .slice B m.length d, .int .i64 many, .int .i64 k]) ∧ SeesV w' A0 C ∧ SeesI w' A L ∧ SeesN .i64 w' B m ∧ w.grownBy w' none
theorem drawProbe_any (w : World) (A : Option Addr) (c : Nat) (bs : List Int) (h2 : bs.length ≤ c) (hb : bs.length ≤ 1048576) (h3 : ∀ x ∈ bs, 0 ≤ x ∧ x ≤ 255) (h4 : Rd w 0 w.heap.size A (bs.map (.int .u8))) :
    Calls Try.prog 25 #[.slice A bs.length c] w (DrewP w) := by
  have H2 := Lib.hid h2
  have HB := Lib.hid hb
  have H3 := Lib.hid h3
  have H4 := Lib.hid h4
  clear h2 hb h3 h4
  go_enter Try.func25, Try.ntmps25
  go_wp2_with fail
  refine (newReader_any _ A c bs H2.out HB.out H3.out H4.out).mono ?_
  rintro e W ⟨rfl, hr, hg⟩
  have R := Lib.hid (RdrB.of hr)
  have G := Lib.hid hg
  clear hr hg
  go_wp2_with fail
  refine (anyCentres_b _ _ 0 R.out (by omega)).mono ?_
  rintro e W ⟨A0, c0, C, rfl, hc0, hv, hr, hg⟩
  replace G := Lib.hid (gb_new G.out hg (fun b e => .inl (by injection e with e; omega)))
  replace R := Lib.hid hr
  have V := Lib.hid hv
  clear hr hg hv
  go_wp2_with fail
  refine (anyStore_b _ _ _ R.out (by omega)).mono ?_
  rintro e W ⟨A1, c1, L, rfl, hc1, hd, hr, hg⟩
  replace V := Lib.hid (V.out.onG hg)
  replace G := Lib.hid (gb_new G.out hg (fun b e => .inl (by injection e with e; omega)))
  replace R := Lib.hid hr
  have D := Lib.hid hd
  clear hr hg hd
  go_wp2_with fail
  refine (anyVector_b _ _ _ R.out (by omega)).mono ?_
  rintro e W ⟨B1, d1, m, rfl, hc2, hn, hr, hg⟩
  replace V := Lib.hid (V.out.onG hg)
  replace D := Lib.hid (D.out.onG hg)
  replace G := Lib.hid (gb_new G.out hg (fun b e => .inl (by injection e with e; omega)))
  replace R := Lib.hid hr
  have N := Lib.hid hn
  clear hr hg hn
  go_wp2_with (go_at_call 57; refine (one_b _ _ _ _ [1, 2, 3, 4, 0, 5, 1] (R.out.grown (World.grownBy_alloc _ _ _)) (by omega) (by simp) (by simp) ((RdInts.lit .i64 W R.out.lt _ _ rfl).wide (by omega) (by simp))).mono ?_; rintro e W2 ⟨many, hmv, rfl, hr1, hg1⟩)
  have hgA := gb_new (World.grownBy_alloc W _ (some _)) hg1 (fun b e => .inr rfl)
  replace V := Lib.hid (V.out.onG hgA)
  replace D := Lib.hid (D.out.onG hgA)
  replace N := Lib.hid (N.out.onG hgA)
  replace G := Lib.hid (gb_new G.out hgA (fun b e => .inl (by injection e with e; omega)))
  replace R := Lib.hid hr1
  clear hr1 hg1 hgA hmv
  go_wp2_with fail
  refine (someK_b _ _ _ R.out (by omega)).mono ?_
  rintro e W ⟨k, rfl, hr, hg⟩
  replace V := Lib.hid (V.out.onG hg)
  replace D := Lib.hid (D.out.onG hg)
  replace N := Lib.hid (N.out.onG hg)
  replace G := Lib.hid (gb_new G.out hg (fun b e => .inl (by injection e with e; omega)))
  clear hr hg R
  go_wp2_with fail
  refine bodyPost_ret (v := .tuple #[.slice A0 C.length c0, .slice A1 L.length c1, .slice B1 m.length d1, .int .i64 many, .int .i64 k]) (by simp [results, Try.results25, go_sem]) rfl ?_
  exact ⟨A0, c0, C, A1, c1, L, B1, d1, m, many, k, rfl, V.out.sees, D.out.sees, N.out.sees, G.out⟩
theorem pn_le (C : List (List Int)) (L : List M.Item) (m : List Int) (many k : Int) : (M.ProbeNearest C L m many k).length ≤ 16 := by
  unfold M.ProbeNearest
  split
  · rename_i h
    unfold M.probeOk at h
    rw [Bool.and_eq_true] at h
    exact Nat.le_trans (M.nearest_len _ _ _ _) (Nat.le_trans (probed_le _ _ _ _) (M.validStore_of (M.canFind_of h.2).1).1)
  · exact Nat.zero_le _
theorem pn_ok (C : List (List Int)) (L : List M.Item) (m : List Int) (many k : Int) : OkHits (M.ProbeNearest C L m many k) := by
  have hl := pn_le C L m many k
  unfold M.ProbeNearest at hl ⊢
  split
  · rename_i h
    rw [if_pos h] at hl
    unfold M.probeOk at h
    rw [Bool.and_eq_true] at h
    have hc := M.canFind_of h.2
    have hv : M.validStore (M.probed C L m many.toNat) = true := M.valid_filter hc.1 _
    exact ⟨M.nearest_ws _ _ _ _, M.nearest_kd hv _ _ _, M.nearest_ok hv hc.2.2.1 _, hl⟩
  · exact ⟨List.Pairwise.nil, List.Pairwise.nil, by simp, by simp⟩
/-- what is told of each hit -/
theorem pn_mem {C : List (List Int)} {L : List M.Item} {m : List Int} {many k : Int} {h : M.Hit} (hm : h ∈ M.ProbeNearest C L m many k) :
    M.areVecs C = true ∧ M.isVec m = true ∧ ∃ (i : Nat) (hi : i < L.length), L[i].key = h.key ∧ M.dist 3 L[i].pos m = h.dist ∧ M.isVec L[i].pos = true ∧ (M.centre C L[i].pos : Int) ∈ M.ProbeOrder C m many ∧ (∀ j (hj : j < i), (L[j]'(by omega)).key ≠ L[i].key) := by
  unfold M.ProbeNearest at hm
  split at hm
  · rename_i hok
    have hok' := hok
    unfold M.probeOk at hok'
    rw [Bool.and_eq_true, Bool.and_eq_true] at hok'
    obtain ⟨⟨ha, hmn⟩, hcf⟩ := hok'
    have hc := M.canFind_of hcf
    unfold M.nearest at hm
    have h1 := (M.sortH_perm _).mem_iff.1 (List.mem_of_mem_take hm)
    unfold M.nears at h1
    obtain ⟨x, hx, rfl⟩ := List.mem_map.1 h1
    have hx' := List.mem_filter.1 (show x ∈ L.filter _ from hx)
    obtain ⟨i, hi, rfl⟩ := List.getElem_of_mem hx'.1
    have hcen : (M.centre C L[i].pos : Int) ∈ M.probesL C m many.toNat := by simpa using hx'.2
    refine ⟨ha, hc.2.2.1, i, hi, rfl, rfl, vecs_ofR hc.1 _ (List.getElem_mem hi), ?_, fun j hj => ?_⟩
    · unfold M.ProbeOrder
      rw [ha, hc.2.2.1, hmn]
      exact hcen
    · have hp := (M.validStore_of hc.1).2.2
      have := List.pairwise_iff_getElem.1 hp j i (by rw [List.length_map]; omega) (by rw [List.length_map]; exact hi) hj
      simp at this
      omega
  · cases hm
end Go.Proofs.Ytamaoljjoghajaa
