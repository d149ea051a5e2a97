/- An item that is handed back lies in memory of its own. -/
import Derived.Test.YthoakomccjjhbaaDrawR
namespace Go.Proofs.Ythoakomccjjhbaa
open Go.RowKit
set_option linter.unusedVariables false
set_option linter.unusedSimpArgs false
set_option maxRecDepth 100000

/-- an item is handed back, or none -/
def GotF (w : World) (r : Option M.Item) (e : Ending) (w' : World) : Prop :=
  ∃ A c, e = .returned (.tuple #[.agg #[.int .i64 (r.getD ⟨0, [], 0⟩).key, .slice A (r.getD ⟨0, [], 0⟩).pos.length c, .int .i64 (r.getD ⟨0, [], 0⟩).tags], .bool r.isSome]) ∧ RdInts .i64 w' w.heap.size w'.heap.size (.slice A (r.getD ⟨0, [], 0⟩).pos.length c) (r.getD ⟨0, [], 0⟩).pos ∧ w.grownBy w' none
theorem gotF_none {w w' : World} (h : w.grownBy w' none) : GotF w none (.returned (.tuple #[.agg #[.int .i64 0, .slice none 0 0, .int .i64 0], .bool false])) w' :=
  ⟨none, 0, rfl, ⟨_, _, rfl, Nat.le_refl _, Rd.nil_ _ _ _ _⟩, h⟩
set_option maxHeartbeats 1000000 in
theorem GetItem_fresh {w : World} {A : Option Addr} {c : Nat} {L : List M.Item} {q : Int} (D : SeesI w A L) :
    Calls Try.prog 15 #[.slice A L.length c, .int .i64 q] w (GotF w (M.GetItem L q)) := by
  have G0 := Lib.hid (World.grownBy_alloc w (.cells #[.int .i64 0, .slice none 0 0, .int .i64 0] 28) none)
  have HV := Lib.hid (vs_impl (c := c) (D.on G0.out))
  have HD := Lib.hid D
  have HK : Hid (∀ W, w.grownBy W none → Calls Try.prog 57 #[.slice A L.length c, .int .i64 q] W fun e w' => e = .returned (.int .i64 (M.keyAt L q)) ∧ W.grownBy w' none) := Lib.hid fun W hW => indexOf_impl (D.on hW)
  have HCA := Lib.hid (M.keyAt_cases L q)
  clear D
  have B0 := Lib.hid (Row.new w 28 (ca := #[.int .i64 0, .slice none 0 0, .int .i64 0]) rfl)
  cases hv : M.validStore L
  · have HY : Hid (M.GetItem L q = none) := Lib.hid (by unfold M.GetItem; rw [if_neg (by simp [hv])])
    rw [HY.out]
    rw [hv] at HV
    clear hv HCA
    generalize L.length = n at *
    go_enter Try.func15, Try.ntmps15
    go_wp2_with fail
    refine HV.out.mono ?_
    rintro e w1 ⟨rfl, hg⟩
    have G := Lib.hid (gb_trans G0.out hg)
    have B1 := Lib.hid (B0.out.grown hg (by simp))
    clear hg
    have b0 := B1.out.cell 0
    have b1 := B1.out.cell 1
    have b2 := B1.out.cell 2
    have bf0 := B1.out.frozen 0
    have bf1 := B1.out.frozen 1
    have bf2 := B1.out.frozen 2
    simp only [List.getElem?_cons_zero, List.getElem?_cons_succ] at b0 b1 b2
    go_wp2_with fail
    refine bodyPost_ret (v := .tuple #[.agg #[.int .i64 0, .slice none 0 0, .int .i64 0], .bool false]) (by simp [results, Try.results15, go_sem, b0, b1, b2]) rfl (gotF_none ?_)
    repeat (with_reducible refine gb_setCell (p := ⟨_, _, none⟩) ?_ (.inl (by show _ ≤ w.heap.size; omega)) _)
    exact G.out
  · have HY : Hid (M.GetItem L q = L.find? (fun x => decide (x.key = q))) := Lib.hid (by unfold M.GetItem; rw [if_pos hv]; rfl)
    rw [HY.out]
    rw [hv] at HV
    clear hv
    obtain ⟨n, hn⟩ : ∃ n, n = L.length := ⟨_, rfl⟩
    rw [← hn] at HV HK ⊢
    have HN := Lib.hid hn
    clear hn
    rcases HCA.out with ⟨hq, hf⟩ | ⟨i, hi, hq, hf⟩
    · rw [hf]
      rw [hq] at HK
      clear hq hf HY
      go_enter Try.func15, Try.ntmps15
      go_wp2_with fail
      refine HV.out.mono ?_
      rintro e w1 ⟨rfl, hg⟩
      have G := Lib.hid (gb_trans G0.out hg)
      have B1 := Lib.hid (B0.out.grown hg (by simp))
      clear hg
      go_wp2_with fail
      refine (HK.out _ G.out).mono ?_
      rintro e w2 ⟨rfl, hg⟩
      replace G := Lib.hid (gb_trans G.out hg)
      have B2 := Lib.hid (B1.out.grown hg (by simp))
      clear hg
      have b0 := B2.out.cell 0
      have b1 := B2.out.cell 1
      have b2 := B2.out.cell 2
      have bf0 := B2.out.frozen 0
      have bf1 := B2.out.frozen 1
      have bf2 := B2.out.frozen 2
      simp only [List.getElem?_cons_zero, List.getElem?_cons_succ] at b0 b1 b2
      go_wp2_with fail
      refine bodyPost_ret (v := .tuple #[.agg #[.int .i64 0, .slice none 0 0, .int .i64 0], .bool false]) (by simp [results, Try.results15, go_sem, b0, b1, b2]) rfl (gotF_none ?_)
      repeat (with_reducible refine gb_setCell (p := ⟨_, _, none⟩) ?_ (.inl (by show _ ≤ w.heap.size; omega)) _)
      exact G.out
    · rw [hf]
      rw [hq] at HK
      have hin : i < n := by rw [HN.out]; exact hi
      have ik : (i : Int) < n := by omega
      have i0' : decide ((i : Int) < 0) = false := by simp
      obtain ⟨b, o, rfl, hb1, hb2, hJ⟩ := HD.out.1.at_ (List.getElem?_eq_getElem hi)
      have HJ := Lib.hid hJ
      have hpl : L[i].pos.length ≤ 1048576 := HD.out.2.2 _ (List.getElem_mem hi)
      clear hq hf HY hJ
      generalize L[i] = y at *
      go_enter Try.func15, Try.ntmps15
      go_wp2_with fail
      refine HV.out.mono ?_
      rintro e w1 ⟨rfl, hg⟩
      have G := Lib.hid (gb_trans G0.out hg)
      have B1 := Lib.hid (B0.out.grown hg (by simp))
      clear hg
      go_wp2_with fail
      refine (HK.out _ G.out).mono ?_
      rintro e w2 ⟨rfl, hg⟩
      replace G := Lib.hid (gb_trans G.out hg)
      have B2 := Lib.hid (B1.out.grown hg (by simp))
      have hs2 := G.out.size
      have HLT := Lib.hid B2.out.lt
      clear hg
      obtain ⟨u, c0, c1, c2, hu⟩ := HJ.out.agree hb1 hb2 (Agree.of_grown G.out)
      obtain ⟨Au, cu, rfl, hcu, hru⟩ := hu
      have HU := Lib.hid ((show RdInts .i64 w2 0 w.heap.size (.slice Au y.pos.length cu) y.pos from ⟨_, _, rfl, hcu, hru⟩).wide (Nat.le_refl _) hs2)
      clear hcu hru
      go_wp2_with fail
      refine (copyItem_impl w2 (.slice Au y.pos.length cu) 0 w2.heap.size y hpl HU.out (Nat.le_refl _)).mono ?_
      rintro e w3 ⟨Ac, cc, rfl, hc, hg⟩
      have HC := Lib.hid hc.rd
      replace G := Lib.hid (gb_trans G.out hg)
      have B3 := Lib.hid (B2.out.grown hg (by simp))
      clear hc hg c0 c1 c2
      have b0 := B3.out.cell 0
      have b1 := B3.out.cell 1
      have b2 := B3.out.cell 2
      have bf0 := B3.out.frozen 0
      have bf1 := B3.out.frozen 1
      have bf2 := B3.out.frozen 2
      simp only [List.getElem?_cons_zero, List.getElem?_cons_succ] at b0 b1 b2
      go_wp2_with fail
      refine bodyPost_ret (v := .tuple #[.agg #[.int .i64 y.key, .slice Ac y.pos.length cc, .int .i64 y.tags], .bool true]) (by simp [results, Try.results15, go_sem, b0, b1, b2]) rfl ⟨Ac, cc, rfl, RdInts.wide (RdInts.agree HC.out ?_) (Nat.le_of_lt HLT.out) (by simp only [World.size_setCell]; exact Nat.le_refl _), ?_⟩
      · repeat (with_reducible refine Agree.set_ (p := ⟨_, _, none⟩) ?_ (.inl (by show w.heap.size < _; exact HLT.out)) _)
        exact Agree.refl _ _ _
      · repeat (with_reducible refine gb_setCell (p := ⟨_, _, none⟩) ?_ (.inl (by show _ ≤ w.heap.size; omega)) _)
        exact G.out
end Go.Proofs.Ythoakomccjjhbaa
