/- The walks of the draws of a store with a log and of two stores; replaying and getting in the laws' words. -/
import Derived.Test.YthoakomccjjhbaaDrawE
import Derived.Test.YthoakomccjjhbaaRepL
namespace Go.Proofs.Ythoakomccjjhbaa
open Go.RowKit
set_option linter.unusedVariables false
set_option maxRecDepth 100000

theorem cellsE_setKey {LV : List (M.Entry × Value)} : ∀ {j : Nat} {x : M.Entry} {u : Value} {k : Int}, LV[j]? = some (x, u) → (cellsE LV).set (j * 4 + 1) (.int .i64 k) = cellsE (LV.set j ({ x with item := { x.item with key := k } }, u)) := by
  induction LV with
  | nil => intro j x u k h; simp at h
  | cons q r ih =>
    intro j x u k h
    have hc : ∀ (q : M.Entry × Value) r, cellsE (q :: r) = .int .i64 q.1.kind :: .int .i64 q.1.item.key :: q.2 :: .int .i64 q.1.item.tags :: cellsE r := fun _ _ => rfl
    cases j with
    | zero =>
      simp at h
      subst h
      rfl
    | succ j =>
      rw [hc, show (j + 1) * 4 + 1 = (j * 4 + 1) + 1 + 1 + 1 + 1 from by omega]
      simp only [List.set_cons_succ]
      rw [hc, ih (by simpa using h)]
theorem semi_set {w : World} {lo b n c i : Nat} {LV : List (M.Entry × Value)} {y : M.Entry} {u : Value} {k : Int} (hO : w.ownsRow lo 30 4 (.slice (some ⟨b, 0, none⟩) n c) n (cellsE LV)) (hn : LV.length = n) (hI : ∀ p ∈ LV, TV w lo w.heap.size p.2 p.1.item.pos) (hy : LV[i]? = some (y, u)) :
    SemiE (w.setCell ⟨b, i * 4 + 1, none⟩ (.int .i64 k)) lo (.slice (some ⟨b, 0, none⟩) n c) ((LV.set i ({ y with item := { y.item with key := k } }, u)).map (·.1)) := by
  have hs := hO.stored (i * 4 + 1) (.int .i64 k)
  rw [cellsE_setKey hy] at hs
  refine ⟨_, rfl, by rw [List.length_set, hn]; exact hs.1, fun p hp => ?_⟩
  have hk : ∀ p ∈ LV, TV (w.setCell ⟨b, i * 4 + 1, none⟩ (.int .i64 k)) lo (w.setCell ⟨b, i * 4 + 1, none⟩ (.int .i64 k)).heap.size p.2 p.1.item.pos := fun p hp =>
    ((hI p hp).kept hO (by decide) (by simpa [Value.ownBlock] using hs.2)).wide (Nat.le_refl _) (by simp only [World.size_setCell]; exact Nat.le_refl _)
  rcases List.mem_or_eq_of_mem_set hp with hp | hp
  · exact hk p hp
  · subst hp
    exact hk (y, u) (List.mem_of_getElem? hy)

/-- a store and a log were drawn -/
def DrewSE (w : World) (e : Ending) (w' : World) : Prop :=
  ∃ (A : Option Addr) (c : Nat) (L : List M.Item) (B : Option Addr) (d : Nat) (l : List M.Entry), e = .returned (.tuple #[.slice A L.length c, .slice B l.length d]) ∧ L.length ≤ c ∧ l.length ≤ d ∧ SeesI w' A L ∧ SeesE w' B l ∧ w.grownBy w' none
theorem drewSE_of {w w' : World} {lo hi h0 : Nat} {A B : Option Addr} {c d n : Nat} {L : List M.Item} {l : List M.Entry} (hc : L.length ≤ c) (hn : l.length = n) (ho : SemiE w' lo (.slice B n d) l) (hl : n ≤ 34) (hx : ∀ x ∈ l, x.item.pos.length ≤ 5) (hd : RdI w' hi h0 A L) (hs : Small L) (hh : h0 ≤ w'.heap.size) (hg : w.grownBy w' none) :
    DrewSE w (.returned (.tuple #[.slice A L.length c, .slice B n d])) w' := by
  subst hn
  obtain ⟨B', d', e, hd', hrd⟩ := ho.rd
  injection e with e1 e2 e3
  subst e1 e3
  exact ⟨A, c, L, B, d, l, rfl, hc, hd', ⟨hd.wide (Nat.zero_le _) hh, hs⟩, ⟨hrd.wide (Nat.zero_le _) (Nat.le_refl _), by omega, fun x hx' => by have := hx x hx'; omega⟩, hg⟩

/-! replaying and getting, in the laws' words -/
def GotR (w : World) (r : List M.Item × Int) (e : Ending) (w' : World) : Prop :=
  ∃ A c, e = .returned (.tuple #[.slice A r.1.length c, .int .i64 r.2]) ∧ r.1.length ≤ c ∧ SeesI w' A r.1 ∧ w.grownBy w' none
theorem small_replay {L : List M.Item} {l : List M.Entry} : Small (M.ReplayLog L l).1 := by
  unfold M.ReplayLog
  split
  · rename_i h
    exact Small.of_valid (M.replay_valid l L h.1)
  · exact Small.nil_
theorem gotR_made {w w' : World} {r : List M.Item × Int} {e : Ending} (hs : Small r.1) (h : RepMade w r e w') : GotR w r e w' := by
  obtain ⟨A, c, rfl, hc, ho, hg⟩ := h
  exact ⟨A, c, rfl, hc, ho.sees hs, hg⟩
theorem rl_spec {w : World} {A B : Option Addr} {c d : Nat} {L : List M.Item} {l : List M.Entry} (D : SeesI w A L) (E : SeesE w B l) : Calls Try.prog 70 #[.slice A L.length c, .slice B l.length d] w (GotR w (M.ReplayLog L l)) :=
  (ReplayLog_spec D E).mono fun _ _ h => gotR_made small_replay h
/-- an item is handed back, or none -/
def GotG (w : World) (r : Option M.Item) (e : Ending) (w' : World) : Prop :=
  ∃ A c, e = .returned (.tuple #[.agg #[.int .i64 (r.getD ⟨0, [], 0⟩).key, .slice A (r.getD ⟨0, [], 0⟩).pos.length c, .int .i64 (r.getD ⟨0, [], 0⟩).tags], .bool r.isSome]) ∧ RdInts .i64 w' 0 w'.heap.size (.slice A (r.getD ⟨0, [], 0⟩).pos.length c) (r.getD ⟨0, [], 0⟩).pos ∧ w.grownBy w' none
theorem gotG_none {w w' : World} (h : w.grownBy w' none) : GotG w none (.returned (.tuple #[.agg #[.int .i64 0, .slice none 0 0, .int .i64 0], .bool false])) w' :=
  ⟨none, 0, rfl, ⟨_, _, rfl, Nat.le_refl _, Rd.nil_ _ _ _ _⟩, h⟩
set_option maxHeartbeats 1000000 in
theorem GetItem_impl {w : World} {A : Option Addr} {c : Nat} {L : List M.Item} {q : Int} (D : SeesI w A L) :
    Calls Try.prog 15 #[.slice A L.length c, .int .i64 q] w (GotG w (M.GetItem L q)) := by
  have G0 := Lib.hid (World.grownBy_alloc w (.cells #[.int .i64 0, .slice none 0 0, .int .i64 0] 28) none)
  have HV := Lib.hid (vs_impl (c := c) (D.on G0.out))
  have HD := Lib.hid D
  have HK : Hid (∀ W, w.grownBy W none → Calls Try.prog 57 #[.slice A L.length c, .int .i64 q] W fun e w' => e = .returned (.int .i64 (M.keyAt L q)) ∧ W.grownBy w' none) := Lib.hid fun W hW => indexOf_impl (D.on hW)
  have HCA := Lib.hid (M.keyAt_cases L q)
  clear D
  have B0 := Lib.hid (Row.new w 28 (ca := #[.int .i64 0, .slice none 0 0, .int .i64 0]) rfl)
  cases hv : M.validStore L
  · have HY : Hid (M.GetItem L q = none) := Lib.hid (by unfold M.GetItem; rw [if_neg (by simp [hv])])
    rw [HY.out]
    rw [hv] at HV
    clear hv HCA
    generalize L.length = n at *
    go_enter Try.func15, Try.ntmps15
    go_wp2_with fail
    refine HV.out.mono ?_
    rintro e w1 ⟨rfl, hg⟩
    have G := Lib.hid (gb_trans G0.out hg)
    have B1 := Lib.hid (B0.out.grown hg (by simp))
    clear hg
    have b0 := B1.out.cell 0
    have b1 := B1.out.cell 1
    have b2 := B1.out.cell 2
    have bf0 := B1.out.frozen 0
    have bf1 := B1.out.frozen 1
    have bf2 := B1.out.frozen 2
    simp only [List.getElem?_cons_zero, List.getElem?_cons_succ] at b0 b1 b2
    go_wp2_with fail
    refine bodyPost_ret (v := .tuple #[.agg #[.int .i64 0, .slice none 0 0, .int .i64 0], .bool false]) (by simp [results, Try.results15, go_sem, b0, b1, b2]) rfl (gotG_none ?_)
    repeat (with_reducible refine gb_setCell (p := ⟨_, _, none⟩) ?_ (.inl (by show _ ≤ w.heap.size; omega)) _)
    exact G.out
  · have HY : Hid (M.GetItem L q = L.find? (fun x => decide (x.key = q))) := Lib.hid (by unfold M.GetItem; rw [if_pos hv]; rfl)
    rw [HY.out]
    rw [hv] at HV
    clear hv
    obtain ⟨n, hn⟩ : ∃ n, n = L.length := ⟨_, rfl⟩
    rw [← hn] at HV HK ⊢
    have HN := Lib.hid hn
    clear hn
    rcases HCA.out with ⟨hq, hf⟩ | ⟨i, hi, hq, hf⟩
    · rw [hf]
      rw [hq] at HK
      clear hq hf HY
      go_enter Try.func15, Try.ntmps15
      go_wp2_with fail
      refine HV.out.mono ?_
      rintro e w1 ⟨rfl, hg⟩
      have G := Lib.hid (gb_trans G0.out hg)
      have B1 := Lib.hid (B0.out.grown hg (by simp))
      clear hg
      go_wp2_with fail
      refine (HK.out _ G.out).mono ?_
      rintro e w2 ⟨rfl, hg⟩
      replace G := Lib.hid (gb_trans G.out hg)
      have B2 := Lib.hid (B1.out.grown hg (by simp))
      clear hg
      have b0 := B2.out.cell 0
      have b1 := B2.out.cell 1
      have b2 := B2.out.cell 2
      have bf0 := B2.out.frozen 0
      have bf1 := B2.out.frozen 1
      have bf2 := B2.out.frozen 2
      simp only [List.getElem?_cons_zero, List.getElem?_cons_succ] at b0 b1 b2
      go_wp2_with fail
      refine bodyPost_ret (v := .tuple #[.agg #[.int .i64 0, .slice none 0 0, .int .i64 0], .bool false]) (by simp [results, Try.results15, go_sem, b0, b1, b2]) rfl (gotG_none ?_)
      repeat (with_reducible refine gb_setCell (p := ⟨_, _, none⟩) ?_ (.inl (by show _ ≤ w.heap.size; omega)) _)
      exact G.out
    · rw [hf]
      rw [hq] at HK
      have hin : i < n := by rw [HN.out]; exact hi
      have ik : (i : Int) < n := by omega
      have i0' : decide ((i : Int) < 0) = false := by simp
      obtain ⟨b, o, rfl, hb1, hb2, hJ⟩ := HD.out.1.at_ (List.getElem?_eq_getElem hi)
      have HJ := Lib.hid hJ
      have hpl : L[i].pos.length ≤ 1048576 := HD.out.2.2 _ (List.getElem_mem hi)
      clear hq hf HY hJ
      generalize L[i] = y at *
      go_enter Try.func15, Try.ntmps15
      go_wp2_with fail
      refine HV.out.mono ?_
      rintro e w1 ⟨rfl, hg⟩
      have G := Lib.hid (gb_trans G0.out hg)
      have B1 := Lib.hid (B0.out.grown hg (by simp))
      clear hg
      go_wp2_with fail
      refine (HK.out _ G.out).mono ?_
      rintro e w2 ⟨rfl, hg⟩
      replace G := Lib.hid (gb_trans G.out hg)
      have B2 := Lib.hid (B1.out.grown hg (by simp))
      have hs2 := G.out.size
      have HLT := Lib.hid B2.out.lt
      clear hg
      obtain ⟨u, c0, c1, c2, hu⟩ := HJ.out.agree hb1 hb2 (Agree.of_grown G.out)
      obtain ⟨Au, cu, rfl, hcu, hru⟩ := hu
      have HU := Lib.hid ((show RdInts .i64 w2 0 w.heap.size (.slice Au y.pos.length cu) y.pos from ⟨_, _, rfl, hcu, hru⟩).wide (Nat.le_refl _) hs2)
      clear hcu hru
      go_wp2_with fail
      refine (copyItem_impl w2 (.slice Au y.pos.length cu) 0 w2.heap.size y hpl HU.out (Nat.le_refl _)).mono ?_
      rintro e w3 ⟨Ac, cc, rfl, hc, hg⟩
      have HC := Lib.hid hc.rd
      replace G := Lib.hid (gb_trans G.out hg)
      have B3 := Lib.hid (B2.out.grown hg (by simp))
      clear hc hg c0 c1 c2
      have b0 := B3.out.cell 0
      have b1 := B3.out.cell 1
      have b2 := B3.out.cell 2
      have bf0 := B3.out.frozen 0
      have bf1 := B3.out.frozen 1
      have bf2 := B3.out.frozen 2
      simp only [List.getElem?_cons_zero, List.getElem?_cons_succ] at b0 b1 b2
      go_wp2_with fail
      refine bodyPost_ret (v := .tuple #[.agg #[.int .i64 y.key, .slice Ac y.pos.length cc, .int .i64 y.tags], .bool true]) (by simp [results, Try.results15, go_sem, b0, b1, b2]) rfl ⟨Ac, cc, rfl, RdInts.wide (RdInts.agree HC.out ?_) (Nat.zero_le _) (by simp only [World.size_setCell]; exact Nat.le_refl _), ?_⟩
      · repeat (with_reducible refine Agree.set_ (p := ⟨_, _, none⟩) ?_ (.inl (by show w.heap.size < _; exact HLT.out)) _)
        exact Agree.refl _ _ _
      · repeat (with_reducible refine gb_setCell (p := ⟨_, _, none⟩) ?_ (.inl (by show _ ≤ w.heap.size; omega)) _)
        exact G.out
theorem rlog_eq {L : List M.Item} {l : List M.Entry} (h1 : M.validStore L = true) (h2 : M.validLog l = true) : M.ReplayLog L l = ((M.replay L l).1, ((M.replay L l).2 : Int)) := by
  unfold M.ReplayLog
  rw [if_pos ⟨h1, h2⟩]
theorem SeesE.drop' {w : World} {A : Option Addr} {L : List M.Entry} (h : SeesE w A L) (k : Nat) : SeesE w (A.map fun x => x.add (k * 4)) (L.drop k) := by
  refine ⟨fun hn => ?_, h.2.drop k⟩
  have hne : L ≠ [] := by intro e; subst e; simp at hn
  obtain ⟨b, o, rfl, _⟩ := h.1 hne
  have he : (some (⟨b, o, none⟩ : Addr)).map (fun x => x.add (k * 4)) = (some (⟨b, o, none⟩ : Addr)).map (fun x => (⟨x.block, x.off + k * 4, none⟩ : Addr)) := by
    simp only [Option.map_some, Addr.add]
    split <;> simp_all
  rw [he]
  exact (h.1.drop k) hn
end Go.Proofs.Ythoakomccjjhbaa
