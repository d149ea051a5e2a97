/- The walks of the draws of entries and logs. -/
import Derived.Test.YthoakomccjjhbaaDrawS
import Derived.Test.YthoakomccjjhbaaDrawM
import Derived.Test.YthoakomccjjhbaaEnt
namespace Go.Proofs.Ythoakomccjjhbaa
open Go.RowKit
set_option linter.unusedVariables false
set_option maxRecDepth 100000

theorem info_entry' : (Try.prog.info? 30).map (fun i => (i.zero, i.size, i.bytes)) = some (some (.agg #[.int .i64 0, .int .i64 0, .slice none 0 0, .int .i64 0]), 4, 48) := by kernel_rfl
theorem four_cell_at {w : World} {t : TypeId} {x y z u : Value} {g : Nat} (hg : g = w.heap.size) : ∀ (j : Nat) (v : Value), [x, y, z, u][j]? = some v → (w.alloc (.cells #[x, y, z, u] t)).cell? ((⟨g, 0, none⟩ : Addr).add j) = some v := by
  subst hg
  intro j v hv
  rw [Addr.add_lit, Nat.zero_add, cell_of_row _ _ _ #[x, y, z, u] t (0, 0) (heap_alloc_new w _)]
  simpa using hv
theorem entry_oneCell {q k t : Int} {A : Option Addr} {n c : Nat} : ∀ u ∈ [Value.int .i64 q, Value.int .i64 k, Value.slice A n c, Value.int .i64 t], u.oneCell' = true := by
  intro u hu
  simp at hu
  rcases hu with rfl | rfl | rfl | rfl <;> rfl
/-- a list of entries of the call's own, the vectors only readable -/
def SemiE (w : World) (lo : Nat) (v : Value) (L : List M.Entry) : Prop :=
  ∃ LV : List (M.Entry × Value), LV.map (·.1) = L ∧ w.ownsRow lo 30 4 v LV.length (cellsE LV) ∧ ∀ p ∈ LV, TV w lo w.heap.size p.2 p.1.item.pos
theorem SemiE.grown {w w' : World} {lo : Nat} {v : Value} {L : List M.Entry} {r : Option Nat} (h : SemiE w lo v L) (hg : w.grownBy w' r) (hr : ∀ g, r = some g → g < lo) : SemiE w' lo v L := by
  obtain ⟨LV, h1, h2, h3⟩ := h
  exact ⟨LV, h1, h2.kept hg (own_ge h2 hr), fun p hp => ((h3 p hp).agree ((Agree.refl _ _ _).by_ hg (fun g e => .inl (hr g e)) (Nat.le_refl _))).wide (Nat.le_refl _) hg.size⟩
theorem SemiE.wide {w : World} {lo lo' : Nat} {v : Value} {L : List M.Entry} (h : SemiE w lo v L) (hl : lo' ≤ lo) : SemiE w lo' v L := by
  obtain ⟨LV, h1, h2, h3⟩ := h
  refine ⟨LV, h1, ⟨h2.1, ?_⟩, fun p hp => (h3 p hp).wide hl (Nat.le_refl _)⟩
  rcases h2.2 with h0 | ⟨g, cap, cur, hv, hg, r⟩
  · exact .inl h0
  · exact .inr ⟨g, cap, cur, hv, by omega, r⟩
theorem SemiE.rd {w : World} {lo : Nat} {v : Value} {L : List M.Entry} (h : SemiE w lo v L) : RdEntries w lo w.heap.size v L := by
  obtain ⟨LV, rfl, h2, h3⟩ := h
  rcases h2.2 with ⟨rfl, hn⟩ | ⟨g, cap, cur, rfl, hg, hh, hnc, hcm, hcs, htake⟩
  · have hl : LV = [] := List.eq_nil_of_length_eq_zero hn
    subst hl
    exact ⟨none, 0, rfl, Nat.le_refl _, RdE.nil_ _ _ _ _⟩
  · refine ⟨some ⟨g, 0, none⟩, cap, by rw [List.length_map], by rw [List.length_map]; exact hnc, fun _ => ⟨g, 0, rfl, hg, lt_of_block hh, fun i x hx => ?_⟩⟩
    rw [List.getElem?_map] at hx
    obtain ⟨p, hp, rfl⟩ := Option.map_eq_some_iff.1 hx
    have hil : i < LV.length := (List.getElem?_eq_some_iff.1 hp).1
    obtain ⟨c0, c1, c2, c3⟩ := cellsE_at hp
    have hr := fun j (hj : j < LV.length * 4) => h2.cellAt j hj
    refine ⟨p.2, ?_, ?_, ?_, ?_, (h3 p (List.mem_of_getElem? hp)).1⟩
    · rw [Nat.zero_add, hr _ (by omega)]; exact c0
    · rw [Nat.zero_add, hr _ (by omega)]; exact c1
    · rw [Nat.zero_add, hr _ (by omega)]; exact c2
    · rw [Nat.zero_add, hr _ (by omega)]; exact c3
theorem semiE_push {w2 w4 : World} {B : Nat} {v v' u : Value} {LV : List (M.Entry × Value)} {y : M.Entry} (hO : w2.ownsRow B 30 4 v LV.length (cellsE LV)) (hI : ∀ p ∈ LV, TV w2 B w2.heap.size p.2 p.1.item.pos)
    (hy : TV w2 B w2.heap.size u y.item.pos) (T1 : w4.ownsRow B 30 4 v' (LV.length + 1) (cellsE LV ++ [.int .i64 y.kind, .int .i64 y.item.key, u, .int .i64 y.item.tags])) (T2 : w2.grownBy w4 v.ownBlock) : SemiE w4 B v' (LV.map (·.1) ++ [y]) := by
  refine ⟨LV ++ [(y, u)], by simp, by rw [cellsE_append, cellsE_one, List.length_append]; exact T1, fun p hp => ?_⟩
  rw [List.mem_append] at hp
  rcases hp with hp | hp
  · exact ((hI p hp).kept hO (by decide) T2).wide (Nat.le_refl _) T2.size
  · simp at hp
    subst hp
    exact (hy.kept hO (by decide) T2).wide (Nat.le_refl _) T2.size

/-- an entry was drawn -/
def EntDrawn (w : World) (g p m : Nat) (e : Ending) (w' : World) : Prop :=
  ∃ (x : M.Entry) (A : Option Addr) (c : Nat), e = .returned (.agg #[.int .i64 x.kind, .int .i64 x.item.key, .slice A x.item.pos.length c, .int .i64 x.item.tags]) ∧ TV w' w.heap.size w'.heap.size (.slice A x.item.pos.length c) x.item.pos ∧ x.item.pos.length ≤ m ∧ RdrB w' g p ∧ w.grownBy w' (some g)
set_option maxHeartbeats 2000000 in
theorem someEntry_any (w : World) (g p : Nat) (hr : RdrB w g p) (hp : p ≤ 800000) :
    Calls Try.prog 82 #[.pointer (some ⟨g, 0, none⟩)] w (EntDrawn w g (p + 16) 4) := by
  have R0 := Lib.hid hr
  have hlt := hr.lt
  clear hr
  go_enter Try.func82, Try.ntmps82
  go_wp2_with fail
  refine (pick_b _ _ p 3 (R0.out.grown (World.grownBy_alloc _ _ none)) (by omega) (by omega) (by omega)).mono ?_
  rintro e w1 ⟨x, hx0, hx1, rfl, hr1, hg1⟩
  have R1 := Lib.hid hr1
  have G1 := Lib.hid (gb_trans (gb_alloc (gb_refl w (some g)) (.cells #[.int .i64 0, .int .i64 0, .slice none 0 0, .int .i64 0] 30)) hg1)
  have hs1 := hg1.size
  simp only [World.size_alloc] at hs1
  have B1 := Lib.hid ((Row.new w 30 (ca := #[.int .i64 0, .int .i64 0, .slice none 0 0, .int .i64 0]) rfl).grown hg1 (by simp; omega))
  clear hr1 hg1
  by_cases hx : x = 0
  · subst hx
    go_wp2_with fail
    refine (pick_b _ _ (p + 1) 12 R1.out (by omega) (by omega) (by omega)).mono ?_
    rintro e w2 ⟨k, hk0, hk1, rfl, hr2, hg2⟩
    have R2 := Lib.hid hr2
    have G2 := Lib.hid (gb_trans G1.out hg2)
    have hs2 := hg2.size
    have B2 := Lib.hid (B1.out.grown hg2 (by simp; omega))
    clear hr2 hg2
    have B3 := Lib.hid (B2.out.alloc (.cells #[] 3))
    have O3 := Lib.hid (show OwnInts .i64 3 (w2.alloc (.cells #[] 3)) w2.heap.size (.slice (some ⟨w2.heap.size, 0, none⟩) 0 0) [] from by
      have := World.ownsRow_made (base := w2.heap.size) (e := 3) (size := 1) w2 #[] 0 (Nat.le_refl _) (by decide) rfl
      simpa [OwnInts] using this)
    have b0 := B3.out.cell 0
    have b1 := B3.out.cell 1
    have b2 := B3.out.cell 2
    have b3 := B3.out.cell 3
    have bf0 := B3.out.frozen 0
    have bf1 := B3.out.frozen 1
    have bf2 := B3.out.frozen 2
    have bf3 := B3.out.frozen 3
    simp only [List.getElem?_cons_zero, List.getElem?_cons_succ] at b0 b1 b2 b3
    go_wp2_with fail
    refine bodyPost_ret (v := .agg #[.int .i64 2, .int .i64 (1 + k), .slice (some ⟨w2.heap.size, 0, none⟩) 0 0, .int .i64 0]) (by simp [results, Try.results82, go_sem, b0, b1, b2, b3]) rfl ⟨⟨2, ⟨1 + k, [], 0⟩⟩, some ⟨w2.heap.size, 0, none⟩, 0, rfl, ?_, by simp, ?_, ?_⟩
    · refine TV.wide (TV.agree O3.out.tv ?_) (by omega) (by simp only [World.size_setCell]; exact Nat.le_refl _)
      repeat (with_reducible refine Agree.set_ (p := ⟨_, _, none⟩) ?_ (by show w.heap.size < _ ∨ _ ≤ w.heap.size; omega) _)
      exact Agree.refl _ _ _
    · repeat (with_reducible refine RdrB.set_ (a := ⟨_, _, none⟩) ?_ (by show g < w.heap.size; omega) _)
      exact (R2.out.grown (World.grownBy_alloc _ _ none)).mono (by omega)
    · repeat (with_reducible refine gb_setCell (p := ⟨_, _, none⟩) ?_ (.inl (by show _ ≤ w.heap.size; omega)) _)
      exact gb_alloc G2.out _
  · have t0 : (x == 0) = false := beq_eq_false_iff_ne.2 hx
    go_wp2_with fail
    refine (someItem_any _ _ (p + 1) R1.out (by omega)).mono ?_
    rintro e w2 ⟨y, A, c, rfl, hd2, hl2, hr2, hg2⟩
    have G2 := Lib.hid (gb_alloc (gb_trans G1.out hg2) (.cells #[.int .i64 y.key, .slice A y.pos.length c, .int .i64 y.tags] 28))
    have hs2 := hg2.size
    have R2 := Lib.hid (hr2.grown (World.grownBy_alloc w2 (.cells #[.int .i64 y.key, .slice A y.pos.length c, .int .i64 y.tags] 28) none))
    have B2 := Lib.hid ((B1.out.grown hg2 (by simp; omega)).alloc (.cells #[.int .i64 y.key, .slice A y.pos.length c, .int .i64 y.tags] 28))
    have C2 := Lib.hid (Row.new w2 28 (ca := #[.int .i64 y.key, .slice A y.pos.length c, .int .i64 y.tags]) rfl)
    have D2 := Lib.hid (hd2.agree ((Agree.refl _ _ _).alloc (.cells #[.int .i64 y.key, .slice A y.pos.length c, .int .i64 y.tags] 28) (Nat.le_refl _)))
    clear hr2 hg2 hd2
    go_wp2_with fail
    refine (pick_b _ _ (p + 1 + 14) 12 R2.out (by omega) (by omega) (by omega)).mono ?_
    rintro e w3 ⟨k, hk0, hk1, rfl, hr3, hg3⟩
    have R3 := Lib.hid hr3
    have G3 := Lib.hid (gb_trans G2.out hg3)
    have hs3 := hg3.size
    simp only [World.size_alloc] at hs3
    have B3 := Lib.hid (B2.out.grown hg3 (by simp; omega))
    have C3 := Lib.hid (C2.out.grown hg3 (by simp; omega))
    have D3 := Lib.hid (D2.out.agree ((Agree.refl _ _ _).by_ hg3 (fun k e => .inl (by injection e with e; omega)) (by simp)))
    clear hr3 hg3
    have b0 := B3.out.cell 0
    have b1 := B3.out.cell 1
    have b2 := B3.out.cell 2
    have b3 := B3.out.cell 3
    have bf0 := B3.out.frozen 0
    have bf1 := B3.out.frozen 1
    have bf2 := B3.out.frozen 2
    have bf3 := B3.out.frozen 3
    simp only [List.getElem?_cons_zero, List.getElem?_cons_succ] at b0 b1 b2 b3
    have q0 := C3.out.cell 0
    have q1 := C3.out.cell 1
    have q2 := C3.out.cell 2
    have qf0 := C3.out.frozen 0
    have qf1 := C3.out.frozen 1
    have qf2 := C3.out.frozen 2
    simp only [List.getElem?_cons_zero, List.getElem?_cons_succ] at q0 q1 q2
    go_wp2_with fail
    refine bodyPost_ret (v := .agg #[.int .i64 1, .int .i64 (1 + k), .slice A y.pos.length c, .int .i64 y.tags]) (by simp [results, Try.results82, go_sem, b0, b1, b2, b3]) rfl ⟨⟨1, ⟨1 + k, y.pos, y.tags⟩⟩, A, c, rfl, ?_, hl2, ?_, ?_⟩
    · refine TV.wide (TV.agree D3.out ?_) (by omega) (by simp only [World.size_setCell]; omega)
      repeat (with_reducible refine Agree.set_ (p := ⟨_, _, none⟩) ?_ (by first | (show w.heap.size < _ ∨ _ ≤ w.heap.size; omega) | (show w2.heap.size < _ ∨ _ ≤ w2.heap.size; omega)) _)
      exact Agree.refl _ _ _
    · repeat (with_reducible refine RdrB.set_ (a := ⟨_, _, none⟩) ?_ (by first | (show g < w.heap.size; omega) | (show g < w2.heap.size; omega)) _)
      exact R3.out.mono (by omega)
    · repeat (with_reducible refine gb_setCell (p := ⟨_, _, none⟩) ?_ (.inl (by first | (show _ ≤ w.heap.size; omega) | (show _ ≤ w2.heap.size; omega))) _)
      exact G3.out

set_option maxHeartbeats 2000000 in
theorem anyEntry_any (w : World) (g p : Nat) (hr : RdrB w g p) (hp : p ≤ 700000) :
    Calls Try.prog 47 #[.pointer (some ⟨g, 0, none⟩)] w (EntDrawn w g (p + 50) 5) := by
  have R0 := Lib.hid hr
  have hlt := hr.lt
  clear hr
  go_enter Try.func47, Try.ntmps47
  go_wp2_with fail
  refine (someEntry_any _ _ p (R0.out.grown (World.grownBy_alloc _ _ none)) (by omega)).mono ?_
  rintro e w1 ⟨y, A, c, rfl, hd1, hl1, hr1, hg1⟩
  have R1 := Lib.hid (hr1.grown (World.grownBy_alloc w1 (.cells #[.int .i64 y.kind, .int .i64 y.item.key, .slice A y.item.pos.length c, .int .i64 y.item.tags] 30) none))
  have G1 := Lib.hid (gb_alloc (gb_trans (gb_alloc (gb_refl w (some g)) (.cells #[.int .i64 0, .int .i64 0, .slice none 0 0, .int .i64 0] 30)) hg1) (.cells #[.int .i64 y.kind, .int .i64 y.item.key, .slice A y.item.pos.length c, .int .i64 y.item.tags] 30))
  have hs1 := hg1.size
  have B1 := Lib.hid (((Row.new w 30 (ca := #[.int .i64 0, .int .i64 0, .slice none 0 0, .int .i64 0]) rfl).grown hg1 (by simp; omega)).alloc (.cells #[.int .i64 y.kind, .int .i64 y.item.key, .slice A y.item.pos.length c, .int .i64 y.item.tags] 30))
  have C1 := Lib.hid (Row.new w1 30 (ca := #[.int .i64 y.kind, .int .i64 y.item.key, .slice A y.item.pos.length c, .int .i64 y.item.tags]) rfl)
  have D1 := Lib.hid (hd1.agree ((Agree.refl _ _ _).alloc (.cells #[.int .i64 y.kind, .int .i64 y.item.key, .slice A y.item.pos.length c, .int .i64 y.item.tags] 30) (Nat.le_refl _)))
  clear hr1 hg1 hd1
  simp only [World.size_alloc] at D1 hs1
  go_wp2_with fail
  refine (pick_b _ _ (p + 16) 16 R1.out (by omega) (by omega) (by omega)).mono ?_
  rintro e w2 ⟨x, hx0, hx1, rfl, hr2, hg2⟩
  have R2 := Lib.hid hr2
  have G2 := Lib.hid (gb_trans G1.out hg2)
  have hz2 := hg2.size
  simp only [World.size_alloc] at hz2
  have B2 := Lib.hid (B1.out.grown hg2 (by simp; omega))
  have C2 := Lib.hid (C1.out.grown hg2 (by simp; omega))
  have D2 := Lib.hid (D1.out.agree ((Agree.refl _ _ _).by_ hg2 (fun k e => .inl (by injection e with e; omega)) (by simp)))
  clear hr2 hg2
  by_cases hx : x = 0
  · subst hx
    go_wp2_with fail
    refine (one_b _ _ (p + 16 + 1) _ [0, 3, 1, 2] (R2.out.grown (World.grownBy_alloc _ _ _)) (by omega) (by simp) (by simp) ((RdInts.lit .i64 w2 R2.out.lt _ _ rfl).wide (by omega) (by simp))).mono ?_
    rintro e w3 ⟨z, _, rfl, hr3, hg3⟩
    have R3 := Lib.hid hr3
    have G3 := Lib.hid (gb_trans (gb_alloc G2.out _) hg3)
    have hz3 := hg3.size
    simp only [World.size_alloc] at hz3
    have B3 := Lib.hid ((B2.out.alloc _).grown hg3 (by simp; omega))
    have C3 := Lib.hid ((C2.out.alloc _).grown hg3 (by simp; omega))
    have D3 := Lib.hid (D2.out.agree (((Agree.refl _ _ _).alloc _ (by omega)).by_ hg3 (fun k e => .inl (by injection e with e; omega)) (by simp; omega)))
    clear hr3 hg3
    have b0 := B3.out.cell 0
    have b1 := B3.out.cell 1
    have b2 := B3.out.cell 2
    have b3 := B3.out.cell 3
    have bf0 := B3.out.frozen 0
    have bf1 := B3.out.frozen 1
    have bf2 := B3.out.frozen 2
    have bf3 := B3.out.frozen 3
    simp only [List.getElem?_cons_zero, List.getElem?_cons_succ] at b0 b1 b2 b3
    have q0 := C3.out.cell 0
    have q1 := C3.out.cell 1
    have q2 := C3.out.cell 2
    have q3 := C3.out.cell 3
    have qf0 := C3.out.frozen 0
    have qf1 := C3.out.frozen 1
    have qf2 := C3.out.frozen 2
    have qf3 := C3.out.frozen 3
    simp only [List.getElem?_cons_zero, List.getElem?_cons_succ] at q0 q1 q2 q3
    go_wp2_with fail
    refine bodyPost_ret (v := .agg #[.int .i64 (z), .int .i64 (y.item).key, .slice A (y.item).pos.length c, .int .i64 (y.item).tags]) (by simp [results, Try.results47, go_sem, b0, b1, b2, b3]) rfl ⟨⟨z, y.item⟩, A, c, rfl, ?_, by show (y.item).pos.length ≤ 5; omega, ?_, ?_⟩
    · refine TV.wide (TV.agree D3.out ?_) (by omega) (by simp only [World.size_setCell]; omega)
      repeat (with_reducible refine Agree.set_ (p := ⟨_, _, none⟩) ?_ (by first | (show w.heap.size < _ ∨ _ ≤ w.heap.size; omega) | (show w1.heap.size < _ ∨ _ ≤ w1.heap.size; omega)) _)
      exact Agree.refl _ _ _
    · repeat (with_reducible refine RdrB.set_ (a := ⟨_, _, none⟩) ?_ (by first | (show g < w.heap.size; omega) | (show g < w1.heap.size; omega)) _)
      exact R3.out.mono (by omega)
    · repeat (with_reducible refine gb_setCell (p := ⟨_, _, none⟩) ?_ (.inl (by first | (show _ ≤ w.heap.size; omega) | (show _ ≤ w1.heap.size; omega))) _)
      exact G3.out
  · by_cases hx' : x = 1
    · subst hx'
      go_wp2_with fail
      refine (anyItem_any _ _ (p + 16 + 1) R2.out (by omega)).mono ?_
      rintro e w3 ⟨z, A3, c3, rfl, hd3, hl3, hr3, hg3⟩
      have R3 := Lib.hid hr3
      have G3 := Lib.hid (gb_trans G2.out hg3)
      have hz3 := hg3.size
      have B3 := Lib.hid (B2.out.grown hg3 (by simp; omega))
      have C3 := Lib.hid (C2.out.grown hg3 (by simp; omega))
      have D3 := Lib.hid hd3
      clear hr3 hg3 hd3
      have b0 := B3.out.cell 0
      have b1 := B3.out.cell 1
      have b2 := B3.out.cell 2
      have b3 := B3.out.cell 3
      have bf0 := B3.out.frozen 0
      have bf1 := B3.out.frozen 1
      have bf2 := B3.out.frozen 2
      have bf3 := B3.out.frozen 3
      simp only [List.getElem?_cons_zero, List.getElem?_cons_succ] at b0 b1 b2 b3
      have q0 := C3.out.cell 0
      have q1 := C3.out.cell 1
      have q2 := C3.out.cell 2
      have q3 := C3.out.cell 3
      have qf0 := C3.out.frozen 0
      have qf1 := C3.out.frozen 1
      have qf2 := C3.out.frozen 2
      have qf3 := C3.out.frozen 3
      simp only [List.getElem?_cons_zero, List.getElem?_cons_succ] at q0 q1 q2 q3
      go_wp2_with fail
      refine bodyPost_ret (v := .agg #[.int .i64 (y.kind), .int .i64 (z).key, .slice A3 (z).pos.length c3, .int .i64 (z).tags]) (by simp [results, Try.results47, go_sem, b0, b1, b2, b3]) rfl ⟨⟨y.kind, z⟩, A3, c3, rfl, ?_, by show (z).pos.length ≤ 5; omega, ?_, ?_⟩
      · refine TV.wide (TV.agree D3.out ?_) (by omega) (by simp only [World.size_setCell]; omega)
        repeat (with_reducible refine Agree.set_ (p := ⟨_, _, none⟩) ?_ (by first | (show w.heap.size < _ ∨ _ ≤ w.heap.size; omega) | (show w1.heap.size < _ ∨ _ ≤ w1.heap.size; omega)) _)
        exact Agree.refl _ _ _
      · repeat (with_reducible refine RdrB.set_ (a := ⟨_, _, none⟩) ?_ (by first | (show g < w.heap.size; omega) | (show g < w1.heap.size; omega)) _)
        exact R3.out.mono (by omega)
      · repeat (with_reducible refine gb_setCell (p := ⟨_, _, none⟩) ?_ (.inl (by first | (show _ ≤ w.heap.size; omega) | (show _ ≤ w1.heap.size; omega))) _)
        exact G3.out
    · have t0 : (x == 0) = false := beq_eq_false_iff_ne.2 hx
      have t1 : (x == 1) = false := beq_eq_false_iff_ne.2 hx'
      have b0 := B2.out.cell 0
      have b1 := B2.out.cell 1
      have b2 := B2.out.cell 2
      have b3 := B2.out.cell 3
      have bf0 := B2.out.frozen 0
      have bf1 := B2.out.frozen 1
      have bf2 := B2.out.frozen 2
      have bf3 := B2.out.frozen 3
      simp only [List.getElem?_cons_zero, List.getElem?_cons_succ] at b0 b1 b2 b3
      have q0 := C2.out.cell 0
      have q1 := C2.out.cell 1
      have q2 := C2.out.cell 2
      have q3 := C2.out.cell 3
      have qf0 := C2.out.frozen 0
      have qf1 := C2.out.frozen 1
      have qf2 := C2.out.frozen 2
      have qf3 := C2.out.frozen 3
      simp only [List.getElem?_cons_zero, List.getElem?_cons_succ] at q0 q1 q2 q3
      go_wp2_with fail
      refine bodyPost_ret (v := .agg #[.int .i64 (y.kind), .int .i64 (y.item).key, .slice A (y.item).pos.length c, .int .i64 (y.item).tags]) (by simp [results, Try.results47, go_sem, b0, b1, b2, b3]) rfl ⟨⟨y.kind, y.item⟩, A, c, rfl, ?_, by show (y.item).pos.length ≤ 5; omega, ?_, ?_⟩
      · refine TV.wide (TV.agree D2.out ?_) (by omega) (by simp only [World.size_setCell]; omega)
        repeat (with_reducible refine Agree.set_ (p := ⟨_, _, none⟩) ?_ (by first | (show w.heap.size < _ ∨ _ ≤ w.heap.size; omega) | (show w1.heap.size < _ ∨ _ ≤ w1.heap.size; omega)) _)
        exact Agree.refl _ _ _
      · repeat (with_reducible refine RdrB.set_ (a := ⟨_, _, none⟩) ?_ (by first | (show g < w.heap.size; omega) | (show g < w1.heap.size; omega)) _)
        exact R2.out.mono (by omega)
      · repeat (with_reducible refine gb_setCell (p := ⟨_, _, none⟩) ?_ (.inl (by first | (show _ ≤ w.heap.size; omega) | (show _ ≤ w1.heap.size; omega))) _)
        exact G2.out
/-- a log was drawn -/
def LogDrawn (w : World) (g p : Nat) (e : Ending) (w' : World) : Prop :=
  ∃ (A : Option Addr) (c : Nat) (L : List M.Entry), e = .returned (.slice A L.length c) ∧ SemiE w' w.heap.size (.slice A L.length c) L ∧ L.length ≤ 34 ∧ (∀ x ∈ L, x.item.pos.length ≤ 5) ∧ RdrB w' g p ∧ w.grownBy w' (some g)
/-- a log behind the reader's block -/
def SeesGE (g : Nat) (w : World) (A : Option Addr) (L : List M.Entry) : Prop := RdE w (g + 1) w.heap.size A L ∧ SmallE L
theorem SeesGE.onG {g : Nat} {w w' : World} {A : Option Addr} {L : List M.Entry} (h : SeesGE g w A L) (hg : w.grownBy w' (some g)) : SeesGE g w' A L :=
  ⟨(h.1.agree (Agree.of_grown_some hg)).wide (Nat.le_refl _) hg.size, h.2⟩
theorem SeesGE.sees {g : Nat} {w : World} {A : Option Addr} {L : List M.Entry} (h : SeesGE g w A L) : SeesE w A L := ⟨h.1.wide (Nat.zero_le _) (Nat.le_refl _), h.2⟩
def DrewE (w : World) (e : Ending) (w' : World) : Prop := ∃ (A : Option Addr) (c : Nat) (L : List M.Entry), e = .returned (.slice A L.length c) ∧ L.length ≤ c ∧ SeesE w' A L ∧ w.grownBy w' none
theorem logDrawn_sees {w w' : World} {g p : Nat} {e : Ending} (h : LogDrawn w g p e w') (hlt : g < w.heap.size) : ∃ (A : Option Addr) (c : Nat) (L : List M.Entry), e = .returned (.slice A L.length c) ∧ L.length ≤ c ∧ SeesGE g w' A L ∧ RdrB w' g p ∧ w.grownBy w' (some g) := by
  obtain ⟨A, c, L, rfl, hs, hl, hx, hr, hg⟩ := h
  obtain ⟨A', c', e, hc, hrd⟩ := hs.rd
  injection e with e1 e2 e3
  subst e1 e3
  exact ⟨A, c, L, rfl, hc, ⟨hrd.wide (by omega) (Nat.le_refl _), by omega, fun x hx' => by have := hx x hx'; omega⟩, hr, hg⟩

end Go.Proofs.Ythoakomccjjhbaa
