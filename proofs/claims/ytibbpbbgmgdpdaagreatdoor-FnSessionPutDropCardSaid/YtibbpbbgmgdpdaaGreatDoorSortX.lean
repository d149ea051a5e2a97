/- The sort of hits: the library's contract at this program's comparison. -/
import Derived.Test.YtibbpbbgmgdpdaaGreatDoorHitB
import Derived.Test.YtibbpbbgmgdpdaaGreatDoorShelf
import Derived.Deep.RegionHeld3
namespace Go.Proofs.YtibbpbbgmgdpdaaGreatDoor
open Go.RowKit Go.Lib Go.Sort Go.Shelf
set_option linter.unusedVariables false
set_option maxRecDepth 100000

instance hitInhabited : Inhabited M.Hit := ⟨⟨0, 0⟩⟩
/-- grown, and further on the tape -/
def Grw (a b : World) : Prop := a.grownBy b none ∧ a.drawn ≤ b.drawn
theorem Grw.refl (a : World) : Grw a a := ⟨gb_refl _ _, Nat.le_refl _⟩
theorem Grw.alloc {a b : World} (h : Grw a b) (o : Obj) : Grw a (b.alloc o) := ⟨gb_alloc h.1 o, h.2⟩
theorem Grw.drew {a b : World} (h : Grw a b) : Grw a b.drew := ⟨gb_drew h.1, Nat.le_succ_of_le h.2⟩
theorem Grw.trans {a b c : World} (h : Grw a b) (k : Grw b c) : Grw a c := ⟨gb_trans h.1 k.1, Nat.le_trans h.2 k.2⟩
theorem Grw.form {a b : World} (h : Grw a b) : ∃ q os, b = grow (a.drewN q) os := by
  obtain ⟨⟨h1, h2, h3, h4, h5⟩, h6⟩ := h
  refine ⟨b.drawn - a.drawn, b.heap.extract a.heap.size b.heap.size, ?_⟩
  obtain ⟨bh, bt, bd, bo, bu⟩ := b
  obtain ⟨ah, at_, ad, ao, au⟩ := a
  simp only at h1 h2 h3 h4 h5 h6
  subst h1 h2 h3
  unfold grow World.drewN
  simp only [World.mk.injEq, true_and, and_true]
  refine ⟨?_, by omega⟩
  apply Array.ext_getElem?
  intro i
  by_cases hi : i < ah.size
  · rw [Array.getElem?_append_left hi]
    exact h5 i hi (by simp)
  · rw [Array.getElem?_append_right (by omega), Array.getElem?_extract]
    split
    · congr 1; omega
    · rw [Array.getElem?_eq_none (by omega)]

def cmpI (a b : Int) : Int := if a < b then -1 else if b < a then 1 else 0
theorem isNaN_any (x : Int) (w : World) : Calls Tryz.prog 126 #[.int .i64 x] w fun e w' => e = .returned (.bool false) ∧ w' = w := by
  have t : (x != x) = false := by simp
  go_enter Tryz.func126, Tryz.ntmps126
  go_wp2_with fail
  go_ret
  exact ⟨rfl, rfl⟩
theorem compare_any (x y : Int) (w : World) : Calls Tryz.prog 98 #[.int .i64 x, .int .i64 y] w fun e w' => e = .returned (.int .i64 (cmpI x y)) ∧ w' = w := by
  have hN := fun z W => isNaN_any z W
  unfold cmpI
  by_cases h1 : x < y
  · rw [if_pos h1]
    go_enter Tryz.func98, Tryz.ntmps98
    go_wp2_with (go_at_call 126; refine (hN _ _).mono ?_; rintro e w' ⟨rfl, rfl⟩)
    go_ret
    exact ⟨rfl, rfl⟩
  · rw [if_neg h1]
    by_cases h2 : y < x
    · rw [if_pos h2]
      have h3 : x > y := h2
      go_enter Tryz.func98, Tryz.ntmps98
      go_wp2_with (go_at_call 126; refine (hN _ _).mono ?_; rintro e w' ⟨rfl, rfl⟩)
      go_ret
      exact ⟨rfl, rfl⟩
    · rw [if_neg h2]
      have h3 : ¬ x > y := h2
      go_enter Tryz.func98, Tryz.ntmps98
      go_wp2_with (go_at_call 126; refine (hN _ _).mono ?_; rintro e w' ⟨rfl, rfl⟩)
      go_ret
      exact ⟨rfl, rfl⟩
/-- the first that is not zero -/
def orI (a b : Int) : Int := if a = 0 then b else a
theorem or_any (a b : Int) (A : Option Addr) (c lo hi : Nat) (w : World) (hr : Rd w lo hi A ([a, b].map (.int .i64))) : Calls Tryz.prog 97 #[.slice A 2 c] w fun e w' => e = .returned (.int .i64 (orI a b)) ∧ w' = w := by
  obtain ⟨g, o, rfl, _, _, hc⟩ := hr (by simp)
  have c0 : w.cell? ⟨g, o, none⟩ = some (.int .i64 a) := hc 0 _ rfl
  have c1 : w.cell? ⟨g, o + 1, none⟩ = some (.int .i64 b) := hc 1 _ rfl
  have HO : Hid (orI a b = if a = 0 then b else a) := Lib.hid rfl
  generalize orI a b = r at HO ⊢
  clear hc hr
  go_enter Tryz.func97, Tryz.ntmps97
  go_wp2_with fail
  go_loop [8] (fun i => ∃ k : Nat, k ≤ 2 ∧ i = .int .i64 k ∧ (0 < k → a = 0) ∧ (1 < k → b = 0)) (fun i => 2 - (intOf i).toNat)
  case atStart => exact ⟨0, by omega, rfl, by omega, by omega⟩
  case round =>
    obtain ⟨k, hk, rfl, h0, h1⟩ := hrel
    have hk3 : k = 0 ∨ k = 1 ∨ k = 2 := by omega
    rcases hk3 with rfl | rfl | rfl
    · clear h0 h1 hk
      by_cases ha : a = 0
      · have HA := Lib.hid ha
        have t : (a != 0) = false := by simp [ha]
        clear ha
        go_wp2_with fail
        go_round
        case rel => exact ⟨1, by omega, rfl, fun _ => HA.out, by omega⟩
        case measure => simp [intOf]
      · have HA : Hid (r = a) := Lib.hid (by rw [HO.out, if_neg ha])
        have t : (a != 0) = true := by simp [ha]
        clear ha
        go_wp2_with fail
        go_ret
        exact ⟨ret_int HA.out.symm, rfl⟩
    · have HA := Lib.hid (h0 (by omega))
      clear h0 h1 hk
      by_cases hb : b = 0
      · have HB := Lib.hid hb
        have t : (b != 0) = false := by simp [hb]
        clear hb
        go_wp2_with fail
        go_round
        case rel => exact ⟨2, by omega, rfl, fun _ => HA.out, fun _ => HB.out⟩
        case measure => simp [intOf]
      · have HB : Hid (r = b) := Lib.hid (by rw [HO.out, if_pos HA.out])
        have t : (b != 0) = true := by simp [hb]
        clear hb
        go_wp2_with fail
        go_ret
        exact ⟨ret_int HB.out.symm, rfl⟩
    · have HB : Hid (r = 0) := Lib.hid (by rw [HO.out, if_pos (h0 (by omega)), h1 (by omega)])
      clear h0 h1 hk
      go_wp2_with fail
      go_ret
      exact ⟨ret_int HB.out.symm, rfl⟩

/-- hits by their distances, then by their keys -/
def hitCmp (x y : M.Hit) : Int := orI (cmpI x.dist y.dist) (cmpI x.key y.key)
theorem hitCmp_lt (x y : M.Hit) : ltOf hitCmp x y = M.hlt x y := by
  rw [Bool.eq_iff_iff, M.hlt_iff]
  unfold ltOf hitCmp orI cmpI
  rw [decide_eq_true_eq]
  repeat' split
  all_goals omega
theorem hit_swo : SWO (ltOf hitCmp) where
  irrefl x := by rw [hitCmp_lt, M.hlt_not]; omega
  trans x y z h1 h2 := by rw [hitCmp_lt, M.hlt_iff] at *; omega
  ntrans x y z h1 h2 := by rw [hitCmp_lt, M.hlt_not] at *; omega

set_option maxHeartbeats 1000000 in
theorem compareHits_any (x y : M.Hit) (w : World) : Calls Tryz.prog 77 #[.agg #[.int .i64 x.key, .int .i64 x.dist], .agg #[.int .i64 y.key, .int .i64 y.dist]] w fun e w' => e = .returned (.int .i64 (hitCmp x y)) ∧ Grw w w' := by
  have HC : Hid (∀ a b W, Calls Tryz.prog 98 #[.int .i64 a, .int .i64 b] W fun e w' => e = .returned (.int .i64 (cmpI a b)) ∧ w' = W) := Lib.hid fun a b W => compare_any a b W
  have HO : Hid (∀ a b (W : World), Calls Tryz.prog 97 #[.slice (some ⟨W.heap.size, 0, none⟩) 2 2] (W.alloc (.cells #[.int .i64 a, .int .i64 b] 3)).drew fun e w' => e = .returned (.int .i64 (orI a b)) ∧ w' = (W.alloc (.cells #[.int .i64 a, .int .i64 b] 3)).drew) := Lib.hid fun a b W => or_any a b _ 2 W.heap.size (W.heap.size + 1) _ (RdInts.rd (RdInts.lit .i64 W (Nat.le_refl _) 3 [a, b] rfl))
  have HX : Hid (hitCmp x y = orI (cmpI x.dist y.dist) (cmpI x.key y.key)) := Lib.hid rfl
  generalize hitCmp x y = r at HX ⊢
  go_enter Tryz.func77, Tryz.ntmps77
  go_wp2_with fail
  refine wp_name (fun W => Row W w.heap.size 65 [.int .i64 x.key, .int .i64 x.dist] ∧ Row W (w.heap.size + 1) 65 [.int .i64 y.key, .int .i64 y.dist] ∧ Grw w W) ⟨(Row.new w _ rfl).alloc _, (by have := Row.new (w.alloc (.cells #[.int .i64 x.key, .int .i64 x.dist] 65)) 65 (ca := #[.int .i64 y.key, .int .i64 y.dist]) rfl; simpa using this), ((Grw.refl w).alloc _).alloc _⟩ ?_
  rintro W ⟨h1, h2, hg⟩
  have x0 := h1.cell 0
  have x1 := h1.cell 1
  have y0 := h2.cell 0
  have y1 := h2.cell 1
  simp only [List.getElem?_cons_zero, List.getElem?_cons_succ] at x0 x1 y0 y1
  have HG := Lib.hid hg
  have HCE : Hid (∀ V, W.grownBy V none → V.cell? ⟨w.heap.size, 0, none⟩ = some (.int .i64 x.key) ∧ V.cell? ⟨w.heap.size, 1, none⟩ = some (.int .i64 x.dist) ∧ V.cell? ⟨w.heap.size + 1, 0, none⟩ = some (.int .i64 y.key) ∧ V.cell? ⟨w.heap.size + 1, 1, none⟩ = some (.int .i64 y.dist)) := Lib.hid fun V hV => ⟨hV.cell x0 (by simp), hV.cell x1 (by simp), hV.cell y0 (by simp), hV.cell y1 (by simp)⟩
  clear h1 h2 hg
  go_region_held3 (fun V => V.cell? ⟨w.heap.size, 0, none⟩ = some (.int .i64 x.key) ∧ V.cell? ⟨w.heap.size, 1, none⟩ = some (.int .i64 x.dist) ∧ V.cell? ⟨w.heap.size + 1, 0, none⟩ = some (.int .i64 y.key) ∧ V.cell? ⟨w.heap.size + 1, 1, none⟩ = some (.int .i64 y.dist))
    (first | exact HCE.out _ (gb_drew (gb_refl _ _)) | exact HCE.out _ (gb_drew (gb_alloc (gb_refl _ _) _)) | exact HCE.out _ (gb_alloc (gb_drew (gb_refl _ _)) _))
    (first
      | (go_at_call 97; refine (HO.out _ _ W).mono ?_; rintro e w9 ⟨rfl, rfl⟩)
      | (go_at_call 98; refine (HC.out _ _ _).mono ?_; rintro e w9 ⟨rfl, rfl⟩))
  go_wp2_with fail
  go_ret
  exact ⟨ret_int HX.out.symm, (HG.out.alloc _).drew⟩

/-! the row of the hits, sorted -/
def encX (h : M.Hit) : List Value := [.int .i64 h.key, .int .i64 h.dist]
theorem flat_cells (d : Array M.Hit) : flatK encX 2 d = (cellsX d.toList).toArray := by
  apply Array.ext
  · simp [cellsX_length]
  · intro t h1 h2
    rw [size_flatK] at h1
    have hj : t / 2 < d.size := by omega
    have hg := get_flatK encX 2 d t h1
    rw [getElem!_pos _ t (by rw [size_flatK]; exact h1)] at hg
    rw [hg, getElem!_pos d (t / 2) hj]
    obtain ⟨c0, c1⟩ := cellsX_at (l := d.toList) (i := t / 2) (h := d[t / 2]) (by rw [Array.getElem?_toList, Array.getElem?_eq_getElem hj])
    have e : t = t / 2 * 2 ∨ t = t / 2 * 2 + 1 := by omega
    apply Option.some.inj
    rw [← Array.getElem?_eq_getElem h2, List.getElem?_toArray]
    rcases e with e | e
    · have hm : t % 2 = 0 := by omega
      rw [hm]
      conv => rhs; rw [e]
      rw [c0]
      rfl
    · have hm : t % 2 = 1 := by omega
      rw [hm]
      conv => rhs; rw [e]
      rw [c1]
      rfl
theorem OwnX.block {w : World} {lo n c g : Nat} {l : List M.Hit} (h : OwnX w lo (.slice (some ⟨g, 0, none⟩) n c) l) : ∃ cur, w.heap[g]? = some (.cells cur 65 (0, 0)) ∧ lo ≤ g ∧ l.length = n ∧ n ≤ c ∧ c ≤ maxLen ∧ cur.size = c * 2 ∧ cur.toList.take (n * 2) = cellsX l := by
  rcases h.2 with ⟨e, _⟩ | ⟨g', cap, cur, e, hg, hh, hnc, hcm, hcs, ht⟩
  · cases e
  · injection e with e1 e2 e3
    injection e1 with e1
    injection e1 with e1 _ _
    subst e1 e2 e3
    exact ⟨cur, hh, hg, rfl, hnc, hcm, hcs, ht⟩
theorem take_put (cur : Array Value) (ts : List Value) (h : ts.length ≤ cur.size) : (putCells id 0 ts.toArray cur).toList.take ts.length = ts := by
  apply List.ext_getElem?
  intro j
  by_cases hj : j < ts.length
  · rw [List.getElem?_take_of_lt hj, Array.getElem?_toList]
    simp [putCells, hj, show j < cur.size by omega]
  · rw [List.getElem?_take_eq_none (by omega), List.getElem?_eq_none (by omega)]
theorem sorted_own {w : World} {lo c g m : Nat} {l : List M.Hit} {d' : Array M.Hit} {os : Array Obj} (h : OwnX w lo (.slice (some ⟨g, 0, none⟩) l.length c) l) (hd : d'.size = l.length) :
    OwnX (sortWorldK encX 2 w g 0 m d' os) lo (.slice (some ⟨g, 0, none⟩) l.length c) d'.toList ∧ w.grownBy (sortWorldK encX 2 w g 0 m d' os) (some g) := by
  obtain ⟨cur, hb, hlo, _, hnc, hcm, hcs, ht⟩ := h.block
  have hg : g < w.heap.size := (Array.getElem?_eq_some_iff.1 hb).1
  unfold sortWorldK putRowK
  rw [flat_cells]
  refine ⟨?_, ?_⟩
  · have hl' : d'.toList.length = l.length := by rw [Array.length_toList, hd]
    refine ⟨by rw [cellsX_length], .inr ⟨g, c, putCells id 0 (cellsX d'.toList).toArray cur, by rw [hl'], hlo, ?_, ?_, hcm, by simp [putCells, hcs], ?_⟩⟩
    · rw [heap_grow_old _ _ (by simpa using hg)]
      simp [putRow, mapBlock, Sort.ahead, Array.getElem?_modify, hb, onCells]
    · rw [hl']; exact hnc
    · rw [hl']
      have hx : (cellsX d'.toList).length = l.length * 2 := by rw [cellsX_length, hl']
      rw [← hx]
      exact take_put cur (cellsX d'.toList) (by rw [hx, hcs]; omega)
  · refine ⟨rfl, rfl, rfl, by simp, fun k hk hne => ?_⟩
    rw [heap_grow_old _ _ (by simpa using hk)]
    have : g ≠ k := fun e => hne (by rw [e])
    simp [putRow, mapBlock, Sort.ahead, Array.getElem?_modify, this]
theorem hits_sorted {l : List M.Hit} {d' : Array M.Hit} (hp : PermIn 0 l.length l.toArray d') (hs : SortedIn (ltOf hitCmp) 0 l.length d') : d'.toList = M.sortH l := by
  obtain ⟨h1, _, h3⟩ := hp
  have hn : d'.size = l.length := by simpa using h1
  have e1 : d'.extract 0 l.length = d' := by rw [← hn]; simp
  have e2 : l.toArray.extract 0 l.length = l.toArray := by simp
  rw [e1, e2] at h3
  refine (M.sortH_unique h3 ?_).symm
  unfold M.WS
  rw [List.pairwise_iff_getElem]
  intro i j hi hj hij
  rw [Array.length_toList] at hi hj
  have h := hs i j (Nat.zero_le _) hij (by omega)
  rw [hitCmp_lt, getElem!_pos d' i hi, getElem!_pos d' j hj] at h
  simpa using h

theorem cmpLays_hits (blk off size : Nat) (w : World) : CmpLays Tryz.prog 77 #[] encX 2 hitCmp blk off size w :=
  fun m os dk _ x y => (compareHits_any x y _).mono fun _ _ ⟨he, hg⟩ => ⟨he, hg.form⟩
theorem sortFunc_hits {w : World} {lo c : Nat} {A : Option Addr} {l : List M.Hit} (ho : OwnX w lo (.slice A l.length c) l) (hl : l.length ≤ 1048576) :
    Calls Tryz.prog 76 #[.slice A l.length c, .func (.func 77) #[] #[]] w fun e w' => e = .returned (.tuple #[]) ∧ OwnX w' lo (.slice A l.length c) (M.sortH l) ∧ w.grownBy w' (Value.ownBlock (.slice A l.length c)) := by
  have hlen := M.sortH_len l
  rcases ho.2 with ⟨e, hn⟩ | ⟨g, cap, cur, e, hg, hh, hnc, hcm, hcs, ht⟩
  · have hl0 : l = [] := List.eq_nil_of_length_eq_zero hn
    subst hl0
    have h := AnyF.slices_SortFunc_none (P := Tryz.prog) (ρ := Tryz.sortHit_ren) { Tryz.sortHit with } A c (.func (.func 77) #[] #[]) w
    refine Calls.mono h ?_
    rintro e w' ⟨rfl, rfl⟩
    exact ⟨rfl, ho, gb_refl _ _⟩
  · injection e with e1 e2 e3
    subst e1 e3
    have eg : ∀ args w, (callFunc 77 args).run Tryz.prog w = .ok (.enter 77 args) w := enters_of Tryz.func77 (by kernel_rfl) rfl
    have hH : HoldsK encX 2 w g 0 l.toArray := by
      unfold HoldsK
      rw [flat_cells]
      intro j hj
      have hj' : j < (cellsX l).length := by simpa using hj
      rw [cellsX_length] at hj'
      refine ⟨?_, by rw [Nat.zero_add]; exact ho.frozenAt j⟩
      rw [Nat.zero_add, ho.cellAt j hj', getElem!_pos _ j hj]
      simp [List.getElem?_eq_getElem (show j < (cellsX l).length by rw [cellsX_length]; exact hj')]
    have h := AnyQ.slices_SortFunc Tryz.sortHit 2 Tryz.isAgg65 Tryz.sizeOf65 encX (fun _ => rfl) (fun x v hv => by simp [encX] at hv; rcases hv with rfl | rfl <;> rfl) hitCmp hit_swo 77 #[] g 0 c l.toArray w eg (cmpLays_hits g 0 _ w) hH (Array.getElem?_eq_some_iff.1 hh).1 (by simp; omega)
    have h' : Calls Tryz.prog 76 _ _ _ := h
    rw [List.size_toArray] at h'
    refine h'.mono ?_
    rintro e w' ⟨rfl, d', n, os, hp, hs, rfl⟩
    have hd : d'.size = l.length := by simpa using hp.1
    have h1 := sorted_own (m := n) (os := os) ho hd
    rw [hits_sorted hp hs] at h1
    exact ⟨rfl, h1.1, h1.2⟩
end Go.Proofs.YtibbpbbgmgdpdaaGreatDoor
