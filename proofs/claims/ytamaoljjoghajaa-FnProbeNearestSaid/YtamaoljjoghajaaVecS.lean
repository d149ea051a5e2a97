/- The walk of the sort of the centres' numbers. -/
import Derived.Test.YtamaoljjoghajaaVecG
import Derived.Test.YtamaoljjoghajaaVecP
import Derived.Test.YtamaoljjoghajaaVecC
import Derived.Test.YtamaoljjoghajaaSortX
import Derived.Shelf.SlSortCmp.Insertion1
namespace Go.Proofs.Ytamaoljjoghajaa
open Go.RowKit Go.Sort Go.Lib Go.Shelf
set_option linter.unusedVariables false
set_option linter.unusedSimpArgs false
set_option maxRecDepth 100000
/-- centres, as seen below a bound -/
theorem RdV.cell {w : World} {lo hi : Nat} {A : Option Addr} {C : List (List Int)} (D : RdV w lo hi A C) {b o : Nat} (hA : A = some ⟨b, o, none⟩) {i : Nat} (hi' : i < C.length) :
    ∃ Au cu, w.cell? ⟨b, o + i, none⟩ = some (.slice Au C[i].length cu) ∧ Rd w lo hi Au (C[i].map (.int .i64)) := by
  obtain ⟨b', o', e, _, _, u, c0, hu⟩ := D.at_ (List.getElem?_eq_getElem hi')
  rw [hA] at e
  cases e
  obtain ⟨Au, cu, rfl, hcu, hru⟩ := hu
  exact ⟨Au, cu, c0, hru⟩
set_option maxHeartbeats 1000000 in
theorem probeLess_any {w : World} {hi g2 g3 b o c d : Nat} {B : Option Addr} {C : List (List Int)} {m : List Int} (hhi : hi ≤ w.heap.size) (D : RdV w 0 hi (some ⟨b, o, none⟩) C) (E : Rd w 0 hi B (m.map (.int .i64)))
    (hv : ∀ c ∈ C, M.isVec c = true) (hm : M.isVec m = true) (b2 : w.cell? ⟨g2, 0, none⟩ = some (.slice (some ⟨b, o, none⟩) C.length c)) (b3 : w.cell? ⟨g3, 0, none⟩ = some (.slice B m.length d)) (x y : Nat) (hx : x < C.length) (hy : y < C.length) :
    Calls Try.prog 99 #[.int .i64 x, .int .i64 y, .pointer (some ⟨g2, 0, none⟩), .pointer (some ⟨g3, 0, none⟩)] w fun e w' => e = .returned (.int .i64 (cmpI (M.cdist C m x) (M.cdist C m y))) ∧ GrwV w w' := by
  obtain ⟨Au, cu, c0, hru⟩ := D.cell rfl hx
  obtain ⟨Az, cz, c1, hrz⟩ := D.cell rfl hy
  have HC0 : Hid (∀ x' : LaterG w, Calls Try.prog 67 #[.int .i64 3, .slice Au C[x].length cu, .slice B m.length d] x'.w fun e w' => e = .returned (.int .i64 (M.cdist C m x)) ∧ GrwV x'.w w') := Lib.hid (fun x' => by
    unfold M.cdist; rw [M.getD_of hx]; exact distance_grw (hv _ (List.getElem_mem hx)) hm (hru.keep x'.h.1 hhi) (E.keep x'.h.1 hhi))
  have HC1 : Hid (∀ x' : LaterG w, Calls Try.prog 67 #[.int .i64 3, .slice Az C[y].length cz, .slice B m.length d] x'.w fun e w' => e = .returned (.int .i64 (M.cdist C m y)) ∧ GrwV x'.w w') := Lib.hid (fun x' => by
    unfold M.cdist; rw [M.getD_of hy]; exact distance_grw (hv _ (List.getElem_mem hy)) hm (hrz.keep x'.h.1 hhi) (E.keep x'.h.1 hhi))
  have HK : Hid (∀ a b W, Calls Try.prog 100 #[.int .i64 a, .int .i64 b] W fun e w' => e = .returned (.int .i64 (cmpI a b)) ∧ GrwV W w') := Lib.hid fun a b W => (compare_any a b W).mono (by rintro e w' ⟨rfl, rfl⟩; exact ⟨rfl, GrwV.refl _⟩)
  have l0 : ∀ x' : LaterG w, x'.w.cell? ⟨b, o + x, none⟩ = some (.slice Au C[x].length cu) := fun x' => x'.cell c0
  have l1 : ∀ x' : LaterG w, x'.w.cell? ⟨b, o + y, none⟩ = some (.slice Az C[y].length cz) := fun x' => x'.cell c1
  have l2 : ∀ x' : LaterG w, x'.w.cell? ⟨g2, 0, none⟩ = some (.slice (some ⟨b, o, none⟩) C.length c) := fun x' => x'.cell b2
  have l3 : ∀ x' : LaterG w, x'.w.cell? ⟨g3, 0, none⟩ = some (.slice B m.length d) := fun x' => x'.cell b3
  have kx : ((x : Nat) : Int) < C.length := by omega
  have kx0 : (0 : Int) ≤ x := by omega
  have ky : ((y : Nat) : Int) < C.length := by omega
  have ky0 : (0 : Int) ≤ y := by omega
  clear D E hv hm b2 b3 c0 c1 hru hrz
  generalize M.cdist C m x = p at *
  generalize M.cdist C m y = q at *
  generalize C[x].length = xn at *
  generalize C[y].length = yn at *
  generalize C.length = n at *
  generalize m.length = k at *
  go_enter Try.func99, Try.ntmps99
  go_wp2_with fail
  refine wp_region_laterG (by kernel_rfl) (by kernel_rfl) ?_
  repeat (go_big_quiet_step ((first | (go_at_call_of 67 Au; exact laterG_call (HC0.out _)) | (go_at_call_of 67 Az; exact laterG_call (HC1.out _)) | (go_at_call 100; exact laterG_call (HK.out _ _ _)))))
  refine wpQuiet_nil ?_
  rintro _ ⟨x', rfl⟩
  have GX := Lib.hid x'.h
  go_wp2_with fail
  go_ret
  exact ⟨rfl, GX.out⟩

/-! the row of the numbers, sorted -/
def encF {N : Nat} (x : Fin (N + 1)) : Value := .int .i64 (x.val : Int)
theorem take_putF {N : Nat} (cur : Array Value) (d : Array (Fin (N + 1))) (h : d.size ≤ cur.size) : (putCells encF 0 d cur).toList.take d.size = d.toList.map encF := by
  apply List.ext_getElem?
  intro j
  by_cases hj : j < d.size
  · rw [List.getElem?_take_of_lt hj, Array.getElem?_toList]
    simp [putCells, hj, show j < cur.size by omega]
  · rw [List.getElem?_take_eq_none (by omega), List.getElem?_eq_none (by simp; omega)]
theorem sorted_ownF {N : Nat} {w : World} {lo c g m : Nat} {l : List Value} {d' : Array (Fin (N + 1))} {os : Array Obj} (h : w.ownsRow lo 3 1 (.slice (some ⟨g, 0, none⟩) (N + 1) c) (N + 1) l) (hd : d'.size = N + 1) :
    (sortWorld encF w g 0 m d' os).ownsRow lo 3 1 (.slice (some ⟨g, 0, none⟩) (N + 1) c) (N + 1) (d'.toList.map encF) ∧ w.grownBy (sortWorld encF w g 0 m d' os) (some g) := by
  rcases h.2 with ⟨e, hn⟩ | ⟨g', cap, cur, e, hg, hh, hnc, hcm, hcs, ht⟩
  · cases e
  injection e with e1 e2 e3
  injection e1 with e1
  injection e1 with e1 _ _
  subst e1 e3
  have hgl : g < w.heap.size := (Array.getElem?_eq_some_iff.1 hh).1
  have hcs' : cur.size = c := by simpa using hcs
  unfold sortWorld putRow
  refine ⟨⟨by simp [hd], .inr ⟨g, c, putCells encF 0 d' cur, rfl, hg, ?_, hnc, hcm, by simp [putCells, hcs'], ?_⟩⟩, ?_⟩
  · rw [heap_grow_old _ _ (by simpa [mapBlock, Sort.ahead] using hgl)]
    simp [mapBlock, Sort.ahead, Array.getElem?_modify, hh, onCells]
  · have := take_putF cur d' (by omega)
    simpa [hd] using this
  · refine ⟨rfl, rfl, rfl, by simp [grow, mapBlock, Sort.ahead], fun k hk hne => ?_⟩
    rw [heap_grow_old _ _ (by simpa [mapBlock, Sort.ahead] using hk)]
    have : g ≠ k := fun e => hne (by rw [e])
    simp [mapBlock, Sort.ahead, Array.getElem?_modify, this]
def cfF (C : List (List Int)) (m : List Int) {N : Nat} (x y : Fin (N + 1)) : Int := cmpI (M.cdist C m x.val) (M.cdist C m y.val)
theorem cfF_lt (C : List (List Int)) (m : List Int) {N : Nat} (x y : Fin (N + 1)) : ltOf (cfF C m) x y = decide (M.cdist C m x.val < M.cdist C m y.val) := by
  rw [Bool.eq_iff_iff]
  unfold ltOf cfF cmpI
  rw [decide_eq_true_eq, decide_eq_true_eq]
  repeat' split
  all_goals omega
def idsF (N : Nat) : Array (Fin (N + 1)) := Array.ofFn id
theorem idsF_size (N : Nat) : (idsF N).size = N + 1 := by simp [idsF]
theorem idsF_at (N : Nat) (k : Nat) (h : k < N + 1) : ((idsF N)[k]!).val = k := by
  rw [getElem!_pos _ k (by rw [idsF_size]; exact h)]
  simp [idsF]
def intsTo (n : Nat) : List Value := (List.range n).map fun (i : Nat) => Value.int .i64 (i : Int)
theorem insInt_any {N : Nat} {w : World} {g lo cap hi g2 g3 b o c d : Nat} {B : Option Addr} {C : List (List Int)} {m : List Int} (hN : C.length = N + 1) (hsm : N < 1000) (ho : w.ownsRow lo 3 1 (.slice (some ⟨g, 0, none⟩) (N + 1) cap) (N + 1) (intsTo (N + 1)))
    (hhi : hi ≤ g) (h2g : g2 < g) (h3g : g3 < g) (D : RdV w 0 hi (some ⟨b, o, none⟩) C) (E : Rd w 0 hi B (m.map (.int .i64)))
    (hv : ∀ c ∈ C, M.isVec c = true) (hm : M.isVec m = true) (b2 : w.cell? ⟨g2, 0, none⟩ = some (.slice (some ⟨b, o, none⟩) C.length c)) (b3 : w.cell? ⟨g3, 0, none⟩ = some (.slice B m.length d)) :
    Calls Try.prog 131 #[.slice (some ⟨g, 0, none⟩) (N + 1) cap, .int .i64 0, .int .i64 ((N + 1 : Nat) : Int), .func (.func 99) #[] #[.pointer (some ⟨g2, 0, none⟩), .pointer (some ⟨g3, 0, none⟩)]] w fun e w' => e = .returned (.tuple #[]) ∧
      w'.ownsRow lo 3 1 (.slice (some ⟨g, 0, none⟩) (N + 1) cap) (N + 1) (((M.sortH (M.probeHits C m)).map M.Hit.key).map (.int .i64)) ∧ w.grownBy w' (some g) := by
  have eg : ∀ args w, (callFunc 99 args).run Try.prog w = .ok (.enter 99 args) w := enters_of Try.func99 (by kernel_rfl) rfl
  have hgl : g < w.heap.size := by
    rcases ho.2 with ⟨e, hn⟩ | ⟨g', cap', cur, e, hg, hh, _⟩
    · cases e
    · injection e with e1 e2 e3; injection e1 with e1; injection e1 with e1 _ _; subst e1
      exact (Array.getElem?_eq_some_iff.1 hh).1
  have hH : Holds encF w g 0 (idsF N) := by
    intro j hj
    rw [idsF_size] at hj
    refine ⟨?_, by rw [Nat.zero_add]; exact ho.frozenAt j⟩
    rw [Nat.zero_add, ho.cellAt j (by simp [intsTo]; omega)]
    unfold encF
    rw [idsF_at N j hj]
    simp [intsTo, hj]
  have hcmp : CmpLays1 Try.prog 99 #[.pointer (some ⟨g2, 0, none⟩), .pointer (some ⟨g3, 0, none⟩)] (encF (N := N)) (cfF C m) g 0 (idsF N).size w := by
    intro q os dk hdk x y
    have hg1 := (sorted_ownF (m := q) (os := os) ho (by rw [hdk, idsF_size])).2
    have ha : Agree 0 hi w (sortWorld encF w g 0 q dk os) := fun b _ h2 => hg1.block b (by omega) (by intro e; injection e with e; omega)
    have c2 : (sortWorld encF w g 0 q dk os).cell? ⟨g2, 0, none⟩ = _ := hg1.cell b2 (by intro e; injection e with e; simp at e; omega)
    have c3 : (sortWorld encF w g 0 q dk os).cell? ⟨g3, 0, none⟩ = _ := hg1.cell b3 (by intro e; injection e with e; simp at e; omega)
    exact (probeLess_any (by have := hg1.size; omega) (D.agree ha) (E.agree ha) hv hm c2 c3 x.val y.val (by rw [hN]; exact x.isLt) (by rw [hN]; exact y.isLt)).mono fun _ _ ⟨he, hg⟩ => ⟨he, Grw.form hg⟩
  have h := Any.insertionSortCmpFunc_s Try.insInt encF (cfF C m) 99 #[.pointer (some ⟨g2, 0, none⟩), .pointer (some ⟨g3, 0, none⟩)] g 0 cap 0 (N + 1) (idsF N) (idsF N) w w eg hcmp ⟨fun _ => rfl, hH, hgl⟩ rfl (SW.start hH) (Nat.zero_le _) (by rw [idsF_size]; exact Nat.le_refl _) (by rw [idsF_size]; omega)
  have h' : Calls Try.prog 131 _ _ _ := h
  rw [idsF_size] at h'
  refine h'.mono ?_
  rintro e w' ⟨rfl, q, os, rfl⟩
  obtain ⟨k1, k2⟩ := stable_probes C m hN (ltOf (cfF C m)) (cfF_lt C m) (idsF N) (idsF_size N) (idsF_at N)
  have h1 := sorted_ownF (m := q) (os := os) ho k1
  rw [← k2]
  refine ⟨rfl, ?_, h1.2⟩
  have := h1.1
  rw [List.map_map]
  exact this

set_option maxHeartbeats 1000000 in
theorem stableCmp_any {w : World} {Q : World → Prop} {v f : Value} {n : Nat} (hn : n < 20) (hsl : ∃ A c, v = .slice A n c)
    (h : Calls Try.prog 131 #[v, .int .i64 0, .int .i64 n, f] w fun e w' => e = .returned (.tuple #[]) ∧ Q w') :
    Calls Try.prog 118 #[v, .int .i64 n, f] w fun e w' => e = .returned (.tuple #[]) ∧ Q w' := by
  obtain ⟨A, c, rfl⟩ := hsl
  have H := Lib.hid h
  have t1 : ¬ (20 : Int) ≤ n := by omega
  have t2 : ¬ (20 : Int) < n := by omega
  clear h
  go_enter Try.func118, Try.ntmps118
  go_wp2_with fail
  go_loopw [7, 8] (fun a b wr => a = .int .i64 0 ∧ b = .int .i64 20 ∧ wr = w) (fun _ _ _ => 0)
  case atStart => exact ⟨rfl, rfl, rfl⟩
  case round =>
    obtain ⟨rfl, rfl, rfl⟩ := hrel
    go_wp2_with fail
    refine H.out.mono ?_
    rintro e w1 ⟨rfl, hq⟩
    have HQ := Lib.hid hq
    clear hq H
    go_wp2_with fail
    go_loopw [6] (fun a wr => a = .int .i64 20 ∧ wr = w1) (fun _ _ => 0)
    case atStart => exact ⟨rfl, rfl⟩
    case round =>
      obtain ⟨rfl, rfl⟩ := hrel
      go_wp2_with fail
      go_end0
      exact ⟨rfl, HQ.out⟩
theorem sortStable_any {w : World} {Q : World → Prop} {v f : Value} {n : Nat} (hn : n < 20) (hsl : ∃ A c, v = .slice A n c)
    (h : Calls Try.prog 131 #[v, .int .i64 0, .int .i64 n, f] w fun e w' => e = .returned (.tuple #[]) ∧ Q w') :
    Calls Try.prog 98 #[v, f] w fun e w' => e = .returned (.tuple #[]) ∧ Q w' := by
  have H := Lib.hid (stableCmp_any hn hsl h)
  obtain ⟨A, c, rfl⟩ := hsl
  clear h
  go_enter Try.func98, Try.ntmps98
  go_wp2_with fail
  refine H.out.mono ?_
  rintro e w1 ⟨rfl, hq⟩
  have HQ := Lib.hid hq
  clear hq H
  go_wp2_with fail
  go_end0
  exact ⟨rfl, HQ.out⟩
end Go.Proofs.Ytamaoljjoghajaa
