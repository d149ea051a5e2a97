/- The walks of the copies and comparisons of histories, for the exact laws. -/
import Derived.Test.YthoakomccjjhbaaHisE
import Derived.Test.YthoakomccjjhbaaExE
namespace Go.Proofs.Ythoakomccjjhbaa
open Go.RowKit
set_option linter.unusedVariables false
set_option linter.unusedSimpArgs false
set_option maxRecDepth 100000

def SmallH (h : M.Hist) : Prop := SmallE h.log ∧ h.times.length ≤ 1048576
/-- a history in memory, its blocks below hi -/
def RdH (W : World) (hi : Nat) (A B : Option Addr) (h : M.Hist) : Prop := RdE W 0 hi A h.log ∧ Rd W 0 hi B (h.times.map (.int .i64))
theorem RdH.sees {W : World} {A B : Option Addr} {h : M.Hist} (D : RdH W W.heap.size A B h) (hs : SmallH h) : SeesH W A B h := ⟨⟨D.1, hs.1⟩, D.2, hs.2⟩
theorem SeesH.rd {W : World} {A B : Option Addr} {h : M.Hist} (D : SeesH W A B h) : RdH W W.heap.size A B h := ⟨D.1.1, D.2.1⟩
theorem RdH.agree {W W' : World} {hi : Nat} {A B : Option Addr} {h : M.Hist} (D : RdH W hi A B h) (ha : Agree 0 hi W W') : RdH W' hi A B h := ⟨D.1.agree ha, D.2.agree ha⟩
theorem RdH.wide {W : World} {hi hi' : Nat} {A B : Option Addr} {h : M.Hist} (D : RdH W hi A B h) (hh : hi ≤ hi') : RdH W hi' A B h := ⟨D.1.wide (Nat.le_refl _) hh, D.2.wide (Nat.le_refl _) hh⟩
set_option maxHeartbeats 1000000 in
theorem szHistory_any {w : World} {A B : Option Addr} {c d : Nat} {h : M.Hist} {left : Int} (h1 : h.log.length ≤ maxLen) (h2 : ∀ x ∈ h.log, x.item.pos.length ≤ maxLen) (h3 : RdE w 0 w.heap.size A h.log) (h4 : h.times.length ≤ maxLen) (h0 : 0 ≤ left) (hl : left ≤ 1048576) :
    Calls Try.prog 23 #[.agg #[.slice A h.log.length c, .slice B h.times.length d], .int .i64 left] w fun e w' => ∃ r : Int, e = .returned (.int .i64 r) ∧ r ≤ left ∧ (0 ≤ r → SmallH h) ∧ w.grownBy w' none := by
  have G0 := Lib.hid (World.grownBy_alloc w (.cells #[.slice A h.log.length c, .slice B h.times.length d] 49) none)
  have B0 := Lib.hid (Row.new w 49 (ca := #[.slice A h.log.length c, .slice B h.times.length d]) rfl)
  have HE := Lib.hid (szEntryS_any _ A c 0 w.heap.size h.log left h1 h2 (h3.keep G0.out (Nat.le_refl _)) G0.out.size h0 hl)
  have H4 := Lib.hid h4
  obtain ⟨n, hn⟩ : ∃ n, n = h.times.length := ⟨_, rfl⟩
  have HN := Lib.hid hn
  rw [← hn] at B0 G0 HE
  rw [← hn]
  clear h1 h2 h3 h4 hn
  generalize h.log.length = m at *
  go_enter Try.func23, Try.ntmps23
  go_wp2_with fail
  refine HE.out.mono ?_
  rintro e w1 ⟨r, rfl, hr1, hr2, hg⟩
  have G := Lib.hid (gb_trans G0.out hg)
  have B1 := Lib.hid (B0.out.grown hg (by simp))
  have HZ := Lib.hid hr2
  clear hg hr2
  have q1 := B1.out.cell 1
  simp only [List.getElem?_cons_zero, List.getElem?_cons_succ] at q1
  by_cases hr0 : r < 0
  · go_wp2_with fail
    go_ret
    exact ⟨-1, rfl, by omega, fun h => by omega, G.out⟩
  · have hr0' : 0 ≤ r := by omega
    by_cases hnr : (n : Int) ≤ r
    · have HC := Lib.hid (szIntS_any w1 B n d r (r - n) (by rw [HN.out]; exact H4.out) hr0' (by omega) (.inr ⟨hnr, rfl⟩))
      have hz : 0 ≤ r - (n : Int) := by omega
      obtain ⟨z, hz'⟩ : ∃ z, z = r - (n : Int) := ⟨_, rfl⟩
      rw [← hz'] at HC hz
      have HZZ := Lib.hid hz'
      clear hz'
      go_wp2_with fail
      refine HC.out.mono ?_
      rintro e w2 ⟨rfl, rfl⟩
      go_wp2_with fail
      go_ret
      exact ⟨z, rfl, by have := HZZ.out; omega, fun _ => ⟨HZ.out hr0', by have := HN.out; omega⟩, G.out⟩
    · have HC := Lib.hid (szIntS_any w1 B n d r (-1) (by rw [HN.out]; exact H4.out) hr0' (by omega) (.inl ⟨by omega, rfl⟩))
      go_wp2_with fail
      refine HC.out.mono ?_
      rintro e w2 ⟨rfl, rfl⟩
      go_wp2_with fail
      go_ret
      exact ⟨-1, rfl, by omega, fun h => by omega, G.out⟩
theorem ex_boxes (w : World) (x y : Value) : Row (((w.alloc (.cells #[x, y] 49)).alloc (.cells #[.slice none 0 0, .slice none 0 0] 26)).alloc (.cells #[.slice none 0 0, .slice none 0 0] 26)) w.heap.size 49 [x, y] ∧
    Row (((w.alloc (.cells #[x, y] 49)).alloc (.cells #[.slice none 0 0, .slice none 0 0] 26)).alloc (.cells #[.slice none 0 0, .slice none 0 0] 26)) (w.heap.size + 1) 26 [.slice none 0 0, .slice none 0 0] ∧
    Row (((w.alloc (.cells #[x, y] 49)).alloc (.cells #[.slice none 0 0, .slice none 0 0] 26)).alloc (.cells #[.slice none 0 0, .slice none 0 0] 26)) (w.heap.size + 1 + 1) 26 [.slice none 0 0, .slice none 0 0] ∧
    w.grownBy (((w.alloc (.cells #[x, y] 49)).alloc (.cells #[.slice none 0 0, .slice none 0 0] 26)).alloc (.cells #[.slice none 0 0, .slice none 0 0] 26)) none := by
  refine ⟨((Row.new w _ rfl).alloc _).alloc _, ?_, ?_, gb_alloc (gb_alloc (gb_alloc (gb_refl _ _) _) _) _⟩
  · have := Row.new (w.alloc (.cells #[x, y] 49)) 26 (ca := #[.slice none 0 0, .slice none 0 0]) rfl
    simp only [World.size_alloc] at this
    exact this.alloc _
  · have := Row.new ((w.alloc (.cells #[x, y] 49)).alloc (.cells #[.slice none 0 0, .slice none 0 0] 26)) 26 (ca := #[.slice none 0 0, .slice none 0 0]) rfl
    simpa using this
set_option maxHeartbeats 1000000 in
theorem toHistory_any {w : World} {A B : Option Addr} {c d : Nat} {h : M.Hist} (D : RdH w w.heap.size A B h) (hs : SmallH h) :
    Calls Try.prog 24 #[.agg #[.slice A h.log.length c, .slice B h.times.length d]] w fun e w' => ∃ v, e = .returned v ∧ HisMade w w.heap.size h v w' := by
  obtain ⟨rb0, rb1, rb2, gb0⟩ := ex_boxes w (.slice A h.log.length c) (.slice B h.times.length d)
  have RB0 := Lib.hid rb0
  have RB1 := Lib.hid rb1
  have RB2 := Lib.hid rb2
  have GB := Lib.hid gb0
  clear rb0 rb1 rb2 gb0
  have HE : Hid (∀ W, w.grownBy W none → Calls Try.prog 65 #[.slice A h.log.length c] W fun e w' => ∃ v, e = .returned v ∧ OwnEntries w' W.heap.size v h.log ∧ W.grownBy w' none) := Lib.hid fun W hW => toEntryS_any W A c 0 w.heap.size h.log hs.1.1 hs.1.2 (D.1.keep hW (Nat.le_refl _)) hW.size
  have HI : Hid (∀ W, w.grownBy W none → Calls Try.prog 66 #[.slice B h.times.length d] W fun e w' => ∃ v, e = .returned v ∧ OwnInts .i64 3 w' W.heap.size v h.times ∧ W.grownBy w' none) := Lib.hid fun W hW => toIntS_any W B d h.times hs.2 ((D.2.keep hW (Nat.le_refl _)).wide (Nat.le_refl _) hW.size)
  clear D hs
  obtain ⟨m, hm⟩ : ∃ m, m = h.log.length := ⟨_, rfl⟩
  obtain ⟨n, hn⟩ : ∃ n, n = h.times.length := ⟨_, rfl⟩
  rw [← hm, ← hn] at RB0 RB1 RB2 GB
  rw [← hm] at HE
  rw [← hn] at HI
  rw [← hm, ← hn]
  have HM := Lib.hid hm
  have HN := Lib.hid hn
  clear hm hn
  go_enter Try.func24, Try.ntmps24
  go_wp2_with fail
  refine (HE.out _ GB.out).mono ?_
  rintro e w1 ⟨v, rfl, ho, hg⟩
  obtain ⟨A1, c1, rfl, hc1, _⟩ := ho.rd
  rw [← HM.out] at ho hc1 ⊢
  have O1 := Lib.hid (ho.wide (show w.heap.size + 1 + 1 + 1 ≤ _ by simp))
  have HC1 := Lib.hid hc1
  have G := Lib.hid (gb_trans GB.out hg)
  have R0 := Lib.hid (RB0.out.grown hg (by simp))
  have R1 := Lib.hid (RB1.out.grown hg (by simp))
  have R2 := Lib.hid (RB2.out.grown hg (by simp))
  have hz1 := hg.size
  clear hg ho hc1
  have hlt2 := RB2.out.lt
  have q1 := R0.out.cell 1
  have p0 := R2.out.cell 0
  have p1 := R2.out.cell 1
  have pf := R2.out.frozen 0
  simp only [List.getElem?_cons_zero, List.getElem?_cons_succ] at q1 p0 p1
  go_wp2_with fail
  refine calls_name (fun W => Row W (w.heap.size + 1) 26 [.slice none 0 0, .slice none 0 0] ∧ Row W (w.heap.size + 1 + 1) 26 [.slice A1 m c1, .slice none 0 0] ∧ OwnEntries W (w.heap.size + 1 + 1 + 1) (.slice A1 m c1) h.log ∧ w.grownBy W none)
    ⟨R1.out.far (by show w.heap.size + 1 ≠ w.heap.size + 1 + 1; omega) _, R2.out.set_ 0 _, O1.out.set_ (by show w.heap.size + 1 + 1 < _; omega) _, gb_setCell G.out (.inl (by show w.heap.size ≤ w.heap.size + 1 + 1; omega)) _⟩ ?_
  rintro w2 ⟨s1, s2, so, sg⟩
  have S1 := Lib.hid s1
  have S2 := Lib.hid s2
  have SO := Lib.hid so
  have SG := Lib.hid sg
  have hz2 := sg.size
  clear s1 s2 so sg q1 p0 p1 pf R0 R1 R2 O1 G
  refine (HI.out _ SG.out).mono ?_
  rintro e w3 ⟨v2, rfl, ho2, hg⟩
  obtain ⟨B1, d1, rfl, hd1, _⟩ := ho2.rd
  rw [← HN.out] at ho2 hd1 ⊢
  have hlt2 := S2.out.lt
  have OH := Lib.hid (ownH_of SO.out (Nat.le_refl _) hg (by omega) ho2)
  have HD1 := Lib.hid hd1
  have G3 := Lib.hid (gb_trans SG.out hg)
  have T1 := Lib.hid (S1.out.grown hg (by simp))
  have T2 := Lib.hid (S2.out.grown hg (by simp))
  clear hg ho2 hd1
  have p0 := T2.out.cell 0
  have p1 := T2.out.cell 1
  have pf := T2.out.frozen 1
  simp only [List.getElem?_cons_zero, List.getElem?_cons_succ] at p0 p1
  have g0 := T1.out.cell 0
  have g1 := T1.out.cell 1
  have f0 := T1.out.frozen 0
  have f1 := T1.out.frozen 1
  simp only [List.getElem?_cons_zero, List.getElem?_cons_succ] at g0 g1
  go_wp2_with fail
  refine bodyPost_ret (v := .agg #[.slice A1 m c1, .slice B1 n d1]) (by simp [results, Try.results24, go_sem, g0, g1]) rfl ⟨_, rfl, A1, c1, B1, d1, by rw [← HM.out, ← HN.out], by rw [← HM.out]; exact HC1.out, by rw [← HN.out]; exact HD1.out, ?_, ?_⟩
  · rw [← HM.out, ← HN.out]
    refine OwnH.wide (lo := w.heap.size + 1 + 1 + 1) ?_ (by omega)
    repeat (with_reducible refine OwnH.set_ (p := ⟨_, _, none⟩) ?_ (by first | (show w.heap.size + 1 < _; omega) | (show w.heap.size + 1 + 1 < _; omega)) _)
    exact OH.out
  · repeat (with_reducible refine gb_setCell (p := ⟨_, _, none⟩) ?_ (.inl (by first | (show _ ≤ w.heap.size + 1; omega) | (show _ ≤ w.heap.size + 1 + 1; omega))) _)
    exact G3.out
theorem eq_boxes (w : World) (x y x' y' : Value) : Row ((w.alloc (.cells #[x, y] 26)).alloc (.cells #[x', y'] 26)) w.heap.size 26 [x, y] ∧ Row ((w.alloc (.cells #[x, y] 26)).alloc (.cells #[x', y'] 26)) (w.heap.size + 1) 26 [x', y'] ∧
    w.grownBy ((w.alloc (.cells #[x, y] 26)).alloc (.cells #[x', y'] 26)) none := by
  refine ⟨(Row.new w _ rfl).alloc _, ?_, gb_alloc (gb_alloc (gb_refl _ _) _) _⟩
  have := Row.new (w.alloc (.cells #[x, y] 26)) 26 (ca := #[x', y']) rfl
  simpa using this
set_option maxHeartbeats 1000000 in
theorem eqHistory_same {w : World} {A B A' B' : Option Addr} {c d c' d' : Nat} {h : M.Hist} (D : RdH w w.heap.size A B h) (D' : RdH w w.heap.size A' B' h) (hs : SmallH h) :
    Calls Try.prog 25 #[.agg #[.slice A h.log.length c, .slice B h.times.length d], .agg #[.slice A' h.log.length c', .slice B' h.times.length d']] w fun e w' => e = .returned (.bool true) ∧ w.grownBy w' none := by
  obtain ⟨rb0, rb1, gb0⟩ := eq_boxes w (.slice A h.log.length c) (.slice B h.times.length d) (.slice A' h.log.length c') (.slice B' h.times.length d')
  have RB0 := Lib.hid rb0
  have RB1 := Lib.hid rb1
  have GB := Lib.hid gb0
  clear rb0 rb1 gb0
  have HE := Lib.hid (fun W (hW : w.grownBy W none) => eqEntryS_same W A A' c c' 0 w.heap.size 0 w.heap.size h.log hs.1.1 hs.1.2 (D.1.keep hW (Nat.le_refl _)) (D'.1.keep hW (Nat.le_refl _)) hW.size hW.size)
  have HI : Hid (∀ W, w.grownBy W none → Calls Try.prog 38 #[.slice B h.times.length d, .slice B' h.times.length d'] W fun e w' => e = .returned (.bool true) ∧ W.grownBy w' none) := Lib.hid fun W hW => by
    have e := eqIntS_any W B B' d d' h.times h.times 0 w.heap.size 0 w.heap.size (by have := hs.2; omega) (D.2.keep hW (Nat.le_refl _)) (D'.2.keep hW (Nat.le_refl _))
    rw [decide_eq_true rfl] at e
    exact e.mono fun _ _ ⟨x, y⟩ => ⟨x, gb_of_drewN y⟩
  clear D D' hs
  generalize h.log.length = m at *
  generalize h.times.length = n at *
  go_enter Try.func25, Try.ntmps25
  go_wp2_with fail
  refine (HE.out _ GB.out).mono ?_
  rintro e w1 ⟨rfl, hg⟩
  have G := Lib.hid (gb_trans GB.out hg)
  have R0 := Lib.hid (RB0.out.grown hg (by simp))
  have R1 := Lib.hid (RB1.out.grown hg (by simp))
  clear hg
  have q1 := R0.out.cell 1
  have p1 := R1.out.cell 1
  simp only [List.getElem?_cons_zero, List.getElem?_cons_succ] at q1 p1
  go_wp2_with fail
  refine (HI.out _ G.out).mono ?_
  rintro e w2 ⟨rfl, hg⟩
  replace G := Lib.hid (gb_trans G.out hg)
  clear hg
  go_wp2_with fail
  go_ret
  exact ⟨rfl, G.out⟩
end Go.Proofs.Ythoakomccjjhbaa
