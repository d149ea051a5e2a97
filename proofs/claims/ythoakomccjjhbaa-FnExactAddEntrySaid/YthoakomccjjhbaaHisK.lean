/- What the laws of histories use: the contracts in the laws' words. -/
import Derived.Test.YthoakomccjjhbaaDrawX
import Derived.Test.YthoakomccjjhbaaExH
import Derived.Test.YthoakomccjjhbaaLogL
namespace Go.Proofs.Ythoakomccjjhbaa
open Go.RowKit
set_option linter.unusedVariables false
set_option linter.unusedSimpArgs false
set_option maxRecDepth 100000

theorem Row.on {w w' : World} {g : Nat} {t : TypeId} {cs : List Value} (h : Row w g t cs) (hg : w.grownBy w' none) : Row w' g t cs := h.grown hg (by simp)
/-- the world only grew -/
def Grew (a w : World) : Prop := a.grownBy w none
theorem Grew.on {a w w' : World} (h : Grew a w) (hg : w.grownBy w' none) : Grew a w' := gb_trans h hg
theorem RdInts.on {k : IntKind} {w w' : World} {v : Value} {l : List Int} (h : RdInts k w 0 w.heap.size v l) (hg : w.grownBy w' none) : RdInts k w' 0 w'.heap.size v l := (h.keep hg (Nat.le_refl _)).wide (Nat.le_refl _) hg.size
theorem SeesH.take {w : World} {A B : Option Addr} {l : List M.Entry} {ts : List Int} (D : SeesH w A B ⟨l, ts⟩) (k : Nat) : SeesH w A B ⟨l.take k, ts.take k⟩ :=
  ⟨D.1.take k, by have := D.2.1.take k; rwa [← List.map_take] at this, by have := D.2.2; simp only [List.length_take] at this ⊢; omega⟩
theorem SeesH.small {w : World} {A B : Option Addr} {h : M.Hist} (D : SeesH w A B h) : SmallH h := ⟨D.1.2, D.2.2⟩
theorem small_store {h : M.Hist} {t : Int} : Small (M.StoreAt h t) := by
  unfold M.StoreAt
  split
  · exact Small.of_valid (M.store_valid h t)
  · exact Small.nil_
/-- a history none of whose blocks is the block b -/
def SeesOff (b : Nat) (w : World) (A B : Option Addr) (h : M.Hist) : Prop :=
  ∃ lo hi, (hi ≤ b ∨ b < lo) ∧ hi ≤ w.heap.size ∧ RdE w lo hi A h.log ∧ Rd w lo hi B (h.times.map (.int .i64)) ∧ SmallH h
theorem SeesOff.sees {b : Nat} {w : World} {A B : Option Addr} {h : M.Hist} (D : SeesOff b w A B h) : SeesH w A B h := by
  obtain ⟨lo, hi, h1, h2, h3, h4, h5⟩ := D
  exact ⟨⟨h3.wide (Nat.zero_le _) h2, h5.1⟩, h4.wide (Nat.zero_le _) h2, h5.2⟩
theorem SeesOff.on {b : Nat} {w w' : World} {A B : Option Addr} {h : M.Hist} (D : SeesOff b w A B h) (hg : w.grownBy w' none) : SeesOff b w' A B h := by
  obtain ⟨lo, hi, h1, h2, h3, h4, h5⟩ := D
  exact ⟨lo, hi, h1, Nat.le_trans h2 hg.size, h3.keep hg h2, h4.keep hg h2, h5⟩
theorem SeesOff.set_ {b i : Nat} {w : World} {A B : Option Addr} {h : M.Hist} (D : SeesOff b w A B h) (u : Value) : SeesOff b (w.setCell ⟨b, i, none⟩ u) A B h := by
  obtain ⟨lo, hi, h1, h2, h3, h4, h5⟩ := D
  have ha := (Agree.refl lo hi w).set_ (p := ⟨b, i, none⟩) (by rcases h1 with h | h; exact .inr h; exact .inl h) u
  exact ⟨lo, hi, h1, by simpa using h2, h3.agree ha, h4.agree ha, h5⟩
/-- a history whose blocks are lo and later ones -/
def SeesFrom (lo : Nat) (w : World) (A B : Option Addr) (h : M.Hist) : Prop := RdE w lo w.heap.size A h.log ∧ Rd w lo w.heap.size B (h.times.map (.int .i64)) ∧ SmallH h
theorem SeesFrom.on {b : Nat} {w w' : World} {A B : Option Addr} {h : M.Hist} (D : SeesFrom b w A B h) (hg : w.grownBy w' none) : SeesFrom b w' A B h :=
  ⟨(D.1.keep hg (Nat.le_refl _)).wide (Nat.le_refl _) hg.size, (D.2.1.keep hg (Nat.le_refl _)).wide (Nat.le_refl _) hg.size, D.2.2⟩
theorem SeesFrom.set_ {lo : Nat} {p : Addr} {w : World} {A B : Option Addr} {h : M.Hist} (D : SeesFrom lo w A B h) (hp : p.block < lo) (u : Value) : SeesFrom lo (w.setCell p u) A B h :=
  have ha := (Agree.refl lo w.heap.size w).set_ (p := p) (.inl hp) u
  ⟨(D.1.agree ha).wide (Nat.le_refl _) (by simp), (D.2.1.agree ha).wide (Nat.le_refl _) (by simp), D.2.2⟩
theorem SeesFrom.off {b lo : Nat} {w : World} {A B : Option Addr} {h : M.Hist} (D : SeesFrom lo w A B h) (hb : b < lo) : SeesOff b w A B h := ⟨lo, w.heap.size, .inr hb, Nat.le_refl _, D.1, D.2.1, D.2.2⟩
theorem SeesH.low {w : World} {A B : Option Addr} {h : M.Hist} (D : SeesH w A B h) : SeesOff w.heap.size w A B h := ⟨0, w.heap.size, .inl (Nat.le_refl _), Nat.le_refl _, D.1.1, D.2.1, D.1.2, D.2.2⟩
theorem OwnH.from_ {w : World} {lo n m c d : Nat} {A B : Option Addr} {l : List M.Entry} {ts : List Int} (h : OwnH w lo (.slice A n c) (.slice B m d) l ts) (hs : SmallH ⟨l, ts⟩) : SeesFrom lo w A B ⟨l, ts⟩ := by
  refine ⟨?_, ?_, hs⟩
  · obtain ⟨A', c', e, _, hr⟩ := h.entries.rd
    injection e with e1
    subst e1
    exact hr
  · obtain ⟨A', c', e, _, hr⟩ := h.times.rd
    injection e with e1
    subst e1
    exact hr
theorem gotI_made {w w' : World} {L : List M.Item} {e : Ending} (hs : Small L) (h : ItemsMade w L e w') : GotI w L e w' := by
  obtain ⟨A, c, rfl, hc, ho, hg⟩ := h
  exact ⟨A, c, rfl, hc, ho.sees hs, hg⟩
/-- a history is handed back, or none -/
def GotH (w : World) (r : Option M.Hist) (e : Ending) (w' : World) : Prop :=
  ∃ A c B d, e = .returned (.tuple #[.agg #[.slice A (r.getD ⟨[], []⟩).log.length c, .slice B (r.getD ⟨[], []⟩).times.length d], .bool r.isSome]) ∧ (r.getD ⟨[], []⟩).log.length ≤ c ∧ (r.getD ⟨[], []⟩).times.length ≤ d ∧ SeesH w' A B (r.getD ⟨[], []⟩) ∧ w.grownBy w' none
theorem valid_smallH {h : M.Hist} (hv : M.validHist h = true) : SmallH h := by
  obtain ⟨h1, h2, h3, h4⟩ := hist_facts hv
  exact ⟨valid_smallE h4, by omega⟩
theorem gotH_made {w w' : World} {r : Option M.Hist} {e : Ending} (hs : ∀ g, r = some g → M.validHist g = true) (h : HisOpt w r e w') : GotH w r e w' := by
  obtain ⟨A, c, B, d, rfl, hc, hd, ho, hg⟩ := h
  refine ⟨A, c, B, d, rfl, hc, hd, ?_, hg⟩
  have hh : SmallH (r.getD ⟨[], []⟩) := by
    cases r with
    | none => exact valid_smallH valid_empty
    | some g => exact valid_smallH (hs g rfl)
  exact OwnH.sees ho hh.1 hh.2
theorem sa_impl {w : World} {A B : Option Addr} {c d : Nat} {h : M.Hist} {t : Int} (D : SeesH w A B h) (hd : h.times.length ≤ d) : Calls Try.prog 16 #[.agg #[.slice A h.log.length c, .slice B h.times.length d], .int .i64 t] w (GotI w (M.StoreAt h t)) :=
  (StoreAt_impl D hd).mono fun _ _ h => gotI_made small_store h
theorem sa_spec {w : World} {A B : Option Addr} {c d : Nat} {h : M.Hist} {t : Int} (D : SeesH w A B h) (hc : h.log.length ≤ c) : Calls Try.prog 28 #[.agg #[.slice A h.log.length c, .slice B h.times.length d], .int .i64 t] w (GotI w (M.StoreAt h t)) :=
  (StoreAt_spec D hc).mono fun _ _ h => gotI_made small_store h
theorem rb_valid {h : M.Hist} {t : Int} : ∀ g, M.RollBack h t = some g → M.validHist g = true := by
  intro g e
  unfold M.RollBack at e
  split at e
  · rename_i hh
    injection e with e
    rw [← e]; exact M.take_valid hh.1 _
  · cases e
theorem rb_impl {w : World} {A B : Option Addr} {c d : Nat} {h : M.Hist} {t : Int} (D : SeesH w A B h) (hd : h.times.length ≤ d) : Calls Try.prog 21 #[.agg #[.slice A h.log.length c, .slice B h.times.length d], .int .i64 t] w (GotH w (M.RollBack h t)) :=
  (RollBack_impl D hd).mono fun _ _ h => gotH_made rb_valid h
theorem rb_spec {w : World} {A B : Option Addr} {c d : Nat} {h : M.Hist} {t : Int} (D : SeesH w A B h) (hd : h.times.length ≤ d) : Calls Try.prog 22 #[.agg #[.slice A h.log.length c, .slice B h.times.length d], .int .i64 t] w (GotH w (M.RollBack h t)) :=
  (RollBack_spec D hd).mono fun _ _ h => gotH_made rb_valid h
theorem ae_impl {w : World} {A B : Option Addr} {c d : Nat} {h : M.Hist} {y : M.Entry} {ue : Value} {t : Int} (D : SeesH w A B h) (hd : h.times.length ≤ d) (hy : RdInts .i64 w 0 w.heap.size ue y.item.pos) (hyl : y.item.pos.length ≤ 1048576) :
    Calls Try.prog 12 #[.agg #[.slice A h.log.length c, .slice B h.times.length d], .agg #[.int .i64 y.kind, .int .i64 y.item.key, ue, .int .i64 y.item.tags], .int .i64 t] w (GotH w (M.AddEntry h y t)) :=
  (AddEntry_impl D hd hy hyl).mono fun _ _ h => gotH_made (fun _ e => add_valid e) h
theorem ae_spec {w : World} {A B : Option Addr} {c d : Nat} {h : M.Hist} {y : M.Entry} {ue : Value} {t : Int} (D : SeesH w A B h) (hd : h.times.length ≤ d) (hy : RdInts .i64 w 0 w.heap.size ue y.item.pos) (hyl : y.item.pos.length ≤ 1048576) :
    Calls Try.prog 13 #[.agg #[.slice A h.log.length c, .slice B h.times.length d], .agg #[.int .i64 y.kind, .int .i64 y.item.key, ue, .int .i64 y.item.tags], .int .i64 t] w (GotH w (M.AddEntry h y t)) :=
  (AddEntry_spec D hd hy hyl).mono fun _ _ h => gotH_made (fun _ e => add_valid e) h
set_option maxHeartbeats 1000000 in
theorem equalHistory_same {w : World} {A B A' B' : Option Addr} {c d c' d' : Nat} {h : M.Hist} (D : RdH w w.heap.size A B h) (D' : RdH w w.heap.size A' B' h) (hs : SmallH h) :
    Calls Try.prog 14 #[.agg #[.slice A h.log.length c, .slice B h.times.length d], .agg #[.slice A' h.log.length c', .slice B' h.times.length d']] w fun e w' => e = .returned (.bool true) ∧ w.grownBy w' none := by
  obtain ⟨rb0, rb1, gb0⟩ := eq_boxes w (.slice A h.log.length c) (.slice B h.times.length d) (.slice A' h.log.length c') (.slice B' h.times.length d')
  have RB0 := Lib.hid rb0
  have RB1 := Lib.hid rb1
  have GB := Lib.hid gb0
  clear rb0 rb1 gb0
  have HE := Lib.hid (fun W (hW : w.grownBy W none) => equalEntries_same W A A' c c' 0 w.heap.size 0 w.heap.size h.log hs.1.1 hs.1.2 (D.1.keep hW (Nat.le_refl _)) (D'.1.keep hW (Nat.le_refl _)) hW.size hW.size)
  have HI : Hid (∀ W, w.grownBy W none → Calls Try.prog 42 #[.slice B h.times.length d, .slice B' h.times.length d'] W fun e w' => e = .returned (.bool true) ∧ W.grownBy w' none) := Lib.hid fun W hW => by
    have e := equalInts_any W B B' d d' h.times h.times 0 w.heap.size 0 w.heap.size (by have := hs.2; omega) (D.2.keep hW (Nat.le_refl _)) (D'.2.keep hW (Nat.le_refl _))
    rw [decide_eq_true rfl] at e
    exact e.mono fun _ _ ⟨x, y⟩ => ⟨x, gb_of_drewN y⟩
  clear D D' hs
  generalize h.log.length = m at *
  generalize h.times.length = n at *
  go_enter Try.func14, Try.ntmps14
  go_wp2_with fail
  refine (HE.out _ GB.out).mono ?_
  rintro e w1 ⟨rfl, hg⟩
  have G := Lib.hid (gb_trans GB.out hg)
  have R0 := Lib.hid (RB0.out.grown hg (by simp))
  have R1 := Lib.hid (RB1.out.grown hg (by simp))
  clear hg
  have q1 := R0.out.cell 1
  have p1 := R1.out.cell 1
  simp only [List.getElem?_cons_zero, List.getElem?_cons_succ] at q1 p1
  go_wp2_with fail
  refine (HI.out _ G.out).mono ?_
  rintro e w2 ⟨rfl, hg⟩
  replace G := Lib.hid (gb_trans G.out hg)
  clear hg
  go_wp2_with fail
  go_ret
  exact ⟨rfl, G.out⟩
theorem eqh_same {w : World} {A B A' B' : Option Addr} {c d c' d' : Nat} {h : M.Hist} (D : SeesH w A B h) (E : SeesH w A' B' h) :
    Calls Try.prog 14 #[.agg #[.slice A h.log.length c, .slice B h.times.length d], .agg #[.slice A' h.log.length c', .slice B' h.times.length d']] w fun e w' => e = .returned (.bool true) ∧ w.grownBy w' none :=
  equalHistory_same D.rd E.rd D.small
/-- no history is handed back -/
def GotN0 (w : World) (e : Ending) (w' : World) : Prop := ∃ A c B d, e = .returned (.tuple #[.agg #[.slice A 0 c, .slice B 0 d], .bool false]) ∧ SeesH w' A B ⟨[], []⟩ ∧ w.grownBy w' none
/-- this history is handed back -/
def GotH1 (w : World) (l : List M.Entry) (ts : List Int) (e : Ending) (w' : World) : Prop := ∃ A c B d, e = .returned (.tuple #[.agg #[.slice A l.length c, .slice B ts.length d], .bool true]) ∧ l.length ≤ c ∧ ts.length ≤ d ∧ SeesH w' A B ⟨l, ts⟩ ∧ w.grownBy w' none
theorem gotH_none {w w' : World} {e : Ending} (h : GotH w none e w') : GotN0 w e w' := by
  obtain ⟨A, c, B, d, rfl, hc, hd, hs, hg⟩ := h
  exact ⟨A, c, B, d, rfl, hs, hg⟩
theorem gotH_some {w w' : World} {e : Ending} {l : List M.Entry} {ts : List Int} (h : GotH w (some ⟨l, ts⟩) e w') : GotH1 w l ts e w' := by
  obtain ⟨A, c, B, d, rfl, hc, hd, hs, hg⟩ := h
  exact ⟨A, c, B, d, rfl, hc, hd, hs, hg⟩
theorem eqh_nil {w : World} {A B A' B' : Option Addr} {c d c' d' : Nat} (D : SeesH w A B ⟨[], []⟩) (E : SeesH w A' B' ⟨[], []⟩) :
    Calls Try.prog 14 #[.agg #[.slice A 0 c, .slice B 0 d], .agg #[.slice A' 0 c', .slice B' 0 d']] w fun e w' => e = .returned (.bool true) ∧ w.grownBy w' none := by
  have e := eqh_same (h := ⟨[], []⟩) (c := c) (d := d) (c' := c') (d' := d') D E
  exact e
theorem rb_some {h g : M.Hist} {t : Int} (e : M.RollBack h t = some g) : M.validHist h = true ∧ 0 ≤ t ∧ t ≤ 1000 ∧ g = M.takeH h (M.upTo h.times t) := by
  unfold M.RollBack at e
  split at e
  · rename_i hh
    injection e with e
    refine ⟨hh.1, ?_, ?_, e.symm⟩
    · have := hh.2; unfold M.inR at this; simp at this; omega
    · have := hh.2; unfold M.inR at this; simp at this; omega
  · cases e
theorem rb_of {h : M.Hist} {t : Int} (hv : M.validHist h = true) (h0 : 0 ≤ t) (h1 : t ≤ 1000) : M.RollBack h t = some (M.takeH h (M.upTo h.times t)) := by
  have hi : M.inR t 0 1000 = true := by simp [M.inR, h0, h1]
  unfold M.RollBack
  exact if_pos ⟨hv, hi⟩
theorem rb_twice {h g : M.Hist} {t : Int} (e : M.RollBack h t = some g) : M.RollBack g t = some g := by
  obtain ⟨hv, h0, h1, rfl⟩ := rb_some e
  obtain ⟨f1, f2, f3, f4⟩ := hist_facts hv
  rw [rb_of (M.take_valid hv _) h0 h1]
  congr 1
  refine M.take_all _ _ ?_ ?_
  · have := M.upTo_take f2 t t
    simp only [Int.le_refl, if_true] at this
    show (h.log.take _).length ≤ M.upTo (h.times.take _) t
    rw [this, List.length_take]; omega
  · have := M.upTo_take f2 t t
    simp only [Int.le_refl, if_true] at this
    show (h.times.take _).length ≤ M.upTo (h.times.take _) t
    rw [this, List.length_take]; omega
theorem ae_some {h g : M.Hist} {y : M.Entry} {t : Int} (e : M.AddEntry h y t = some g) : M.validHist h = true ∧ M.validHist (M.addH h y t) = true ∧ g = M.addH h y t := by
  unfold M.AddEntry at e
  split at e
  · rename_i hh
    injection e with e
    exact ⟨hh.1, hh.2, e.symm⟩
  · cases e
/-- one entry of a history is added to the entries ahead of it -/
theorem ae_next {W : World} {b k c d cu : Nat} {A B Au : Option Addr} {l : List M.Entry} {ts : List Int} (hv : M.validHist ⟨l, ts⟩ = true) (hk : k < l.length) (hk' : k < ts.length) (D : SeesOff b W A B ⟨l.take k, ts.take k⟩) (hd : k ≤ d) (u : RdInts .i64 W 0 W.heap.size (.slice Au l[k].item.pos.length cu) l[k].item.pos) (hl : l[k].item.pos.length ≤ 1048576) :
    Calls Try.prog 12 #[.agg #[.slice A k c, .slice B k d], .agg #[.int .i64 l[k].kind, .int .i64 l[k].item.key, .slice Au l[k].item.pos.length cu, .int .i64 l[k].item.tags], .int .i64 ts[k]] W fun e w' =>
      ∃ A' c' B' d', e = .returned (.tuple #[.agg #[.slice A' (k + 1) c', .slice B' (k + 1) d'], .bool true]) ∧ k + 1 ≤ d' ∧ SeesFrom W.heap.size w' A' B' ⟨l.take (k + 1), ts.take (k + 1)⟩ ∧ W.grownBy w' none := by
  have e1 : (l.take k).length = k := by rw [List.length_take]; omega
  have e2 : (ts.take k).length = k := by rw [List.length_take]; omega
  have e3 : (l.take (k + 1)).length = k + 1 := by rw [List.length_take]; omega
  have e4 : (ts.take (k + 1)).length = k + 1 := by rw [List.length_take]; omega
  have r : M.AddEntry ⟨l.take k, ts.take k⟩ l[k] ts[k] = some ⟨l.take (k + 1), ts.take (k + 1)⟩ := M.AddEntry_take hv hk hk'
  have e := AddEntry_impl (c := c) (d := d) (y := l[k]) (t := ts[k]) D.sees (by rw [e2]; exact hd) u hl
  rw [r] at e
  simp only [e1, e2] at e
  refine e.mono fun _ w' h => ?_
  obtain ⟨A', c', B', d', rfl, hc', hd', ho, hg⟩ := h
  have ho' : OwnH w' W.heap.size (.slice A' (l.take (k + 1)).length c') (.slice B' (ts.take (k + 1)).length d') (l.take (k + 1)) (ts.take (k + 1)) := ho
  have hd'' : (ts.take (k + 1)).length ≤ d' := hd'
  have hsm : SmallH ⟨l.take (k + 1), ts.take (k + 1)⟩ := valid_smallH (M.take_valid hv (k + 1))
  refine ⟨A', c', B', d', ?_, by omega, ho'.from_ hsm, hg⟩
  show Ending.returned (.tuple #[.agg #[.slice A' (l.take (k + 1)).length c', .slice B' (ts.take (k + 1)).length d'], .bool true]) = _
  rw [e3, e4]
theorem rb_all {h : M.Hist} (hv : M.validHist h = true) : M.RollBack h 1000 = some h := by
  obtain ⟨f1, f2, f3, f4⟩ := hist_facts hv
  obtain ⟨v1, v2, v3, v4⟩ := M.validHist_iff.1 hv
  rw [rb_of hv (by omega) (by omega), M.upTo_all v3 (by omega), M.take_all _ _ (by omega) (by omega)]
end Go.Proofs.Ythoakomccjjhbaa
