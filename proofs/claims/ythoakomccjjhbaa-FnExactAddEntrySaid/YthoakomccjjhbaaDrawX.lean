/- The histories that the laws are given. -/
import Derived.Test.YthoakomccjjhbaaDrawT
namespace Go.Proofs.Ythoakomccjjhbaa
open Go.RowKit
set_option linter.unusedVariables false
set_option linter.unusedSimpArgs false
set_option maxRecDepth 100000

theorem SeesGH.low {g : Nat} {w : World} {A B : Option Addr} {h : M.Hist} {p : Addr} (D : SeesGH g w A B h) (hp : p.block < g) (u : Value) : SeesGH g (w.setCell p u) A B h :=
  have ha := (Agree.refl (g + 1) w.heap.size w).set_ (p := p) (.inl (by omega)) u
  ⟨(D.1.agree ha).wide (Nat.le_refl _) (by simp), (D.2.1.agree ha).wide (Nat.le_refl _) (by simp), D.2.2⟩
theorem SeesGH.less {g g' : Nat} {w : World} {A B : Option Addr} {h : M.Hist} (D : SeesGH g w A B h) (hg : g' ≤ g) : SeesGH g' w A B h := ⟨D.1.wide (by omega) (Nat.le_refl _), D.2.1.wide (by omega) (Nat.le_refl _), D.2.2⟩
/-- a history of no great size -/
def HisForm (h : M.Hist) (c d : Nat) : Prop := h.log.length ≤ c ∧ h.times.length ≤ d ∧ h.log.length ≤ 40 ∧ h.times.length ≤ 40
def DrewH (w : World) (e : Ending) (w' : World) : Prop := ∃ (h : M.Hist) (A B : Option Addr) (c d : Nat), e = .returned (.agg #[.slice A h.log.length c, .slice B h.times.length d]) ∧ HisForm h c d ∧ SeesGH w.heap.size w' A B h ∧ w.grownBy w' none
def DrewHT (w : World) (e : Ending) (w' : World) : Prop := ∃ (h : M.Hist) (A B : Option Addr) (c d : Nat) (t : Int), e = .returned (.tuple #[.agg #[.slice A h.log.length c, .slice B h.times.length d], .int .i64 t]) ∧ HisForm h c d ∧ SeesGH w.heap.size w' A B h ∧ w.grownBy w' none
def DrewHTT (w : World) (e : Ending) (w' : World) : Prop := ∃ (h : M.Hist) (A B : Option Addr) (c d : Nat) (s t : Int), e = .returned (.tuple #[.agg #[.slice A h.log.length c, .slice B h.times.length d], .int .i64 s, .int .i64 t]) ∧ HisForm h c d ∧ SeesGH w.heap.size w' A B h ∧ w.grownBy w' none
def DrewHET (w : World) (e : Ending) (w' : World) : Prop := ∃ (h : M.Hist) (A B : Option Addr) (c d : Nat) (y : M.Entry) (Ay : Option Addr) (cy : Nat) (t : Int), e = .returned (.tuple #[.agg #[.slice A h.log.length c, .slice B h.times.length d], .agg #[.int .i64 y.kind, .int .i64 y.item.key, .slice Ay y.item.pos.length cy, .int .i64 y.item.tags], .int .i64 t]) ∧ HisForm h c d ∧ SeesGH w.heap.size w' A B h ∧ RdInts .i64 w' 0 w'.heap.size (.slice Ay y.item.pos.length cy) y.item.pos ∧ y.item.pos.length ≤ 5 ∧ w.grownBy w' none
set_option maxHeartbeats 1000000 in
theorem DrawStoreAt_any (w : World) (A : Option Addr) (c : Nat) (bs : List Int) (h2 : bs.length ≤ c) (hb : bs.length ≤ 1048576) (h3 : ∀ x ∈ bs, 0 ≤ x ∧ x ≤ 255) (h4 : Rd w 0 w.heap.size A (bs.map (.int .u8))) :
    Calls Try.prog 60 #[.slice A bs.length c] w (DrewHT w) := by
  have H2 := Lib.hid h2
  have HB := Lib.hid hb
  have H3 := Lib.hid h3
  have H4 := Lib.hid h4
  have GA := Lib.hid (World.grownBy_alloc w (.cells #[.slice none 0 0, .slice none 0 0] 26) none)
  have RB := Lib.hid (Row.new w 26 (ca := #[.slice none 0 0, .slice none 0 0]) rfl)
  clear h2 hb h3 h4
  go_enter Try.func60, Try.ntmps60
  go_wp2_with fail
  refine (newReader_any _ A c bs H2.out HB.out H3.out ((H4.out.agree (Agree.of_grown GA.out)).wide (Nat.le_refl _) GA.out.size)).mono ?_
  rintro e w1 ⟨rfl, hr, hg⟩
  obtain ⟨g, hgd⟩ : ∃ g, g = (w.alloc (.cells #[.slice none 0 0, .slice none 0 0] 26)).heap.size := ⟨_, rfl⟩
  rw [← hgd] at hr ⊢
  have HLT : Hid (w.heap.size < g) := Lib.hid (by rw [hgd]; simp)
  have R0 := Lib.hid (RdrB.of hr)
  have G0 := Lib.hid (gb_trans GA.out hg)
  have P0 := Lib.hid (RB.out.grown hg (by simp))
  clear hr hg hgd GA RB
  go_wp2_with fail
  refine (anyHistory_any _ g 0 R0.out (by omega)).mono ?_
  rintro e w2 ⟨h, A1, B1, c1, d1, rfl, hc1, hd1, hl1, hl2, hs, hr, hg⟩
  obtain ⟨l, ts⟩ := h
  change l.length ≤ 40 at hl1
  change ts.length ≤ 40 at hl2
  have HF : Hid (HisForm ⟨l, ts⟩ c1 d1) := Lib.hid ⟨hc1, hd1, hl1, hl2⟩
  have D2 := Lib.hid hs
  have R2 := Lib.hid hr
  have G2 := Lib.hid (gb_new G0.out hg (fun b e => .inl (by injection e with e; have := HLT.out; omega)))
  have P2 := Lib.hid (P0.out.grown hg (fun e => by injection e with e; have := HLT.out; omega))
  have hl := (R2.out.lt : g < w2.heap.size)
  clear hc1 hd1 hs hr hg R0 G0 P0
  have B2 := Lib.hid (Row.new w2 26 (ca := #[.slice A1 l.length c1, .slice B1 ts.length d1]) rfl)
  have GB := Lib.hid (World.grownBy_alloc w2 (.cells #[.slice A1 l.length c1, .slice B1 ts.length d1] 26) (some g))
  have HHT := Lib.hid (historyTime_any (ts := ts) (d := d1) (m := l.length) (c := c1) (A := A1) (R2.out.grown (gb_drew (World.grownBy_alloc w2 (.cells #[.slice A1 l.length c1, .slice B1 ts.length d1] 26) none))) (by omega) (by omega) (D2.out.onG (gb_drew GB.out)).2.1)
  have e0 := B2.out.cell 0
  have e1 := B2.out.cell 1
  simp only [List.getElem?_cons_zero, List.getElem?_cons_succ] at e0 e1
  go_wp2_with fail
  go_region_law (first | (go_simp; go_at_call 78; refine Calls.mono HHT.out ?_; rintro e w3 ⟨t, rfl, hr3, hg3⟩; have S3 := Lib.hid (gb_trans (gb_drew GB.out) hg3); have P3 := Lib.hid (P2.out.grown S3.out (fun e => by injection e with e; have := HLT.out; omega)); have B3 := Lib.hid (B2.out.grown (gb_trans (gb_drew (gb_refl _ (some g))) hg3) (fun e => by injection e with e; have := hl; omega)); have q0 := B3.out.cell 0; have q1 := B3.out.cell 1; have g0 := P3.out.cell 0; have g1 := P3.out.cell 1; have f0 := P3.out.frozen 0; have f1 := P3.out.frozen 1; simp only [List.getElem?_cons_zero, List.getElem?_cons_succ] at q0 q1 g0 g1; clear hr3 hg3))
  all_goals
    go_wp2_with fail
    refine bodyPost_ret (v := .tuple #[.agg #[.slice A1 l.length c1, .slice B1 ts.length d1], .int .i64 t]) (by simp [results, Try.results60, go_sem, g0, g1]) rfl ⟨⟨l, ts⟩, A1, B1, c1, d1, t, rfl, HF.out, ?_, ?_⟩
    · exact (((D2.out.onG S3.out).low (p := ⟨w.heap.size, 0, none⟩) HLT.out _).low (p := ⟨w.heap.size, 1, none⟩) HLT.out _).less (Nat.le_of_lt HLT.out)
    · exact gb_setCell (gb_setCell (gb_new G2.out S3.out (fun b e => .inl (by injection e with e; have := HLT.out; omega))) (.inl (Nat.le_refl _)) _) (.inl (Nat.le_refl _)) _
set_option maxHeartbeats 1000000 in
theorem DrawRollBack_any (w : World) (A : Option Addr) (c : Nat) (bs : List Int) (h2 : bs.length ≤ c) (hb : bs.length ≤ 1048576) (h3 : ∀ x ∈ bs, 0 ≤ x ∧ x ≤ 255) (h4 : Rd w 0 w.heap.size A (bs.map (.int .u8))) :
    Calls Try.prog 20 #[.slice A bs.length c] w (DrewHT w) := by
  have GA := Lib.hid (World.grownBy_alloc w (.cells #[.slice none 0 0, .slice none 0 0] 26) none)
  have RB := Lib.hid (Row.new w 26 (ca := #[.slice none 0 0, .slice none 0 0]) rfl)
  have HC := Lib.hid (DrawStoreAt_any _ A c bs h2 hb h3 ((h4.agree (Agree.of_grown GA.out)).wide (Nat.le_refl _) GA.out.size))
  clear h2 h3 h4
  go_enter Try.func20, Try.ntmps20
  go_wp2_with fail
  refine HC.out.mono ?_
  rintro e w2 ⟨h, A1, B1, c1, d1, t, rfl, hf, hs, hg⟩
  obtain ⟨l, ts⟩ := h
  have HF := Lib.hid hf
  have D2 := Lib.hid hs
  have G2 := Lib.hid (gb_trans GA.out hg)
  have P2 := Lib.hid (RB.out.grown hg (by simp))
  clear hf hs hg
  have g0 := P2.out.cell 0
  have g1 := P2.out.cell 1
  have f0 := P2.out.frozen 0
  have f1 := P2.out.frozen 1
  simp only [List.getElem?_cons_zero, List.getElem?_cons_succ] at g0 g1
  go_wp2_with fail
  refine bodyPost_ret (v := .tuple #[.agg #[.slice A1 l.length c1, .slice B1 ts.length d1], .int .i64 t]) (by simp [results, Try.results20, go_sem, g0, g1]) rfl ⟨⟨l, ts⟩, A1, B1, c1, d1, t, rfl, HF.out, ?_, ?_⟩
  · exact ((D2.out.low (p := ⟨w.heap.size, 0, none⟩) (by simp) _).low (p := ⟨w.heap.size, 1, none⟩) (by simp) _).less (by simp)
  · exact gb_setCell (gb_setCell G2.out (.inl (Nat.le_refl _)) _) (.inl (Nat.le_refl _)) _
set_option maxHeartbeats 1000000 in
theorem DrawAddEntry_any (w : World) (A : Option Addr) (c : Nat) (bs : List Int) (h2 : bs.length ≤ c) (hb : bs.length ≤ 1048576) (h3 : ∀ x ∈ bs, 0 ≤ x ∧ x ≤ 255) (h4 : Rd w 0 w.heap.size A (bs.map (.int .u8))) :
    Calls Try.prog 11 #[.slice A bs.length c] w (DrewHET w) := by
  have H2 := Lib.hid h2
  have HB := Lib.hid hb
  have H3 := Lib.hid h3
  have H4 := Lib.hid h4
  have GA := Lib.hid (gb_alloc (World.grownBy_alloc w (.cells #[.slice none 0 0, .slice none 0 0] 26) none) (.cells #[.int .i64 0, .int .i64 0, .slice none 0 0, .int .i64 0] 30))
  have RB := Lib.hid ((Row.new w 26 (ca := #[.slice none 0 0, .slice none 0 0]) rfl).alloc (.cells #[.int .i64 0, .int .i64 0, .slice none 0 0, .int .i64 0] 30))
  have RE := Lib.hid (Row.new (w.alloc (.cells #[.slice none 0 0, .slice none 0 0] 26)) 30 (ca := #[.int .i64 0, .int .i64 0, .slice none 0 0, .int .i64 0]) rfl)
  clear h2 hb h3 h4
  go_enter Try.func11, Try.ntmps11
  go_wp2_with fail
  refine (newReader_any _ A c bs H2.out HB.out H3.out ((H4.out.agree (Agree.of_grown GA.out)).wide (Nat.le_refl _) GA.out.size)).mono ?_
  rintro e w1 ⟨rfl, hr, hg⟩
  obtain ⟨g, hgd⟩ : ∃ g, g = ((w.alloc (.cells #[.slice none 0 0, .slice none 0 0] 26)).alloc (.cells #[.int .i64 0, .int .i64 0, .slice none 0 0, .int .i64 0] 30)).heap.size := ⟨_, rfl⟩
  rw [← hgd] at hr ⊢
  have HLT : Hid (w.heap.size + 1 < g) := Lib.hid (by rw [hgd]; simp)
  have R0 := Lib.hid (RdrB.of hr)
  have G0 := Lib.hid (gb_trans GA.out hg)
  have P0 := Lib.hid (RB.out.grown hg (by simp))
  have Q0 := Lib.hid ((show Row _ (w.heap.size + 1) 30 _ from by simpa using RE.out).grown hg (by simp))
  clear hr hg hgd GA RB RE
  go_wp2_with fail
  refine (anyHistory_any _ g 0 R0.out (by omega)).mono ?_
  rintro e w2 ⟨h, A1, B1, c1, d1, rfl, hc1, hd1, hl1, hl2, hs, hr, hg⟩
  obtain ⟨l, ts⟩ := h
  change l.length ≤ 40 at hl1
  change ts.length ≤ 40 at hl2
  have HF : Hid (HisForm ⟨l, ts⟩ c1 d1) := Lib.hid ⟨hc1, hd1, hl1, hl2⟩
  have D2 := Lib.hid hs
  have R2 := Lib.hid hr
  have G2 := Lib.hid (gb_new G0.out hg (fun b e => .inl (by injection e with e; have := HLT.out; omega)))
  have P2 := Lib.hid (P0.out.grown hg (fun e => by injection e with e; have := HLT.out; omega))
  have Q2 := Lib.hid (Q0.out.grown hg (fun e => by injection e with e; have := HLT.out; omega))
  have hl := (R2.out.lt : g < w2.heap.size)
  clear hc1 hd1 hs hr hg R0 G0 P0 Q0
  have B2 := Lib.hid (Row.new w2 26 (ca := #[.slice A1 l.length c1, .slice B1 ts.length d1]) rfl)
  have GB := Lib.hid (World.grownBy_alloc w2 (.cells #[.slice A1 l.length c1, .slice B1 ts.length d1] 26) (some g))
  have e0 := B2.out.cell 0
  have e1 := B2.out.cell 1
  simp only [List.getElem?_cons_zero, List.getElem?_cons_succ] at e0 e1
  obtain ⟨n, hn⟩ : ∃ n, n = ts.length := ⟨_, rfl⟩
  rw [← hn] at hl2 B2 GB e0 e1 ⊢
  have HN := Lib.hid hn
  clear hn
  by_cases hn0 : 0 < n
  · obtain ⟨b, o, rfl, hb1, hb2, hcell⟩ := D2.out.2.1 (by intro h; have := congrArg List.length h; simp at this; subst this; have := HN.out; simp at this; omega)
    have HEL : Hid (∀ W, w2.grownBy W (some g) → W.cell? ⟨b, o + (n - 1), none⟩ = some (.int .i64 (ts.getD (n - 1) 0))) := Lib.hid fun W hg => by
      rw [(Agree.of_grown_some hg).cell (p := ⟨b, o + (n - 1), none⟩) hb1 hb2]
      refine hcell (n - 1) _ ?_
      have : n - 1 < ts.length := by rw [← HN.out]; omega
      simp [this]
    generalize ts.getD (n - 1) 0 = last at *
    clear hcell
    obtain ⟨m, rfl⟩ : ∃ m, n = m + 1 := ⟨n - 1, by omega⟩
    simp only [Nat.add_sub_cancel] at HEL
    have RL : Hid (RdInts .i64 ((w2.alloc (.cells #[.slice A1 l.length c1, .slice (some ⟨b, o, none⟩) (m + 1) d1] 26)).alloc (.cells #[.int .i64 0, .int .i64 1, .int .i64 20, .int .i64 (-1)] 3)) (g + 1) ((w2.alloc (.cells #[.slice A1 l.length c1, .slice (some ⟨b, o, none⟩) (m + 1) d1] 26)).alloc (.cells #[.int .i64 0, .int .i64 1, .int .i64 20, .int .i64 (-1)] 3)).heap.size (.slice (some ⟨w2.heap.size + 1, 0, none⟩) 4 4) [0, 1, 20, -1]) := Lib.hid (RdInts.lit_at .i64 (by simp) (by omega) (by simp) _ _ rfl rfl)
    have hw : IntKind.i64.wrap (m : Int) = m := IntWalk.i64_in _ (by omega)
    have hw2 : (m : Int) < m + 1 := by omega
    have x0 := HEL.out _ (gb_refl _ _)
    have x1 := HEL.out _ GB.out
    have e1a := (B2.out.alloc (.cells #[.int .i64 0, .int .i64 1, .int .i64 20, .int .i64 (-1)] 3)).cell 1
    have x2 := HEL.out _ (gb_alloc GB.out (.cells #[.int .i64 0, .int .i64 1, .int .i64 20, .int .i64 (-1)] 3))
    simp only [List.getElem?_cons_zero, List.getElem?_cons_succ] at e1a
    go_wp2_with fail
    go_cut [7] (fun s7 wx => ∃ t : Int, s7 = .int .i64 t ∧ RdrB wx g 2001 ∧ w2.grownBy wx (some g) ∧ Row wx w2.heap.size 26 [.slice A1 l.length c1, .slice (some ⟨b, o, none⟩) (m + 1) d1])
    case first =>
      go_region_law (first | (go_simp; go_at_call 46; refine Calls.mono (one_b _ g 2000 _ [0, 1, 20, -1] ((R2.out.mono (by omega)).grown (gb_drew (gb_alloc (World.grownBy_alloc w2 _ none) (.cells #[.int .i64 0, .int .i64 1, .int .i64 20, .int .i64 (-1)] 3)))) (by omega) (by simp) (by simp) (RL.out.agree (fun _ _ _ => rfl))) ?_; rintro e w3 ⟨v, hv, rfl, hr3, hg3⟩; have S3 : Hid (w2.grownBy w3 (some g)) := Lib.hid (gb_trans (gb_drew (gb_alloc GB.out (.cells #[.int .i64 0, .int .i64 1, .int .i64 20, .int .i64 (-1)] 3))) hg3); have R3 := Lib.hid hr3; have B3 := Lib.hid ((B2.out.alloc (.cells #[.int .i64 0, .int .i64 1, .int .i64 20, .int .i64 (-1)] 3)).grown (gb_trans (gb_drew (gb_refl _ (some g))) hg3) (fun e => by injection e with e; omega)); have x3 := HEL.out w3 S3.out; have d1 := B3.out.cell 1; simp only [List.getElem?_cons_zero, List.getElem?_cons_succ] at d1; clear hr3 hg3 hv))
      all_goals
        go_wp2_with fail
        go_meet
        exact ⟨_, rfl, R3.out, S3.out, B3.out⟩
    case rest =>
      clear e0 e1 e1a x0 x1 x2 HEL B2 GB
      obtain ⟨t, rfl, hr, hg, hb⟩ := hcut
      have RX := Lib.hid hr
      have SX := Lib.hid hg
      have BX := Lib.hid hb
      have e0 := BX.out.cell 0
      have e1 := BX.out.cell 1
      simp only [List.getElem?_cons_zero, List.getElem?_cons_succ] at e0 e1
      clear hr hg hb
      go_wp2_with fail
      go_region_law (first | (go_simp; go_at_call 47; refine Calls.mono (anyEntry_any _ g (2001) (RX.out.grown (gb_drew (gb_refl _ none))) (by omega)) ?_; rintro e w3 ⟨y, Ay, cy, rfl, hdx, hlx, hr3, hg3⟩; have S3 := Lib.hid (gb_trans SX.out (gb_trans (gb_drew (gb_refl (wc) (some g))) hg3)); have DX := Lib.hid (show TV w3 w2.heap.size w3.heap.size (.slice Ay y.item.pos.length cy) y.item.pos from TV.wide hdx (show w2.heap.size ≤ _ from SX.out.size) (Nat.le_refl _)); have HLX := Lib.hid hlx; have P3 := Lib.hid (P2.out.grown S3.out (fun e => by injection e with e; have := HLT.out; omega)); have Q3 := Lib.hid (Q2.out.grown S3.out (fun e => by injection e with e; have := HLT.out; omega)); have B3 := Lib.hid (BX.out.grown (gb_trans (gb_drew (gb_refl (wc) (some g))) hg3) (fun e => by injection e with e; have := hl; omega)); have q0 := B3.out.cell 0; have q1 := B3.out.cell 1; have g0 := P3.out.cell 0; have g1 := P3.out.cell 1; have f0 := P3.out.frozen 0; have f1 := P3.out.frozen 1; have k0 := Q3.out.cell 0; have k1 := Q3.out.cell 1; have k2 := Q3.out.cell 2; have k3 := Q3.out.cell 3; have kf0 := Q3.out.frozen 0; have kf1 := Q3.out.frozen 1; have kf2 := Q3.out.frozen 2; have kf3 := Q3.out.frozen 3; simp only [List.getElem?_cons_zero, List.getElem?_cons_succ] at q0 q1 g0 g1 k0 k1 k2 k3; clear hdx hr3 hg3))
      all_goals
        go_wp2_with fail
        refine bodyPost_ret (v := .tuple #[.agg #[.slice A1 l.length c1, .slice (some ⟨b, o, none⟩) (m + 1) d1], .agg #[.int .i64 y.kind, .int .i64 y.item.key, .slice Ay y.item.pos.length cy, .int .i64 y.item.tags], .int .i64 (t)]) (by simp [results, Try.results11, go_sem, g0, g1, k0, k1, k2, k3]) rfl ⟨⟨l, ts⟩, A1, (some ⟨b, o, none⟩), c1, d1, y, Ay, cy, (t), by rw [HN.out], HF.out, ?_, ?_, by have := HLX.out; omega, ?_⟩
        · refine SeesGH.less (g := g) ?_ (by have := HLT.out; omega)
          repeat (with_reducible refine SeesGH.low (p := ⟨_, _, none⟩) ?_ (by first | (show w.heap.size < g; have := HLT.out; omega) | (show w.heap.size + 1 < g; exact HLT.out)) _)
          exact D2.out.onG S3.out
        · refine RdInts.wide (lo := w2.heap.size) (hi := w3.heap.size) ?_ (Nat.zero_le _) (by simp)
          refine RdInts.agree (w := w3) DX.out.1 ?_
          repeat (with_reducible refine Agree.set_ (p := ⟨_, _, none⟩) ?_ (by first | (left; show w.heap.size < w2.heap.size; have := HLT.out; omega) | (left; show w.heap.size + 1 < w2.heap.size; have := HLT.out; omega)) _)
          exact Agree.refl _ _ _
        · repeat (with_reducible refine gb_setCell (p := ⟨_, _, none⟩) ?_ (.inl (by first | (show w.heap.size ≤ w.heap.size; omega) | (show w.heap.size ≤ w.heap.size + 1; omega))) _)
          exact gb_new G2.out S3.out (fun b e => .inl (by injection e with e; have := HLT.out; omega))
  · obtain rfl : n = 0 := by omega
    have RX := Lib.hid (R2.out.grown (World.grownBy_alloc w2 (.cells #[.slice A1 l.length c1, .slice B1 0 d1] 26) none))
    have SX := GB
    have BX := B2
    go_wp2_with fail
    go_region_law (first | (go_simp; go_at_call 47; refine Calls.mono (anyEntry_any _ g (0 + 2000) (RX.out.grown (gb_drew (gb_refl _ none))) (by omega)) ?_; rintro e w3 ⟨y, Ay, cy, rfl, hdx, hlx, hr3, hg3⟩; have S3 := Lib.hid (gb_trans SX.out (gb_trans (gb_drew (gb_refl (w2.alloc (.cells #[.slice A1 l.length c1, .slice B1 0 d1] 26)) (some g))) hg3)); have DX := Lib.hid (show TV w3 w2.heap.size w3.heap.size (.slice Ay y.item.pos.length cy) y.item.pos from TV.wide hdx (show w2.heap.size ≤ _ from SX.out.size) (Nat.le_refl _)); have HLX := Lib.hid hlx; have P3 := Lib.hid (P2.out.grown S3.out (fun e => by injection e with e; have := HLT.out; omega)); have Q3 := Lib.hid (Q2.out.grown S3.out (fun e => by injection e with e; have := HLT.out; omega)); have B3 := Lib.hid (BX.out.grown (gb_trans (gb_drew (gb_refl (w2.alloc (.cells #[.slice A1 l.length c1, .slice B1 0 d1] 26)) (some g))) hg3) (fun e => by injection e with e; have := hl; omega)); have q0 := B3.out.cell 0; have q1 := B3.out.cell 1; have g0 := P3.out.cell 0; have g1 := P3.out.cell 1; have f0 := P3.out.frozen 0; have f1 := P3.out.frozen 1; have k0 := Q3.out.cell 0; have k1 := Q3.out.cell 1; have k2 := Q3.out.cell 2; have k3 := Q3.out.cell 3; have kf0 := Q3.out.frozen 0; have kf1 := Q3.out.frozen 1; have kf2 := Q3.out.frozen 2; have kf3 := Q3.out.frozen 3; simp only [List.getElem?_cons_zero, List.getElem?_cons_succ] at q0 q1 g0 g1 k0 k1 k2 k3; clear hdx hr3 hg3))
    all_goals
      go_wp2_with fail
      refine bodyPost_ret (v := .tuple #[.agg #[.slice A1 l.length c1, .slice (B1) (0) d1], .agg #[.int .i64 y.kind, .int .i64 y.item.key, .slice Ay y.item.pos.length cy, .int .i64 y.item.tags], .int .i64 (7)]) (by simp [results, Try.results11, go_sem, g0, g1, k0, k1, k2, k3]) rfl ⟨⟨l, ts⟩, A1, (B1), c1, d1, y, Ay, cy, (7), by rw [HN.out], HF.out, ?_, ?_, by have := HLX.out; omega, ?_⟩
      · refine SeesGH.less (g := g) ?_ (by have := HLT.out; omega)
        repeat (with_reducible refine SeesGH.low (p := ⟨_, _, none⟩) ?_ (by first | (show w.heap.size < g; have := HLT.out; omega) | (show w.heap.size + 1 < g; exact HLT.out)) _)
        exact D2.out.onG S3.out
      · refine RdInts.wide (lo := w2.heap.size) (hi := w3.heap.size) ?_ (Nat.zero_le _) (by simp)
        refine RdInts.agree (w := w3) DX.out.1 ?_
        repeat (with_reducible refine Agree.set_ (p := ⟨_, _, none⟩) ?_ (by first | (left; show w.heap.size < w2.heap.size; have := HLT.out; omega) | (left; show w.heap.size + 1 < w2.heap.size; have := HLT.out; omega)) _)
        exact Agree.refl _ _ _
      · repeat (with_reducible refine gb_setCell (p := ⟨_, _, none⟩) ?_ (.inl (by first | (show w.heap.size ≤ w.heap.size; omega) | (show w.heap.size ≤ w.heap.size + 1; omega))) _)
        exact gb_new G2.out S3.out (fun b e => .inl (by injection e with e; have := HLT.out; omega))
end Go.Proofs.Ythoakomccjjhbaa
