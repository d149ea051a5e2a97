/- The walks of the draws of a store with a log and of two stores; replaying and getting in the laws' words. -/
import Derived.Test.YtilecjaibmglbaaDrawE
import Derived.Test.YtilecjaibmglbaaRepL
namespace Go.Proofs.Ytilecjaibmglbaa
open Go.RowKit
set_option linter.unusedVariables false
set_option maxRecDepth 100000

theorem cellsE_setKey {LV : List (M.Entry × Value)} : ∀ {j : Nat} {x : M.Entry} {u : Value} {k : Int}, LV[j]? = some (x, u) → (cellsE LV).set (j * 4 + 1) (.int .i64 k) = cellsE (LV.set j ({ x with item := { x.item with key := k } }, u)) := by
  induction LV with
  | nil => intro j x u k h; simp at h
  | cons q r ih =>
    intro j x u k h
    have hc : ∀ (q : M.Entry × Value) r, cellsE (q :: r) = .int .i64 q.1.kind :: .int .i64 q.1.item.key :: q.2 :: .int .i64 q.1.item.tags :: cellsE r := fun _ _ => rfl
    cases j with
    | zero =>
      simp at h
      subst h
      rfl
    | succ j =>
      rw [hc, show (j + 1) * 4 + 1 = (j * 4 + 1) + 1 + 1 + 1 + 1 from by omega]
      simp only [List.set_cons_succ]
      rw [hc, ih (by simpa using h)]
theorem semi_set {w : World} {lo b n c i : Nat} {LV : List (M.Entry × Value)} {y : M.Entry} {u : Value} {k : Int} (hO : w.ownsRow lo 34 4 (.slice (some ⟨b, 0, none⟩) n c) n (cellsE LV)) (hn : LV.length = n) (hI : ∀ p ∈ LV, TV w lo w.heap.size p.2 p.1.item.pos) (hy : LV[i]? = some (y, u)) :
    SemiE (w.setCell ⟨b, i * 4 + 1, none⟩ (.int .i64 k)) lo (.slice (some ⟨b, 0, none⟩) n c) ((LV.set i ({ y with item := { y.item with key := k } }, u)).map (·.1)) := by
  have hs := hO.stored (i * 4 + 1) (.int .i64 k)
  rw [cellsE_setKey hy] at hs
  refine ⟨_, rfl, by rw [List.length_set, hn]; exact hs.1, fun p hp => ?_⟩
  have hk : ∀ p ∈ LV, TV (w.setCell ⟨b, i * 4 + 1, none⟩ (.int .i64 k)) lo (w.setCell ⟨b, i * 4 + 1, none⟩ (.int .i64 k)).heap.size p.2 p.1.item.pos := fun p hp =>
    ((hI p hp).kept hO (by decide) (by simpa [Value.ownBlock] using hs.2)).wide (Nat.le_refl _) (by simp only [World.size_setCell]; exact Nat.le_refl _)
  rcases List.mem_or_eq_of_mem_set hp with hp | hp
  · exact hk p hp
  · subst hp
    exact hk (y, u) (List.mem_of_getElem? hy)

/-- a store and a log were drawn -/
def DrewSE (w : World) (e : Ending) (w' : World) : Prop :=
  ∃ (A : Option Addr) (c : Nat) (L : List M.Item) (B : Option Addr) (d : Nat) (l : List M.Entry), e = .returned (.tuple #[.slice A L.length c, .slice B l.length d]) ∧ L.length ≤ c ∧ l.length ≤ d ∧ SeesI w' A L ∧ SeesE w' B l ∧ w.grownBy w' none
theorem drewSE_of {w w' : World} {lo hi h0 : Nat} {A B : Option Addr} {c d n : Nat} {L : List M.Item} {l : List M.Entry} (hc : L.length ≤ c) (hn : l.length = n) (ho : SemiE w' lo (.slice B n d) l) (hl : n ≤ 34) (hx : ∀ x ∈ l, x.item.pos.length ≤ 5) (hd : RdI w' hi h0 A L) (hs : Small L) (hh : h0 ≤ w'.heap.size) (hg : w.grownBy w' none) :
    DrewSE w (.returned (.tuple #[.slice A L.length c, .slice B n d])) w' := by
  subst hn
  obtain ⟨B', d', e, hd', hrd⟩ := ho.rd
  injection e with e1 e2 e3
  subst e1 e3
  exact ⟨A, c, L, B, d, l, rfl, hc, hd', ⟨hd.wide (Nat.zero_le _) hh, hs⟩, ⟨hrd.wide (Nat.zero_le _) (Nat.le_refl _), by omega, fun x hx' => by have := hx x hx'; omega⟩, hg⟩
set_option maxHeartbeats 2000000 in
theorem DrawReplayLog_any (w : World) (A : Option Addr) (c : Nat) (bs : List Int) (h2 : bs.length ≤ c) (hb : bs.length ≤ 1048576) (h3 : ∀ x ∈ bs, 0 ≤ x ∧ x ≤ 255) (h4 : Rd w 0 w.heap.size A (bs.map (.int .u8))) :
    Calls Try.prog 13 #[.slice A bs.length c] w (DrewSE w) := by
  have H2 := Lib.hid h2
  have HB := Lib.hid hb
  have H3 := Lib.hid h3
  have H4 := Lib.hid h4
  clear h2 hb h3 h4
  go_enter Try.func13, Try.ntmps13
  go_wp2_with fail
  refine (newReader_any _ A c bs H2.out HB.out H3.out H4.out).mono ?_
  rintro e W ⟨rfl, hr, hg⟩
  have R := Lib.hid (RdrB.of hr)
  have G := Lib.hid hg
  clear hr hg
  go_wp2_with fail
  refine (anyStore_any _ _ 0 R.out (by omega)).mono ?_
  rintro e W ⟨v, L, rfl, hd, hL1, hLp, hr, hg⟩
  obtain ⟨A1, c1, rfl, hc1, hd⟩ := hd
  have hlt0 := R.out.lt
  replace G := Lib.hid (gb_new G.out hg (fun b e => .inl (by injection e with e; omega)))
  replace R := Lib.hid hr
  have D := Lib.hid (hd.wide (show w.heap.size + 1 ≤ _ by omega) (Nat.le_refl _))
  have HSM : Hid (Small L) := Lib.hid ⟨by omega, fun x hx => by have := hLp x hx; omega⟩
  have HLT := Lib.hid hr.lt
  clear hr hg hd hLp
  obtain ⟨h0, hh0⟩ : ∃ h, h = W.heap.size := ⟨_, rfl⟩
  go_wp2_with fail
  refine (anyLog_any _ _ _ R.out (by omega)).mono ?_
  rintro e W1 ⟨B1, d1, l, rfl, ho, hl34, hlp, hr, hg⟩
  rw [← hh0] at ho D HLT
  have hs1 := hg.size
  rw [← hh0] at hs1
  replace R := Lib.hid hr
  replace G := Lib.hid (gb_new G.out hg (fun b e => .inl (by injection e with e; omega)))
  replace D := Lib.hid (D.out.agree (fun b h1 h2 => (Agree.of_grown_some hg) b h1 (by omega)))
  have O := Lib.hid ho
  have HLP := Lib.hid hlp
  clear hr hg ho hlp hh0
  obtain ⟨n, hn⟩ : ∃ n, n = l.length := ⟨_, rfl⟩
  rw [← hn] at O hl34 ⊢
  have HN := Lib.hid hn.symm
  clear hn
  go_wp2_with fail
  refine (pick_b _ _ _ 2 R.out (by omega) (by omega) (by omega)).mono ?_
  rintro e W2 ⟨x, hx0, hx1, rfl, hr, hg⟩
  have hs2 := hg.size
  replace R := Lib.hid hr
  replace G := Lib.hid (gb_new G.out hg (fun b e => .inl (by injection e with e; omega)))
  replace D := Lib.hid (D.out.agree (fun b h1 h2 => (Agree.of_grown_some hg) b h1 (by omega)))
  replace O := Lib.hid (SemiE.grown O.out hg (fun b e => by injection e with e; have := HLT.out; omega))
  clear hr hg
  by_cases hx : x = 0
  · subst hx
    go_wp2_with fail
    go_loopw [7] (fun i wr => ∃ (k : Nat) (l' : List M.Entry), k ≤ n ∧ i = .int .i64 k ∧ l'.length = n ∧ SemiE wr h0 (.slice B1 n d1) l' ∧ (∀ x ∈ l', x.item.pos.length ≤ 5) ∧ RdI wr (w.heap.size + 1) h0 A1 L ∧ h0 ≤ wr.heap.size ∧ RdrB wr w.heap.size (0 + 400 + 1000 + 1 + k) ∧ w.grownBy wr none) (fun i _ => n - (intOf i).toNat)
    case atStart => exact ⟨0, l, Nat.zero_le _, rfl, HN.out, O.out, HLP.out, D.out, by omega, R.out.mono (by omega), G.out⟩
    case round =>
      clear O D R G HLP HN
      obtain ⟨k, l', hk, rfl, hn', ho, hlp, hd, hh, hr, hg⟩ := hrel
      have HO := Lib.hid ho
      have HLP := Lib.hid hlp
      have D := Lib.hid hd
      have R := Lib.hid hr
      have G := Lib.hid hg
      have HN := Lib.hid hn'
      by_cases hlt : k < n
      · obtain ⟨LV, hLV, hO, hI⟩ := ho
        have hlen : LV.length = n := by rw [← hn', ← hLV, List.length_map]
        rw [hlen] at hO
        obtain ⟨b, hAb, hb1, hb2, hb3⟩ := own_form' hO (by omega)
        subst hAb
        have hkl : k < LV.length := by omega
        obtain ⟨u0, hu0⟩ : ∃ u0, LV[k]? = some (LV[k].1, u0) := ⟨LV[k].2, by simp [hkl]⟩
        have c0 : wr.cell? ⟨b, k * 4, none⟩ = some (.int .i64 LV[k].1.kind) := by rw [hO.cellAt _ (by omega)]; exact (cellsE_at hu0).1
        generalize LV[k].1 = y at *
        have kn : (k : Int) < n := by omega
        have k0 : (0 : Int) ≤ k := by omega
        clear hO hI hLV hd hr hg hn' hlp hu0 hkl hlen LV
        by_cases hk2 : y.kind = 2
        · have tk : (y.kind == 2) = true := by simp [hk2]
          clear hk2
          by_cases hL0 : L.length = 0
          · have t0' : decide ((0 : Int) < (L.length : Int)) = false := decide_eq_false (by omega)
            have t0 : decide (0 < L.length) = false := decide_eq_false (by omega)
            have HH := Lib.hid hL0
            clear hL0
            go_wp2_with fail
            go_roundw
            case rel => exact ⟨k + 1, l', by omega, by go_num, HN.out, HO.out, HLP.out, D.out, hh, R.out.mono (by omega), G.out⟩
            case measure => simp [intOf]; omega
          · have t0' : decide ((0 : Int) < (L.length : Int)) = true := decide_eq_true (by omega)
            have t0 : decide (0 < L.length) = true := decide_eq_true (by omega)
            go_wp2_with fail
            refine (pick_b _ _ _ L.length R.out (by omega) (by omega) (by omega)).mono ?_
            rintro e w3 ⟨j, hj0, hj1, rfl, hr, hg⟩
            have R3 := Lib.hid hr
            have G3 := Lib.hid (gb_new G.out hg (fun b e => .inl (by injection e with e; omega)))
            have D3 := D.out.agree (fun b h1 h2 => (Agree.of_grown_some hg) b h1 (by omega))
            have ho := SemiE.grown HO.out hg (fun b e => by injection e with e; have := HLT.out; omega)
            have hs3 := hg.size
            have HD3 := Lib.hid D3
            clear hr hg
            obtain ⟨i, rfl⟩ := Int.eq_ofNat_of_zero_le hj0
            have hiL : i < L.length := by omega
            obtain ⟨b', o', rfl, hb3', hb4', hJ⟩ := D3.at_ (List.getElem?_eq_getElem hiL)
            obtain ⟨_, d0, _, _, _⟩ := hJ
            generalize L[i].key = z at *
            obtain ⟨LV, hLV, hO, hI⟩ := ho
            have hlen : LV.length = n := by rw [← HN.out, ← hLV, List.length_map]
            rw [hlen] at hO
            have hkl : k < LV.length := by omega
            obtain ⟨u0, hu0⟩ : ∃ u0, LV[k]? = some (LV[k].1, u0) := ⟨LV[k].2, by simp [hkl]⟩
            have f1 : w3.frozen? ⟨b, k * 4 + 1, none⟩ = false := hO.frozenAt _
            have d1' : w3.cell? ⟨b, k * 4 + 1, none⟩ = some (.int .i64 LV[k].1.item.key) := by rw [hO.cellAt _ (by omega)]; exact (cellsE_at hu0).2.1
            have HS := Lib.hid (semi_set (k := z) hO hlen hI hu0)
            have HL5 : Hid (∀ x ∈ (LV.set k ({ LV[k].1 with item := { LV[k].1.item with key := z } }, u0)).map (·.1), x.item.pos.length ≤ 5) := Lib.hid fun x hx => by
              obtain ⟨q, hq, rfl⟩ := List.mem_map.1 hx
              rcases List.mem_or_eq_of_mem_set hq with hq | hq
              · exact HLP.out q.1 (by rw [← hLV]; exact List.mem_map_of_mem hq)
              · subst hq
                exact HLP.out LV[k].1 (by rw [← hLV]; exact List.mem_map_of_mem (List.getElem_mem hkl))
            have HLE : Hid (((LV.set k ({ LV[k].1 with item := { LV[k].1.item with key := z } }, u0)).map (·.1)).length = n) := Lib.hid (by rw [List.length_map, List.length_set, hlen])
            generalize ((LV.set k ({ LV[k].1 with item := { LV[k].1.item with key := z } }, u0)).map (·.1)) = l9 at *
            generalize LV[k].1.item.key = z0 at *
            have HB1 := Lib.hid hb1
            clear hO hI hLV hu0 hkl hlen HO c0
            go_wp2_with fail
            go_roundw
            case rel => exact ⟨k + 1, l9, by omega, by go_num, HLE.out, HS.out, HL5.out, HD3.out.agree ((Agree.refl _ _ _).set_ (.inr (by show h0 ≤ b; exact HB1.out)) _), (by simp only [World.size_setCell]; omega), (R3.out.set_ (by show w.heap.size < b; have := HLT.out; have := HB1.out; omega) _).mono (by omega), gb_setCell G3.out (.inl (by show w.heap.size ≤ b; have := HLT.out; have := HB1.out; omega)) _⟩
            case measure => simp [intOf]; omega
        · have tk : (y.kind == 2) = false := by simp [hk2]
          clear hk2
          go_wp2_with fail
          go_roundw
          case rel => exact ⟨k + 1, l', by omega, by go_num, HN.out, HO.out, HLP.out, D.out, hh, R.out.mono (by omega), G.out⟩
          case measure => simp [intOf]; omega
      · go_wp2_with fail
        go_ret2
        exact drewSE_of hc1 HN.out HO.out hl34 HLP.out D.out HSM.out hh G.out
  · have t0 : (x == 0) = false := beq_eq_false_iff_ne.2 hx
    have hh : h0 ≤ W2.heap.size := by omega
    go_wp2_with fail
    go_ret2
    exact drewSE_of hc1 HN.out O.out hl34 HLP.out D.out HSM.out hh G.out

/-! replaying and getting, in the laws' words -/
def GotR (w : World) (r : List M.Item × Int) (e : Ending) (w' : World) : Prop :=
  ∃ A c, e = .returned (.tuple #[.slice A r.1.length c, .int .i64 r.2]) ∧ r.1.length ≤ c ∧ SeesI w' A r.1 ∧ w.grownBy w' none
theorem small_replay {L : List M.Item} {l : List M.Entry} : Small (M.ReplayLog L l).1 := by
  unfold M.ReplayLog
  split
  · rename_i h
    exact Small.of_valid (M.replay_valid l L h.1)
  · exact Small.nil_
theorem gotR_made {w w' : World} {r : List M.Item × Int} {e : Ending} (hs : Small r.1) (h : RepMade w r e w') : GotR w r e w' := by
  obtain ⟨A, c, rfl, hc, ho, hg⟩ := h
  exact ⟨A, c, rfl, hc, ho.sees hs, hg⟩
theorem rl_impl {w : World} {A B : Option Addr} {c d : Nat} {L : List M.Item} {l : List M.Entry} (D : SeesI w A L) (E : SeesE w B l) : Calls Try.prog 14 #[.slice A L.length c, .slice B l.length d] w (GotR w (M.ReplayLog L l)) :=
  (ReplayLog_impl D E).mono fun _ _ h => gotR_made small_replay h
theorem rl_spec {w : World} {A B : Option Addr} {c d : Nat} {L : List M.Item} {l : List M.Entry} (D : SeesI w A L) (E : SeesE w B l) : Calls Try.prog 15 #[.slice A L.length c, .slice B l.length d] w (GotR w (M.ReplayLog L l)) :=
  (ReplayLog_spec D E).mono fun _ _ h => gotR_made small_replay h
/-- two stores were drawn -/
def DrewSS (w : World) (e : Ending) (w' : World) : Prop :=
  ∃ (A : Option Addr) (c : Nat) (a : List M.Item) (B : Option Addr) (d : Nat) (b : List M.Item), e = .returned (.tuple #[.slice A a.length c, .slice B b.length d]) ∧ a.length ≤ c ∧ b.length ≤ d ∧ SeesI w' A a ∧ SeesI w' B b ∧ w.grownBy w' none
set_option maxHeartbeats 2000000 in
theorem DrawLogBetween_any (w : World) (A : Option Addr) (c : Nat) (bs : List Int) (h2 : bs.length ≤ c) (hb : bs.length ≤ 1048576) (h3 : ∀ x ∈ bs, 0 ≤ x ∧ x ≤ 255) (h4 : Rd w 0 w.heap.size A (bs.map (.int .u8))) :
    Calls Try.prog 7 #[.slice A bs.length c] w (DrewSS w) := by
  have H2 := Lib.hid h2
  have HB := Lib.hid hb
  have H3 := Lib.hid h3
  have H4 := Lib.hid h4
  clear h2 hb h3 h4
  go_enter Try.func7, Try.ntmps7
  go_wp2_with fail
  refine (newReader_any _ A c bs H2.out HB.out H3.out H4.out).mono ?_
  rintro e W ⟨rfl, hr, hg⟩
  have R := Lib.hid (RdrB.of hr)
  have G := Lib.hid hg
  clear hr hg
  go_wp2_with fail
  refine (anyStore_b _ _ 0 R.out (by omega)).mono ?_
  rintro e W ⟨A1, c1, L, rfl, hc1, hd, hr, hg⟩
  replace G := Lib.hid (gb_new G.out hg (fun b e => .inl (by injection e with e; omega)))
  replace R := Lib.hid hr
  have D := Lib.hid hd
  clear hr hg hd
  go_wp2_with fail
  refine (pick_b _ _ _ 2 R.out (by omega) (by omega) (by omega)).mono ?_
  rintro e W ⟨x, hx0, hx1, rfl, hr, hg⟩
  replace D := Lib.hid (D.out.onG hg)
  replace G := Lib.hid (gb_new G.out hg (fun b e => .inl (by injection e with e; omega)))
  replace R := Lib.hid hr
  clear hr hg
  by_cases hx : x = 0
  · subst hx
    go_wp2_with fail
    refine (anyLog_any _ _ _ R.out (by omega)).mono ?_
    rintro e W1 hd
    obtain ⟨B1, d1, l, rfl, hc2, hd, hr, hg⟩ := logDrawn_sees hd R.out.lt
    replace G := Lib.hid (gb_new G.out hg (fun b e => .inl (by injection e with e; omega)))
    replace D := Lib.hid (D.out.onG hg)
    have E := Lib.hid hd
    replace R := Lib.hid hr
    have HC := Lib.hid (rl_spec (c := c1) (d := d1) D.out.sees E.out.sees)
    clear hr hg hd hc2
    generalize M.ReplayLog L l = P at HC
    obtain ⟨K, z⟩ := P
    go_wp2_with fail
    refine HC.out.mono ?_
    rintro e W2 ⟨A2, c2, rfl, hc2, hd, hg⟩
    have F := Lib.hid hd
    have HC2 : Hid (K.length ≤ c2) := Lib.hid hc2
    replace G := Lib.hid (gb_trans G.out hg)
    replace D := Lib.hid (D.out.onG (gb_some hg _))
    replace R := Lib.hid (R.out.grown hg)
    clear hg hd HC hc2
    by_cases hz : 0 ≤ z
    · have tz : decide (0 ≤ z) = true := decide_eq_true hz
      go_wp2_with fail
      go_ret2
      exact ⟨A1, c1, L, A2, c2, K, rfl, hc1, HC2.out, D.out.sees, F.out, G.out⟩
    · have tz : decide (0 ≤ z) = false := decide_eq_false hz
      go_wp2_with fail
      refine (anyStore_b _ _ _ R.out (by omega)).mono ?_
      rintro e W3 ⟨A3, c3, L3, rfl, hc3, hd, hr, hg⟩
      replace G := Lib.hid (gb_new G.out hg (fun b e => .inl (by injection e with e; omega)))
      replace D := Lib.hid (D.out.onG hg)
      have E := Lib.hid hd
      clear hr hg hd
      go_wp2_with fail
      go_ret2
      exact ⟨A1, c1, L, A3, c3, L3, rfl, hc1, hc3, D.out.sees, E.out.sees, G.out⟩
  · have t0 : (x == 0) = false := beq_eq_false_iff_ne.2 hx
    go_wp2_with fail
    refine (anyStore_b _ _ _ R.out (by omega)).mono ?_
    rintro e W3 ⟨A3, c3, L3, rfl, hc3, hd, hr, hg⟩
    replace G := Lib.hid (gb_new G.out hg (fun b e => .inl (by injection e with e; omega)))
    replace D := Lib.hid (D.out.onG hg)
    have E := Lib.hid hd
    clear hr hg hd
    go_wp2_with fail
    go_ret2
    exact ⟨A1, c1, L, A3, c3, L3, rfl, hc1, hc3, D.out.sees, E.out.sees, G.out⟩
/-- an item is handed back, or none -/
def GotG (w : World) (r : Option M.Item) (e : Ending) (w' : World) : Prop :=
  ∃ A c, e = .returned (.tuple #[.agg #[.int .i64 (r.getD ⟨0, [], 0⟩).key, .slice A (r.getD ⟨0, [], 0⟩).pos.length c, .int .i64 (r.getD ⟨0, [], 0⟩).tags], .bool r.isSome]) ∧ RdInts .i64 w' 0 w'.heap.size (.slice A (r.getD ⟨0, [], 0⟩).pos.length c) (r.getD ⟨0, [], 0⟩).pos ∧ w.grownBy w' none
theorem gotG_none {w w' : World} (h : w.grownBy w' none) : GotG w none (.returned (.tuple #[.agg #[.int .i64 0, .slice none 0 0, .int .i64 0], .bool false])) w' :=
  ⟨none, 0, rfl, ⟨_, _, rfl, Nat.le_refl _, Rd.nil_ _ _ _ _⟩, h⟩
set_option maxHeartbeats 1000000 in
theorem GetItem_impl {w : World} {A : Option Addr} {c : Nat} {L : List M.Item} {q : Int} (D : SeesI w A L) :
    Calls Try.prog 17 #[.slice A L.length c, .int .i64 q] w (GotG w (M.GetItem L q)) := by
  have G0 := Lib.hid (World.grownBy_alloc w (.cells #[.int .i64 0, .slice none 0 0, .int .i64 0] 32) none)
  have HV := Lib.hid (vs_impl (c := c) (D.on G0.out))
  have HD := Lib.hid D
  have HK : Hid (∀ W, w.grownBy W none → Calls Try.prog 25 #[.slice A L.length c, .int .i64 q] W fun e w' => e = .returned (.int .i64 (M.keyAt L q)) ∧ W.grownBy w' none) := Lib.hid fun W hW => indexOf_impl (D.on hW)
  have HCA := Lib.hid (M.keyAt_cases L q)
  clear D
  have B0 := Lib.hid (Row.new w 32 (ca := #[.int .i64 0, .slice none 0 0, .int .i64 0]) rfl)
  cases hv : M.validStore L
  · have HY : Hid (M.GetItem L q = none) := Lib.hid (by unfold M.GetItem; rw [if_neg (by simp [hv])])
    rw [HY.out]
    rw [hv] at HV
    clear hv HCA
    generalize L.length = n at *
    go_enter Try.func17, Try.ntmps17
    go_wp2_with fail
    refine HV.out.mono ?_
    rintro e w1 ⟨rfl, hg⟩
    have G := Lib.hid (gb_trans G0.out hg)
    have B1 := Lib.hid (B0.out.grown hg (by simp))
    clear hg
    have b0 := B1.out.cell 0
    have b1 := B1.out.cell 1
    have b2 := B1.out.cell 2
    have bf0 := B1.out.frozen 0
    have bf1 := B1.out.frozen 1
    have bf2 := B1.out.frozen 2
    simp only [List.getElem?_cons_zero, List.getElem?_cons_succ] at b0 b1 b2
    go_wp2_with fail
    refine bodyPost_ret (v := .tuple #[.agg #[.int .i64 0, .slice none 0 0, .int .i64 0], .bool false]) (by simp [results, Try.results17, go_sem, b0, b1, b2]) rfl (gotG_none ?_)
    repeat (with_reducible refine gb_setCell (p := ⟨_, _, none⟩) ?_ (.inl (by show _ ≤ w.heap.size; omega)) _)
    exact G.out
  · have HY : Hid (M.GetItem L q = L.find? (fun x => decide (x.key = q))) := Lib.hid (by unfold M.GetItem; rw [if_pos hv]; rfl)
    rw [HY.out]
    rw [hv] at HV
    clear hv
    obtain ⟨n, hn⟩ : ∃ n, n = L.length := ⟨_, rfl⟩
    rw [← hn] at HV HK ⊢
    have HN := Lib.hid hn
    clear hn
    rcases HCA.out with ⟨hq, hf⟩ | ⟨i, hi, hq, hf⟩
    · rw [hf]
      rw [hq] at HK
      clear hq hf HY
      go_enter Try.func17, Try.ntmps17
      go_wp2_with fail
      refine HV.out.mono ?_
      rintro e w1 ⟨rfl, hg⟩
      have G := Lib.hid (gb_trans G0.out hg)
      have B1 := Lib.hid (B0.out.grown hg (by simp))
      clear hg
      go_wp2_with fail
      refine (HK.out _ G.out).mono ?_
      rintro e w2 ⟨rfl, hg⟩
      replace G := Lib.hid (gb_trans G.out hg)
      have B2 := Lib.hid (B1.out.grown hg (by simp))
      clear hg
      have b0 := B2.out.cell 0
      have b1 := B2.out.cell 1
      have b2 := B2.out.cell 2
      have bf0 := B2.out.frozen 0
      have bf1 := B2.out.frozen 1
      have bf2 := B2.out.frozen 2
      simp only [List.getElem?_cons_zero, List.getElem?_cons_succ] at b0 b1 b2
      go_wp2_with fail
      refine bodyPost_ret (v := .tuple #[.agg #[.int .i64 0, .slice none 0 0, .int .i64 0], .bool false]) (by simp [results, Try.results17, go_sem, b0, b1, b2]) rfl (gotG_none ?_)
      repeat (with_reducible refine gb_setCell (p := ⟨_, _, none⟩) ?_ (.inl (by show _ ≤ w.heap.size; omega)) _)
      exact G.out
    · rw [hf]
      rw [hq] at HK
      have hin : i < n := by rw [HN.out]; exact hi
      have ik : (i : Int) < n := by omega
      have i0' : decide ((i : Int) < 0) = false := by simp
      obtain ⟨b, o, rfl, hb1, hb2, hJ⟩ := HD.out.1.at_ (List.getElem?_eq_getElem hi)
      have HJ := Lib.hid hJ
      have hpl : L[i].pos.length ≤ 1048576 := HD.out.2.2 _ (List.getElem_mem hi)
      clear hq hf HY hJ
      generalize L[i] = y at *
      go_enter Try.func17, Try.ntmps17
      go_wp2_with fail
      refine HV.out.mono ?_
      rintro e w1 ⟨rfl, hg⟩
      have G := Lib.hid (gb_trans G0.out hg)
      have B1 := Lib.hid (B0.out.grown hg (by simp))
      clear hg
      go_wp2_with fail
      refine (HK.out _ G.out).mono ?_
      rintro e w2 ⟨rfl, hg⟩
      replace G := Lib.hid (gb_trans G.out hg)
      have B2 := Lib.hid (B1.out.grown hg (by simp))
      have hs2 := G.out.size
      have HLT := Lib.hid B2.out.lt
      clear hg
      obtain ⟨u, c0, c1, c2, hu⟩ := HJ.out.agree hb1 hb2 (Agree.of_grown G.out)
      obtain ⟨Au, cu, rfl, hcu, hru⟩ := hu
      have HU := Lib.hid ((show RdInts .i64 w2 0 w.heap.size (.slice Au y.pos.length cu) y.pos from ⟨_, _, rfl, hcu, hru⟩).wide (Nat.le_refl _) hs2)
      clear hcu hru
      go_wp2_with fail
      refine (copyItem_impl w2 (.slice Au y.pos.length cu) 0 w2.heap.size y hpl HU.out (Nat.le_refl _)).mono ?_
      rintro e w3 ⟨Ac, cc, rfl, hc, hg⟩
      have HC := Lib.hid hc.rd
      replace G := Lib.hid (gb_trans G.out hg)
      have B3 := Lib.hid (B2.out.grown hg (by simp))
      clear hc hg c0 c1 c2
      have b0 := B3.out.cell 0
      have b1 := B3.out.cell 1
      have b2 := B3.out.cell 2
      have bf0 := B3.out.frozen 0
      have bf1 := B3.out.frozen 1
      have bf2 := B3.out.frozen 2
      simp only [List.getElem?_cons_zero, List.getElem?_cons_succ] at b0 b1 b2
      go_wp2_with fail
      refine bodyPost_ret (v := .tuple #[.agg #[.int .i64 y.key, .slice Ac y.pos.length cc, .int .i64 y.tags], .bool true]) (by simp [results, Try.results17, go_sem, b0, b1, b2]) rfl ⟨Ac, cc, rfl, RdInts.wide (RdInts.agree HC.out ?_) (Nat.zero_le _) (by simp only [World.size_setCell]; exact Nat.le_refl _), ?_⟩
      · repeat (with_reducible refine Agree.set_ (p := ⟨_, _, none⟩) ?_ (.inl (by show w.heap.size < _; exact HLT.out)) _)
        exact Agree.refl _ _ _
      · repeat (with_reducible refine gb_setCell (p := ⟨_, _, none⟩) ?_ (.inl (by show _ ≤ w.heap.size; omega)) _)
        exact G.out
theorem rlog_eq {L : List M.Item} {l : List M.Entry} (h1 : M.validStore L = true) (h2 : M.validLog l = true) : M.ReplayLog L l = ((M.replay L l).1, ((M.replay L l).2 : Int)) := by
  unfold M.ReplayLog
  rw [if_pos ⟨h1, h2⟩]
theorem SeesE.drop' {w : World} {A : Option Addr} {L : List M.Entry} (h : SeesE w A L) (k : Nat) : SeesE w (A.map fun x => x.add (k * 4)) (L.drop k) := by
  refine ⟨fun hn => ?_, h.2.drop k⟩
  have hne : L ≠ [] := by intro e; subst e; simp at hn
  obtain ⟨b, o, rfl, _⟩ := h.1 hne
  have he : (some (⟨b, o, none⟩ : Addr)).map (fun x => x.add (k * 4)) = (some (⟨b, o, none⟩ : Addr)).map (fun x => (⟨x.block, x.off + k * 4, none⟩ : Addr)) := by
    simp only [Option.map_some, Addr.add]
    split <;> simp_all
  rw [he]
  exact (h.1.drop k) hn
end Go.Proofs.Ytilecjaibmglbaa
