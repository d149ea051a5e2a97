/- The walks of the marks of histories. -/
import Derived.Test.YthoakomccjjhbaaExH
namespace Go.Proofs.Ythoakomccjjhbaa
open Go.RowKit
set_option linter.unusedVariables false
set_option linter.unusedSimpArgs false
set_option maxRecDepth 100000

theorem flip_none {a b : Option Nat} (h : a = none ∨ a ≠ b) : b = none ∨ b ≠ a := by
  cases b with
  | none => exact .inl rfl
  | some x =>
    refine .inr fun e => ?_
    rcases h with h | h
    · rw [h] at e; cases e
    · exact h e.symm
theorem Wrote.trans {lo hi : Nat} {a b c : World} (h : Wrote lo hi a b) (k : Wrote lo hi b c) : Wrote lo hi a c :=
  ⟨k.os.trans h.os, k.tape.trans h.tape, k.output.trans h.output, Nat.le_trans h.size k.size, fun i hi' hn => (k.block i (Nat.lt_of_lt_of_le hi' h.size) hn).trans (h.block i hi' hn)⟩
set_option maxHeartbeats 600000 in
theorem markEntryH_any (w : World) (A : Option Addr) (c lo hi : Nat) (LV : List (M.Entry × Value)) (k : Int) (hl : LV.length ≤ 1048576) (hp : ∀ p ∈ LV, p.1.item.pos.length ≤ 1048576) (ho : OwnLE w lo hi (.slice A LV.length c) LV) (h0 : 0 ≤ k) (h1 : k ≤ 3298000000000) {v2 : Value} {ts : List Int} (hT : OwnInts .i64 3 w lo v2 ts) (hD : ∀ p ∈ LV, p.2.ownBlock = none ∨ p.2.ownBlock ≠ v2.ownBlock) :
    Calls Try.prog 68 #[.slice A LV.length c, .int .i64 k] w fun e w' => e = .returned (.int .i64 (k + szE LV)) ∧ OwnLE w' lo hi (.slice A LV.length c) (renLE k LV) ∧ Wrote lo hi w w' ∧ OwnInts .i64 3 w' lo v2 ts := by
  obtain ⟨n, hn⟩ : ∃ n, n = LV.length := ⟨_, rfl⟩
  rw [← hn] at hl ho ⊢
  have HL := Lib.hid hn
  have HO := Lib.hid ho
  have HP := Lib.hid hp
  have HT := Lib.hid hT
  have HDJ := Lib.hid hD
  have hsz : szE LV ≤ 1099514773504 := by have := szE_le LV hp; rw [← hn] at this; omega
  clear hn ho hp hT hD
  go_enter Try.func68, Try.ntmps68
  go_wp2_with fail
  go_loopw [1, 5] (fun q i wr => ∃ (P R : List (M.Entry × Value)) (j : Nat) (kj : Int), LV = P ++ R ∧ P.length = j ∧ i = .int .i64 j ∧ kj = k + szE P ∧ q = .int .i64 kj ∧ OwnLE wr lo hi (.slice A n c) (renLE k P ++ R) ∧ Wrote lo hi w wr ∧ OwnInts .i64 3 wr lo v2 ts) (fun _ i _ => n - (intOf i).toNat)
  case atStart => exact ⟨[], LV, 0, k, rfl, rfl, rfl, by simp [szE], rfl, HO.out, Wrote.refl _ _ _, HT.out⟩
  case round =>
    obtain ⟨P, R, j, kj, hLV, hPj, rfl, hkj, rfl, hown, hwr, htt⟩ := hrel
    have HTT := Lib.hid htt
    have HLV := Lib.hid hLV
    have HPJ := Lib.hid hPj
    have HKJ := Lib.hid hkj
    have HWR := Lib.hid hwr
    have hszP : szE P + szE R = szE LV := by rw [hLV, szE_append]
    have hlen : j + R.length = n := by rw [← hPj, HL.out, hLV, List.length_append]
    have hkj0 : 0 ≤ kj := by omega
    have hkj1 : kj ≤ 4398000000000 := by omega
    clear hLV hPj hkj hwr htt
    by_cases hlt : j < n
    · match R, hlen, HLV, hszP, hown with
      | [], hlen, _, _, _ => simp at hlen; omega
      | (y, u) :: R', hlen, HLV, hszP, hown =>
        have hyl : y.item.pos.length ≤ 1048576 := HP.out (y, u) (by rw [HLV.out]; simp)
        have hpl : (renLE k P).length = j := by rw [renLE_length, HPJ.out]
        obtain ⟨Au, cu, hu, hcu, _⟩ := (hown.2.1 (y, u) (by simp)).rd
        have hu' : u = .slice Au y.item.pos.length cu := hu
        subst hu'
        have hn' : n = (renLE k P ++ (y, Value.slice Au y.item.pos.length cu) :: R').length := by rw [List.length_append, hpl, hlen]
        have hrow0 := hown.1
        rw [← hn'] at hrow0
        obtain ⟨g, rfl, hlo, hgs, hnc⟩ := own_form' hrow0 (by omega)
        clear hrow0
        have hat : (renLE k P ++ (y, Value.slice Au y.item.pos.length cu) :: R')[j]? = some (y, .slice Au y.item.pos.length cu) := by rw [List.getElem?_append_right (by omega), hpl, Nat.sub_self]; rfl
        obtain ⟨x0, x1, x2, x3⟩ := cellsE_at hat
        have hrow := hown.1
        rw [← hn'] at hrow
        have d0 : wr.cell? ⟨g, j * 4, none⟩ = some (.int .i64 y.kind) := (hrow.cellAt _ (by omega)).trans x0
        have d1 : wr.cell? ⟨g, j * 4 + 1, none⟩ = some (.int .i64 y.item.key) := (hrow.cellAt _ (by omega)).trans x1
        have d2 : wr.cell? ⟨g, j * 4 + 1 + 1, none⟩ = some (.slice Au y.item.pos.length cu) := (hrow.cellAt _ (by omega)).trans x2
        have f0 : wr.frozen? ⟨g, j * 4, none⟩ = false := hrow.frozenAt _
        have f1 : wr.frozen? ⟨g, j * 4 + 1, none⟩ = false := hrow.frozenAt _
        have HK0 : Hid (v2.ownBlock = none ∨ v2.ownBlock ≠ some g) := Lib.hid (by have := own_types HTT.out hown.1 (by decide); simpa [Value.ownBlock] using this)
        have HKU := Lib.hid (flip_none (HDJ.out (y, .slice Au y.item.pos.length cu) (by rw [HLV.out]; simp)))
        have s0 := hown.set_ hn' (y := { y with kind := kj }) rfl (hpl ▸ ecells_set0 (renLE k P) R' (y, .slice Au y.item.pos.length cu) kj)
        have hn1 : n = (renLE k P ++ (({ y with kind := kj } : M.Entry), Value.slice Au y.item.pos.length cu) :: R').length := by rw [hn']; simp
        have s1 := s0.1.set_ hn1 (y := { y with kind := kj, item := { y.item with key := kj + 1 } }) rfl (hpl ▸ ecells_set1 (renLE k P) R' ({ y with kind := kj }, .slice Au y.item.pos.length cu) (kj + 1))
        have HS0 := Lib.hid s0
        have HS1 := Lib.hid s1
        have HN := Lib.hid hn'
        have HPL := Lib.hid hpl
        have HLE := Lib.hid hlen
        clear hat x0 x1 x2 x3 hrow hown s0 s1 hn' hn1 hpl hlen hu
        go_wp2_with fail
        refine (markIntS_any _ Au cu lo y.item.pos (kj + 1 + 1) hyl (HS1.out.1.2.1 ({ y with kind := kj, item := { y.item with key := kj + 1 } }, .slice Au y.item.pos.length cu) (by simp)) (by omega) (by omega)).mono ?_
        rintro e w2 ⟨rfl, ho2, hg2⟩
        have s2 := HS1.out.1.pos_ ho2 hg2
        have hn2 : n = (renLE k P ++ (({ y with kind := kj, item := { y.item with key := kj + 1, pos := ren (kj + 1 + 1) y.item.pos.length } } : M.Entry), Value.slice Au y.item.pos.length cu) :: R').length := by rw [HN.out]; simp
        have hat : (renLE k P ++ (({ y with kind := kj, item := { y.item with key := kj + 1, pos := ren (kj + 1 + 1) y.item.pos.length } } : M.Entry), Value.slice Au y.item.pos.length cu) :: R')[j]? = some ({ y with kind := kj, item := { y.item with key := kj + 1, pos := ren (kj + 1 + 1) y.item.pos.length } }, .slice Au y.item.pos.length cu) := by rw [List.getElem?_append_right (by rw [HPL.out]; omega), HPL.out, Nat.sub_self]; rfl
        obtain ⟨x0, x1, x2, x3⟩ := cellsE_at hat
        have hrow := s2.1
        rw [← hn2] at hrow
        have d3 : w2.cell? ⟨g, j * 4 + 1 + 2, none⟩ = some (.int .i64 y.item.tags) := (hrow.cellAt _ (by omega)).trans x3
        have f3 : w2.frozen? ⟨g, j * 4 + 1 + 2, none⟩ = false := hrow.frozenAt _
        have s3 := s2.set_ hn2 (y := { y with kind := kj, item := { y.item with key := kj + 1, pos := ren (kj + 1 + 1) y.item.pos.length, tags := kj + 1 + 1 + y.item.pos.length } }) rfl (HPL.out ▸ ecells_set3 (renLE k P) R' ({ y with kind := kj, item := { y.item with key := kj + 1, pos := ren (kj + 1 + 1) y.item.pos.length } }, .slice Au y.item.pos.length cu) (kj + 1 + 1 + y.item.pos.length))
        have HS3 := Lib.hid s3
        have HG2 := Lib.hid hg2
        have hb2 : Hid (∀ b, (Value.slice Au y.item.pos.length cu).ownBlock = some b → lo ≤ b ∧ b < hi) := Lib.hid fun b hb => ⟨((HS1.out.1.2.1 ({ y with kind := kj, item := { y.item with key := kj + 1 } }, .slice Au y.item.pos.length cu) (by simp)).lt b hb).1, HS1.out.1.2.2.2.2 ({ y with kind := kj, item := { y.item with key := kj + 1 } }, .slice Au y.item.pos.length cu) (by simp) b hb⟩
        have hgh : Hid (lo ≤ g ∧ g < hi) := Lib.hid ⟨hlo, HS1.out.1.2.2.2.1 g rfl⟩
        clear s2 hn2 hat x0 x1 x2 x3 hrow s3 ho2 hg2 d0 d1 d2 f0 f1
        go_wp2_with fail
        go_roundw
        case rel =>
          refine ⟨P ++ [(y, .slice Au y.item.pos.length cu)], R', j + 1, kj + 1 + 1 + y.item.pos.length + 1, by rw [HLV.out]; simp, by simp [HPJ.out], by go_num, by rw [szE_append, HKJ.out]; simp [szE]; omega, by go_num, ?_, ?_, (((HTT.out.kept HS0.out.2 HK0.out).kept HS1.out.2 HK0.out).kept HG2.out HKU.out).kept HS3.out.2 HK0.out⟩
          · rw [renLE_snoc, ← HKJ.out, List.append_assoc]
            exact HS3.out.1
          · exact (((HWR.out.grown HS0.out.2 (by intro b hb; injection hb with hb; subst hb; exact hgh.out)).grown HS1.out.2 (by intro b hb; injection hb with hb; subst hb; exact hgh.out)).grown HG2.out hb2.out).grown HS3.out.2 (by intro b hb; injection hb with hb; subst hb; exact hgh.out)
        case measure => simp [intOf]; omega
    · have hR : R = [] := List.eq_nil_of_length_eq_zero (by omega)
      subst hR
      have HW := Lib.hid hown
      have HSZ := Lib.hid hszP
      have hjn : j = n := by omega
      subst hjn
      clear hown hszP hlen
      go_wp2_with fail
      go_ret
      refine ⟨ret_int ?_, ?_, HWR.out, HTT.out⟩
      · have := HSZ.out
        simp only [szE, Nat.add_zero] at this
        rw [HKJ.out, this]
      · have := HW.out
        rw [List.append_nil] at this
        rw [HLV.out, List.append_nil]
        exact this

/-- a history that is marked: its blocks from lo on, below hi, all apart -/
def OwnHM (w : World) (lo hi : Nat) (v1 v2 : Value) (LV : List (M.Entry × Value)) (ts : List Int) : Prop :=
  OwnLE w lo hi v1 LV ∧ OwnIn .i64 3 w lo hi v2 ts ∧ ∀ p ∈ LV, p.2.ownBlock = none ∨ p.2.ownBlock ≠ v2.ownBlock
theorem OwnHM.agree {w w' : World} {lo hi : Nat} {v1 v2 : Value} {LV : List (M.Entry × Value)} {ts : List Int} (h : OwnHM w lo hi v1 v2 LV ts) (ha : Agree lo hi w w') : OwnHM w' lo hi v1 v2 LV ts := ⟨h.1.agree ha, h.2.1.agree ha, h.2.2⟩
theorem OwnH.hm {w : World} {lo : Nat} {v1 v2 : Value} {l : List M.Entry} {ts : List Int} (h : OwnH w lo v1 v2 l ts) : ∃ LV : List (M.Entry × Value), LV.map (·.1) = l ∧ OwnHM w lo w.heap.size v1 v2 LV ts := by
  obtain ⟨LV, h1, h2, h3, h4, h5, h6⟩ := h
  exact ⟨LV, h1, ⟨h2, h3, h4, fun b hb => (h2.lt b hb).2, fun p hp b hb => ((h3 p hp).lt b hb).2⟩, ⟨h5, fun b hb => (h5.lt b hb).2⟩, h6⟩
theorem OwnHM.rd {w : World} {lo hi n m c d : Nat} {A B : Option Addr} {LV : List (M.Entry × Value)} {ts : List Int} {l : List M.Entry} (h : OwnHM w lo hi (.slice A n c) (.slice B m d) LV ts) (hl : LV.map (·.1) = l) : RdH w w.heap.size A B ⟨l, ts⟩ :=
  ⟨hl ▸ h.1.rdE.wide (Nat.zero_le _) (Nat.le_refl _), h.2.1.rd.wide (Nat.zero_le _) (Nat.le_refl _)⟩
theorem renLE_snd (LV : List (M.Entry × Value)) : ∀ k, ∀ p ∈ renLE k LV, ∃ q ∈ LV, q.2 = p.2 := by
  induction LV with
  | nil => intro k p hp; cases hp
  | cons q r ih =>
    intro k p hp
    have hp : p ∈ (_, q.2) :: renLE (k + (q.1.item.pos.length + 3 : Nat)) r := hp
    rw [List.mem_cons] at hp
    rcases hp with rfl | hp
    · exact ⟨q, by simp, rfl⟩
    · obtain ⟨q', h1, h2⟩ := ih _ p hp
      exact ⟨q', by simp [h1], h2⟩
set_option maxHeartbeats 1000000 in
theorem markHistory_any {w : World} {A B : Option Addr} {c d lo hi n1 n2 : Nat} {LV : List (M.Entry × Value)} {ts : List Int} {k : Int} (hn1 : n1 = LV.length) (hn2 : n2 = ts.length) (hs : SmallE (LV.map (·.1))) (ht : ts.length ≤ 1048576) (ho : OwnHM w lo hi (.slice A n1 c) (.slice B n2 d) LV ts) (hh : hi ≤ w.heap.size) (h0 : 0 ≤ k) (h1 : k ≤ 3298000000000) :
    Calls Try.prog 26 #[.agg #[.slice A n1 c, .slice B n2 d], .int .i64 k] w fun e w' => e = .returned (.int .i64 (k + szE LV + n2)) ∧ OwnHM w' lo hi (.slice A n1 c) (.slice B n2 d) (renLE k LV) (ren (k + szE LV) n2) ∧ Wrote lo hi w w' := by
  have G0 := Lib.hid (World.grownBy_alloc w (.cells #[.slice A n1 c, .slice B n2 d] 26) none)
  have B0 := Lib.hid (Row.new w 26 (ca := #[.slice A n1 c, .slice B n2 d]) rfl)
  have HO := Lib.hid (ho.agree (fun b _ hb => G0.out.block b (by omega) (by simp)))
  have hsz := szE_small hs
  have HL : Hid (LV.length ≤ 1048576) := Lib.hid (by have := hs.1; rwa [List.length_map] at this)
  have HPP : Hid (∀ p ∈ LV, p.1.item.pos.length ≤ 1048576) := Lib.hid fun p hp => hs.2 p.1 (List.mem_map_of_mem hp)
  have HM : Hid (Calls Try.prog 68 #[.slice A n1 c, .int .i64 k] (w.alloc (.cells #[.slice A n1 c, .slice B n2 d] 26)) fun e w' => e = .returned (.int .i64 (k + szE LV)) ∧ OwnLE w' lo hi (.slice A n1 c) (renLE k LV) ∧ Wrote lo hi (w.alloc (.cells #[.slice A n1 c, .slice B n2 d] 26)) w' ∧ OwnInts .i64 3 w' lo (.slice B n2 d) ts) := Lib.hid (by
    subst hn1
    exact markEntryH_any _ A c lo hi LV k HL.out HPP.out HO.out.1 h0 h1 HO.out.2.1.1 HO.out.2.2)
  have HN2 := Lib.hid hn2
  have HHB := Lib.hid ho.2.1.2
  have HDJ := Lib.hid ho.2.2
  have HLT := Lib.hid B0.out.lt
  clear ho hs hn1 hn2
  go_enter Try.func26, Try.ntmps26
  go_wp2_with fail
  refine HM.out.mono ?_
  rintro e w1 ⟨rfl, ho, hw, hT⟩
  have O1 := Lib.hid ho
  have W1 := Lib.hid hw
  have T1 := Lib.hid hT
  have B1 := Lib.hid (Row.of_block B0.out (hw.block w.heap.size HLT.out (.inr hh)))
  obtain ⟨q, hq⟩ : ∃ q, q = k + (szE LV : Int) := ⟨_, rfl⟩
  rw [← hq]
  have HQ := Lib.hid hq
  have hq0 : 0 ≤ q := by omega
  have hq1 : q ≤ 4398046511104 := by omega
  have q1 := B1.out.cell 1
  simp only [List.getElem?_cons_zero, List.getElem?_cons_succ] at q1
  have HI : Hid (Calls Try.prog 39 #[.slice B n2 d, .int .i64 q] w1 fun e w' => e = .returned (.int .i64 (q + n2)) ∧ OwnInts .i64 3 w' lo (.slice B n2 d) (ren q n2) ∧ w1.grownBy w' (Value.ownBlock (.slice B n2 d))) := Lib.hid (by
    have h := T1.out
    rw [HN2.out] at h ⊢
    exact markIntS_any w1 B d lo ts q (by omega) h hq0 hq1)
  clear ho hw hT hq HM HO
  go_wp2_with fail
  refine HI.out.mono ?_
  rintro e w2 ⟨rfl, ho2, hg2⟩
  have O2 := Lib.hid ho2
  have G2 := Lib.hid hg2
  clear ho2 hg2 q1
  go_wp2_with fail
  go_ret
  refine ⟨ret_int (by rw [HQ.out]), ⟨⟨O1.out.1.kept G2.out ?_, fun p hp => ?_, O1.out.2.2.1, O1.out.2.2.2.1, O1.out.2.2.2.2⟩, ⟨HQ.out ▸ O2.out, HHB.out⟩, fun p hp => ?_⟩, ?_⟩
  · exact flip_none (own_types T1.out O1.out.1 (by decide))
  · obtain ⟨p', h1, h2⟩ := renLE_snd LV k p hp
    exact (O1.out.2.1 p hp).kept G2.out (h2 ▸ HDJ.out p' h1)
  · obtain ⟨p', h1, h2⟩ := renLE_snd LV k p hp
    exact h2 ▸ HDJ.out p' h1
  · exact (((Wrote.refl lo hi w).grown G0.out (by simp)).trans W1.out).grown G2.out (fun b hb => ⟨(T1.out.lt b hb).1, HHB.out b hb⟩)
end Go.Proofs.Ythoakomccjjhbaa
