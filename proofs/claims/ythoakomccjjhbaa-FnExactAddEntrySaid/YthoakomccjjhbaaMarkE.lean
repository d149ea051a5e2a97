/- The walks of the marks of entries: what is marked holds its numbers. -/
import Derived.Test.YthoakomccjjhbaaMarkW
import Derived.Test.YthoakomccjjhbaaEnt
namespace Go.Proofs.Ythoakomccjjhbaa
open Go.RowKit
set_option linter.unusedVariables false
set_option maxRecDepth 100000

/-- items of the call's own, all their blocks from lo on, below hi -/
def OwnLE (w : World) (lo hi : Nat) (v : Value) (LV : List (M.Entry × Value)) : Prop :=
  w.ownsRow lo 30 4 v LV.length (cellsE LV) ∧ (∀ p ∈ LV, OwnInts .i64 3 w lo p.2 p.1.item.pos) ∧ LV.Pairwise (fun p q => p.2.ownBlock = none ∨ p.2.ownBlock ≠ q.2.ownBlock) ∧
    (∀ b, v.ownBlock = some b → b < hi) ∧ (∀ p ∈ LV, ∀ b, p.2.ownBlock = some b → b < hi)
theorem OwnEntries.lv {w : World} {lo : Nat} {v : Value} {L : List M.Entry} (h : OwnEntries w lo v L) : ∃ LV, LV.map (·.1) = L ∧ OwnLE w lo w.heap.size v LV := by
  obtain ⟨LV, h1, h2, h3, h4⟩ := h
  exact ⟨LV, h1, h2, h3, h4, fun b hb => (h2.lt b hb).2, fun p hp b hb => ((h3 p hp).lt b hb).2⟩
theorem OwnLE.items {w : World} {lo hi : Nat} {v : Value} {LV : List (M.Entry × Value)} (h : OwnLE w lo hi v LV) : OwnEntries w lo v (LV.map (·.1)) := ⟨LV, rfl, h.1, h.2.1, h.2.2.1⟩
theorem OwnLE.agree {w w' : World} {lo hi : Nat} {v : Value} {LV : List (M.Entry × Value)} (h : OwnLE w lo hi v LV) (ha : Agree lo hi w w') : OwnLE w' lo hi v LV :=
  ⟨own_agree h.1 h.2.2.2.1 ha, fun p hp => own_agree (h.2.1 p hp) (h.2.2.2.2 p hp) ha, h.2.2⟩

theorem ecells_set0 (P R : List (M.Entry × Value)) (p : M.Entry × Value) (x : Int) : (cellsE (P ++ p :: R)).set (P.length * 4) (.int .i64 x) = cellsE (P ++ ({ p.1 with kind := x }, p.2) :: R) := by
  rw [cellsE_append, cellsE_append, List.set_append_right _ _ (by rw [cellsE_length]; exact Nat.le_refl _), cellsE_length, Nat.sub_self]
  rfl
theorem ecells_set1 (P R : List (M.Entry × Value)) (p : M.Entry × Value) (x : Int) : (cellsE (P ++ p :: R)).set (P.length * 4 + 1) (.int .i64 x) = cellsE (P ++ ({ p.1 with item := { p.1.item with key := x } }, p.2) :: R) := by
  rw [cellsE_append, cellsE_append, List.set_append_right _ _ (by rw [cellsE_length]; omega), cellsE_length, show P.length * 4 + 1 - P.length * 4 = 1 from by omega]
  rfl
theorem ecells_set3 (P R : List (M.Entry × Value)) (p : M.Entry × Value) (x : Int) : (cellsE (P ++ p :: R)).set (P.length * 4 + 1 + 2) (.int .i64 x) = cellsE (P ++ ({ p.1 with item := { p.1.item with tags := x } }, p.2) :: R) := by
  rw [cellsE_append, cellsE_append, List.set_append_right _ _ (by rw [cellsE_length]; omega), cellsE_length, show P.length * 4 + 1 + 2 - P.length * 4 = 3 from by omega]
  rfl
theorem ecells_pos (P R : List (M.Entry × Value)) (p : M.Entry × Value) (l : List Int) : cellsE (P ++ p :: R) = cellsE (P ++ ({ p.1 with item := { p.1.item with pos := l } }, p.2) :: R) := by
  rw [cellsE_append, cellsE_append]
  rfl

theorem OwnLE.set_ {w : World} {lo hi g cap : Nat} {n : Nat} {P R : List (M.Entry × Value)} {p : M.Entry × Value} (h : OwnLE w lo hi (.slice (some ⟨g, 0, none⟩) n cap) (P ++ p :: R)) (hn : n = (P ++ p :: R).length)
    {y : M.Entry} (hy : y.item.pos = p.1.item.pos) {i : Nat} {u : Value} (hc : (cellsE (P ++ p :: R)).set i u = cellsE (P ++ (y, p.2) :: R)) :
    OwnLE (w.setCell ⟨g, i, none⟩ u) lo hi (.slice (some ⟨g, 0, none⟩) n cap) (P ++ (y, p.2) :: R) ∧ w.grownBy (w.setCell ⟨g, i, none⟩ u) (some g) := by
  subst hn
  obtain ⟨h1, h2, h3, h4, h5⟩ := h
  have hs := h1.stored i u
  rw [hc] at hs
  have hl : (P ++ (y, p.2) :: R).length = (P ++ p :: R).length := by simp
  refine ⟨⟨by rw [hl]; exact hs.1, fun q hq => ?_, ?_, h4, fun q hq => ?_⟩, hs.2⟩
  · have hq' : ∃ q' ∈ P ++ p :: R, q'.2 = q.2 ∧ q'.1.item.pos = q.1.item.pos := by
      simp only [List.mem_append, List.mem_cons] at hq ⊢
      rcases hq with hq | rfl | hq
      · exact ⟨q, .inl hq, rfl, rfl⟩
      · exact ⟨p, .inr (.inl rfl), rfl, hy.symm⟩
      · exact ⟨q, .inr (.inr hq), rfl, rfl⟩
    obtain ⟨q', hm, e1, e2⟩ := hq'
    have hO := h2 q' hm
    rw [e1, e2] at hO
    refine hO.kept hs.2 ?_
    have := own_types hO h1 (by decide)
    simpa [Value.ownBlock] using this
  · rw [List.pairwise_append, List.pairwise_cons] at h3 ⊢
    exact ⟨h3.1, ⟨h3.2.1.1, h3.2.1.2⟩, fun a ha b hb => by
      simp only [List.mem_cons] at hb
      rcases hb with rfl | hb
      · exact h3.2.2 a ha p (by simp)
      · exact h3.2.2 a ha b (by simp [hb])⟩
  · simp only [List.mem_append, List.mem_cons] at hq
    rcases hq with hq | rfl | hq
    · exact h5 q (by simp [hq])
    · exact h5 p (by simp)
    · exact h5 q (by simp [hq])

theorem OwnLE.pos_ {w w' : World} {lo hi : Nat} {v : Value} {P R : List (M.Entry × Value)} {p : M.Entry × Value} (h : OwnLE w lo hi v (P ++ p :: R)) {l : List Int} (hO : OwnInts .i64 3 w' lo p.2 l) (hg : w.grownBy w' p.2.ownBlock) :
    OwnLE w' lo hi v (P ++ ({ p.1 with item := { p.1.item with pos := l } }, p.2) :: R) := by
  obtain ⟨h1, h2, h3, h4, h5⟩ := h
  have hpm : p ∈ P ++ p :: R := by simp
  have hl : (P ++ (({ p.1 with item := { p.1.item with pos := l } } : M.Entry), p.2) :: R).length = (P ++ p :: R).length := by simp
  have hp := h3
  rw [List.pairwise_append, List.pairwise_cons] at hp
  have hne : ∀ q : Value, (q.ownBlock = none ∨ q.ownBlock ≠ p.2.ownBlock) ∨ (p.2.ownBlock = none ∨ p.2.ownBlock ≠ q.ownBlock) → q.ownBlock = none ∨ q.ownBlock ≠ p.2.ownBlock := fun q h => by
    rcases h with h | h
    · exact h
    · cases hq : q.ownBlock with
      | none => exact .inl rfl
      | some b =>
        refine .inr fun e => ?_
        rcases h with h | h
        · rw [h] at e; cases e
        · rw [hq] at h; exact h e.symm
  refine ⟨?_, fun q hq => ?_, ?_, h4, fun q hq => ?_⟩
  · rw [hl, ← ecells_pos]
    exact h1.kept hg (own_types h1 (h2 p hpm) (by decide))
  · simp only [List.mem_append, List.mem_cons] at hq
    rcases hq with hq | rfl | hq
    · exact (h2 q (by simp [hq])).kept hg (hne _ (.inl (hp.2.2 q hq p (by simp))))
    · exact hO
    · exact (h2 q (by simp [hq])).kept hg (hne _ (.inr (hp.2.1.1 q hq)))
  · rw [List.pairwise_append, List.pairwise_cons]
    exact ⟨hp.1, ⟨hp.2.1.1, hp.2.1.2⟩, fun a ha b hb => by
      simp only [List.mem_cons] at hb
      rcases hb with rfl | hb
      · exact hp.2.2 a ha p (by simp)
      · exact hp.2.2 a ha b (by simp [hb])⟩
  · simp only [List.mem_append, List.mem_cons] at hq
    rcases hq with hq | rfl | hq
    · exact h5 q (by simp [hq])
    · exact h5 p (by simp)
    · exact h5 q (by simp [hq])

def szE : List (M.Entry × Value) → Nat
  | [] => 0
  | p :: r => p.1.item.pos.length + 3 + szE r
theorem szE_append (P R : List (M.Entry × Value)) : szE (P ++ R) = szE P + szE R := by
  induction P with
  | nil => simp [szE]
  | cons p r ih => show _ + szE (r ++ R) = _; rw [ih]; simp [szE]; omega
def renLE (k : Int) : List (M.Entry × Value) → List (M.Entry × Value)
  | [] => []
  | p :: r => (⟨k, ⟨k + 1, ren (k + 1 + 1) p.1.item.pos.length, k + 1 + 1 + p.1.item.pos.length⟩⟩, p.2) :: renLE (k + (p.1.item.pos.length + 3 : Nat)) r
theorem renLE_length (L : List (M.Entry × Value)) : ∀ k, (renLE k L).length = L.length := by
  induction L with
  | nil => intro k; rfl
  | cons p r ih => intro k; show (renLE _ r).length + 1 = _; rw [ih]; rfl
theorem renLE_append (P R : List (M.Entry × Value)) : ∀ k, renLE k (P ++ R) = renLE k P ++ renLE (k + szE P) R := by
  induction P with
  | nil => intro k; simp [renLE, szE]
  | cons q r ih =>
    intro k
    show _ :: renLE _ (r ++ R) = _ :: (renLE _ r ++ _)
    rw [ih]
    have : k + ((q.1.item.pos.length + 3 : Nat) : Int) + (szE r : Int) = k + (szE (q :: r) : Int) := by simp [szE]; omega
    rw [this]
theorem renLE_snoc (P : List (M.Entry × Value)) (p : M.Entry × Value) : ∀ k, renLE k (P ++ [p]) = renLE k P ++ [(⟨k + szE P, ⟨k + szE P + 1, ren (k + szE P + 1 + 1) p.1.item.pos.length, k + szE P + 1 + 1 + p.1.item.pos.length⟩⟩, p.2)] := by
  induction P with
  | nil => intro k; simp [renLE, szE]
  | cons q r ih =>
    intro k
    show _ :: renLE _ (r ++ [p]) = _ :: (renLE _ r ++ _)
    rw [ih]
    have : k + ((q.1.item.pos.length + 3 : Nat) : Int) + (szE r : Int) = k + (szE (q :: r) : Int) := by simp [szE]; omega
    rw [this]

theorem szE_le (L : List (M.Entry × Value)) (h : ∀ p ∈ L, p.1.item.pos.length ≤ 1048576) : szE L ≤ L.length * 1048579 := by
  induction L with
  | nil => simp [szE]
  | cons p r ih =>
    have h1 := ih (fun q hq => h q (List.mem_cons_of_mem _ hq))
    have h2 := h p (by simp)
    show p.1.item.pos.length + 3 + szE r ≤ (r.length + 1) * 1048579
    omega

set_option maxHeartbeats 600000 in
theorem markEntryS_any (w : World) (A : Option Addr) (c lo hi : Nat) (LV : List (M.Entry × Value)) (k : Int) (hl : LV.length ≤ 1048576) (hp : ∀ p ∈ LV, p.1.item.pos.length ≤ 1048576) (ho : OwnLE w lo hi (.slice A LV.length c) LV) (h0 : 0 ≤ k) (h1 : k ≤ 3298000000000) :
    Calls Try.prog 68 #[.slice A LV.length c, .int .i64 k] w fun e w' => e = .returned (.int .i64 (k + szE LV)) ∧ OwnLE w' lo hi (.slice A LV.length c) (renLE k LV) ∧ Wrote lo hi w w' := by
  obtain ⟨n, hn⟩ : ∃ n, n = LV.length := ⟨_, rfl⟩
  rw [← hn] at hl ho ⊢
  have HL := Lib.hid hn
  have HO := Lib.hid ho
  have HP := Lib.hid hp
  have hsz : szE LV ≤ 1099514773504 := by have := szE_le LV hp; rw [← hn] at this; omega
  clear hn ho hp
  go_enter Try.func68, Try.ntmps68
  go_wp2_with fail
  go_loopw [1, 5] (fun q i wr => ∃ (P R : List (M.Entry × Value)) (j : Nat) (kj : Int), LV = P ++ R ∧ P.length = j ∧ i = .int .i64 j ∧ kj = k + szE P ∧ q = .int .i64 kj ∧ OwnLE wr lo hi (.slice A n c) (renLE k P ++ R) ∧ Wrote lo hi w wr) (fun _ i _ => n - (intOf i).toNat)
  case atStart => exact ⟨[], LV, 0, k, rfl, rfl, rfl, by simp [szE], rfl, HO.out, Wrote.refl _ _ _⟩
  case round =>
    obtain ⟨P, R, j, kj, hLV, hPj, rfl, hkj, rfl, hown, hwr⟩ := hrel
    have HLV := Lib.hid hLV
    have HPJ := Lib.hid hPj
    have HKJ := Lib.hid hkj
    have HWR := Lib.hid hwr
    have hszP : szE P + szE R = szE LV := by rw [hLV, szE_append]
    have hlen : j + R.length = n := by rw [← hPj, HL.out, hLV, List.length_append]
    have hkj0 : 0 ≤ kj := by omega
    have hkj1 : kj ≤ 4398000000000 := by omega
    clear hLV hPj hkj hwr
    by_cases hlt : j < n
    · match R, hlen, HLV, hszP, hown with
      | [], hlen, _, _, _ => simp at hlen; omega
      | (y, u) :: R', hlen, HLV, hszP, hown =>
        have hyl : y.item.pos.length ≤ 1048576 := HP.out (y, u) (by rw [HLV.out]; simp)
        have hpl : (renLE k P).length = j := by rw [renLE_length, HPJ.out]
        obtain ⟨Au, cu, hu, hcu, _⟩ := (hown.2.1 (y, u) (by simp)).rd
        have hu' : u = .slice Au y.item.pos.length cu := hu
        subst hu'
        have hn' : n = (renLE k P ++ (y, Value.slice Au y.item.pos.length cu) :: R').length := by rw [List.length_append, hpl, hlen]
        have hrow0 := hown.1
        rw [← hn'] at hrow0
        obtain ⟨g, rfl, hlo, hgs, hnc⟩ := own_form' hrow0 (by omega)
        clear hrow0
        have hat : (renLE k P ++ (y, Value.slice Au y.item.pos.length cu) :: R')[j]? = some (y, .slice Au y.item.pos.length cu) := by rw [List.getElem?_append_right (by omega), hpl, Nat.sub_self]; rfl
        obtain ⟨x0, x1, x2, x3⟩ := cellsE_at hat
        have hrow := hown.1
        rw [← hn'] at hrow
        have d0 : wr.cell? ⟨g, j * 4, none⟩ = some (.int .i64 y.kind) := (hrow.cellAt _ (by omega)).trans x0
        have d1 : wr.cell? ⟨g, j * 4 + 1, none⟩ = some (.int .i64 y.item.key) := (hrow.cellAt _ (by omega)).trans x1
        have d2 : wr.cell? ⟨g, j * 4 + 1 + 1, none⟩ = some (.slice Au y.item.pos.length cu) := (hrow.cellAt _ (by omega)).trans x2
        have f0 : wr.frozen? ⟨g, j * 4, none⟩ = false := hrow.frozenAt _
        have f1 : wr.frozen? ⟨g, j * 4 + 1, none⟩ = false := hrow.frozenAt _
        have s0 := hown.set_ hn' (y := { y with kind := kj }) rfl (hpl ▸ ecells_set0 (renLE k P) R' (y, .slice Au y.item.pos.length cu) kj)
        have hn1 : n = (renLE k P ++ (({ y with kind := kj } : M.Entry), Value.slice Au y.item.pos.length cu) :: R').length := by rw [hn']; simp
        have s1 := s0.1.set_ hn1 (y := { y with kind := kj, item := { y.item with key := kj + 1 } }) rfl (hpl ▸ ecells_set1 (renLE k P) R' ({ y with kind := kj }, .slice Au y.item.pos.length cu) (kj + 1))
        have HS0 := Lib.hid s0
        have HS1 := Lib.hid s1
        have HN := Lib.hid hn'
        have HPL := Lib.hid hpl
        have HLE := Lib.hid hlen
        clear hat x0 x1 x2 x3 hrow hown s0 s1 hn' hn1 hpl hlen hu
        go_wp2_with fail
        refine (markIntS_any _ Au cu lo y.item.pos (kj + 1 + 1) hyl (HS1.out.1.2.1 ({ y with kind := kj, item := { y.item with key := kj + 1 } }, .slice Au y.item.pos.length cu) (by simp)) (by omega) (by omega)).mono ?_
        rintro e w2 ⟨rfl, ho2, hg2⟩
        have s2 := HS1.out.1.pos_ ho2 hg2
        have hn2 : n = (renLE k P ++ (({ y with kind := kj, item := { y.item with key := kj + 1, pos := ren (kj + 1 + 1) y.item.pos.length } } : M.Entry), Value.slice Au y.item.pos.length cu) :: R').length := by rw [HN.out]; simp
        have hat : (renLE k P ++ (({ y with kind := kj, item := { y.item with key := kj + 1, pos := ren (kj + 1 + 1) y.item.pos.length } } : M.Entry), Value.slice Au y.item.pos.length cu) :: R')[j]? = some ({ y with kind := kj, item := { y.item with key := kj + 1, pos := ren (kj + 1 + 1) y.item.pos.length } }, .slice Au y.item.pos.length cu) := by rw [List.getElem?_append_right (by rw [HPL.out]; omega), HPL.out, Nat.sub_self]; rfl
        obtain ⟨x0, x1, x2, x3⟩ := cellsE_at hat
        have hrow := s2.1
        rw [← hn2] at hrow
        have d3 : w2.cell? ⟨g, j * 4 + 1 + 2, none⟩ = some (.int .i64 y.item.tags) := (hrow.cellAt _ (by omega)).trans x3
        have f3 : w2.frozen? ⟨g, j * 4 + 1 + 2, none⟩ = false := hrow.frozenAt _
        have s3 := s2.set_ hn2 (y := { y with kind := kj, item := { y.item with key := kj + 1, pos := ren (kj + 1 + 1) y.item.pos.length, tags := kj + 1 + 1 + y.item.pos.length } }) rfl (HPL.out ▸ ecells_set3 (renLE k P) R' ({ y with kind := kj, item := { y.item with key := kj + 1, pos := ren (kj + 1 + 1) y.item.pos.length } }, .slice Au y.item.pos.length cu) (kj + 1 + 1 + y.item.pos.length))
        have HS3 := Lib.hid s3
        have HG2 := Lib.hid hg2
        have hb2 : Hid (∀ b, (Value.slice Au y.item.pos.length cu).ownBlock = some b → lo ≤ b ∧ b < hi) := Lib.hid fun b hb => ⟨((HS1.out.1.2.1 ({ y with kind := kj, item := { y.item with key := kj + 1 } }, .slice Au y.item.pos.length cu) (by simp)).lt b hb).1, HS1.out.1.2.2.2.2 ({ y with kind := kj, item := { y.item with key := kj + 1 } }, .slice Au y.item.pos.length cu) (by simp) b hb⟩
        have hgh : Hid (lo ≤ g ∧ g < hi) := Lib.hid ⟨hlo, HS1.out.1.2.2.2.1 g rfl⟩
        clear s2 hn2 hat x0 x1 x2 x3 hrow s3 ho2 hg2 d0 d1 d2 f0 f1
        go_wp2_with fail
        go_roundw
        case rel =>
          refine ⟨P ++ [(y, .slice Au y.item.pos.length cu)], R', j + 1, kj + 1 + 1 + y.item.pos.length + 1, by rw [HLV.out]; simp, by simp [HPJ.out], by go_num, by rw [szE_append, HKJ.out]; simp [szE]; omega, by go_num, ?_, ?_⟩
          · rw [renLE_snoc, ← HKJ.out, List.append_assoc]
            exact HS3.out.1
          · exact (((HWR.out.grown HS0.out.2 (by intro b hb; injection hb with hb; subst hb; exact hgh.out)).grown HS1.out.2 (by intro b hb; injection hb with hb; subst hb; exact hgh.out)).grown HG2.out hb2.out).grown HS3.out.2 (by intro b hb; injection hb with hb; subst hb; exact hgh.out)
        case measure => simp [intOf]; omega
    · have hR : R = [] := List.eq_nil_of_length_eq_zero (by omega)
      subst hR
      have HW := Lib.hid hown
      have HSZ := Lib.hid hszP
      have hjn : j = n := by omega
      subst hjn
      clear hown hszP hlen
      go_wp2_with fail
      go_ret
      refine ⟨ret_int ?_, ?_, HWR.out⟩
      · have := HSZ.out
        simp only [szE, Nat.add_zero] at this
        rw [HKJ.out, this]
      · have := HW.out
        rw [List.append_nil] at this
        rw [HLV.out, List.append_nil]
        exact this

set_option maxHeartbeats 600000 in
theorem heldEntryS_any (w : World) (A : Option Addr) (c lo hi : Nat) (LV : List (M.Entry × Value)) (k : Int) (hl : LV.length ≤ 1048576) (hp : ∀ p ∈ LV, p.1.item.pos.length ≤ 1048576) (hr : RdE w lo hi A ((renLE k LV).map (·.1))) (h0 : 0 ≤ k) (h1 : k ≤ 3298000000000) :
    Calls Try.prog 69 #[.slice A LV.length c, .int .i64 k] w fun e w' => e = .returned (.int .i64 (k + szE LV)) ∧ w = w' := by
  obtain ⟨n, hn⟩ : ∃ n, n = LV.length := ⟨_, rfl⟩
  rw [← hn] at hl ⊢
  have HL := Lib.hid hn
  have HR := Lib.hid hr
  have HP := Lib.hid hp
  have hsz : szE LV ≤ 1099514773504 := by have := szE_le LV hp; rw [← hn] at this; omega
  clear hn hr hp
  go_enter Try.func69, Try.ntmps69
  go_wp2_with fail
  go_loop [1, 5] (fun q i => ∃ (P R : List (M.Entry × Value)) (j : Nat) (kj : Int), LV = P ++ R ∧ P.length = j ∧ i = .int .i64 j ∧ kj = k + szE P ∧ q = .int .i64 kj) (fun _ i => n - (intOf i).toNat)
  case atStart => exact ⟨[], LV, 0, k, rfl, rfl, rfl, by simp [szE], rfl⟩
  case round =>
    obtain ⟨P, R, j, kj, hLV, hPj, rfl, hkj, rfl⟩ := hrel
    have HLV := Lib.hid hLV
    have HPJ := Lib.hid hPj
    have HKJ := Lib.hid hkj
    have hszP : szE P + szE R = szE LV := by rw [hLV, szE_append]
    have hlen : j + R.length = n := by rw [← hPj, HL.out, hLV, List.length_append]
    have hkj0 : 0 ≤ kj := by omega
    have hkj1 : kj ≤ 4398000000000 := by omega
    clear hLV hPj hkj
    by_cases hlt : j < n
    · match R, hlen, HLV, hszP with
      | [], hlen, _, _ => simp at hlen; omega
      | (y, u) :: R', hlen, HLV, hszP =>
        have hyl : y.item.pos.length ≤ 1048576 := HP.out (y, u) (by rw [HLV.out]; simp)
        have hat : ((renLE k LV).map (·.1))[j]? = some ⟨kj, ⟨kj + 1, ren (kj + 1 + 1) y.item.pos.length, kj + 1 + 1 + y.item.pos.length⟩⟩ := by
          rw [HLV.out, show P ++ (y, u) :: R' = (P ++ [(y, u)]) ++ R' from by simp, renLE_append, renLE_snoc, ← HKJ.out]
          rw [List.map_append, List.map_append, List.append_assoc, List.getElem?_append_right (by rw [List.length_map, renLE_length, HPJ.out]; exact Nat.le_refl _), List.length_map, renLE_length, HPJ.out, Nat.sub_self]
          rfl
        obtain ⟨b, o, rfl, hb1, hb2, hI⟩ := HR.out.at_ hat
        obtain ⟨uu, c0, c1, c2, c3, hu⟩ := hI
        obtain ⟨Au, cu, huu, hcu, hru⟩ := hu
        rw [ren_length] at huu
        subst huu
        have HRU := Lib.hid hru
        have t0 : (kj != kj) = false := by simp
        have t1 : ((kj + 1) != kj + 1) = false := by simp
        have t2 : ((kj + 1 + 1 + (y.item.pos.length : Int)) != kj + 1 + 1 + y.item.pos.length) = false := by simp
        clear hat hcu hru
        go_wp2_with fail
        refine (heldIntS_any w Au cu _ _ y.item.pos.length (kj + 1 + 1) hyl HRU.out (by omega) (by omega)).mono ?_
        rintro e w' ⟨rfl, rfl⟩
        go_wp2_with fail
        go_round
        case rel => exact ⟨P ++ [(y, u)], R', j + 1, kj + 1 + 1 + y.item.pos.length + 1, by rw [HLV.out]; simp, by simp [HPJ.out], by go_num, by rw [szE_append, HKJ.out]; simp [szE]; omega, by go_num⟩
        case measure => simp [intOf]; omega
    · have hR : R = [] := List.eq_nil_of_length_eq_zero (by omega)
      subst hR
      have HSZ := Lib.hid hszP
      clear hszP hlen
      go_wp2_with fail
      go_ret
      refine ⟨ret_int ?_, rfl⟩
      have := HSZ.out
      simp only [szE, Nat.add_zero] at this
      rw [HKJ.out, this]

end Go.Proofs.Ythoakomccjjhbaa
