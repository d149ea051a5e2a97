/- The walks of the tests of entries and logs. -/
import Derived.Test.YthoakomccjjhbaaEnt
import Derived.Test.YthoakomccjjhbaaItemW
namespace Go.Proofs.Ythoakomccjjhbaa
open Go.RowKit
set_option linter.unusedVariables false
set_option maxRecDepth 100000

theorem isEntry_impl (w : World) (u : Value) (lo hi : Nat) (x : M.Entry) (hl : x.item.pos.length ≤ 1048576) (hr : RdInts .i64 w lo hi u x.item.pos) (hhi : hi ≤ w.heap.size) :
    Calls Try.prog 103 #[.agg #[.int .i64 x.kind, .int .i64 x.item.key, u, .int .i64 x.item.tags]] w fun e w' => e = .returned (.bool (M.validEntry x)) ∧ w.grownBy w' none := by
  obtain ⟨A, c, rfl, hc, hrd⟩ := hr
  obtain ⟨q, ⟨k, l, t⟩⟩ := x
  have HR := Lib.hid hrd
  have hl' : l.length ≤ 1048576 := hl
  clear hrd hl
  show Calls Try.prog 103 #[.agg #[.int .i64 q, .int .i64 k, .slice A l.length c, .int .i64 t]] w _
  by_cases hq : q = 2
  · subst hq
    go_enter Try.func103, Try.ntmps103
    go_wp2_with fail
    all_goals
      go_ret
      refine ⟨ret_bool ?_, gb_alloc (gb_refl _ _) _⟩
      clear HR hl'
      simp_all [M.validEntry, M.inR]
    all_goals first | (rw [Bool.eq_iff_iff]; simp; done) | omega
  · have tq : (q == 2) = false := beq_eq_false_iff_ne.2 hq
    by_cases hq1 : q = 1
    · subst hq1
      have HC := Lib.hid (isItem_impl (w.alloc (.cells #[.int .i64 1, .int .i64 k, .slice A l.length c, .int .i64 t] 30)) (.slice A l.length c) lo hi ⟨k, l, t⟩ (by show l.length ≤ _; omega) ⟨A, c, rfl, hc, HR.out.agree (fun b _ hb => Below.heap_alloc _ _ _ (by omega))⟩ (by simp; omega))
      have HV : Hid (M.validEntry ⟨1, ⟨k, l, t⟩⟩ = M.validItem ⟨k, l, t⟩) := Lib.hid (by simp [M.validEntry])
      rw [HV.out]
      go_enter Try.func103, Try.ntmps103
      go_wp2_with fail
      refine HC.out.mono ?_
      rintro e w1 ⟨rfl, hg⟩
      have G := Lib.hid hg
      clear hg
      go_wp2_with fail
      go_ret
      exact ⟨rfl, gb_trans (gb_alloc (gb_refl w none) _) G.out⟩
    · have tq1 : (q == 1) = false := beq_eq_false_iff_ne.2 hq1
      have HV : Hid (M.validEntry ⟨q, ⟨k, l, t⟩⟩ = false) := Lib.hid (by simp [M.validEntry, hq, hq1])
      rw [HV.out]
      go_enter Try.func103, Try.ntmps103
      go_wp2_with fail
      go_ret
      exact ⟨rfl, gb_alloc (gb_refl _ _) _⟩

/-- the place of the first entry that passes -/
def idxE (L : List M.Entry) (p : M.Entry → Bool) : Int := match L.findIdx? p with | some i => (i : Int) | none => -1
theorem idxE_none {L : List M.Entry} {p : M.Entry → Bool} (h : ∀ x ∈ L, p x = false) : idxE L p = -1 := by
  unfold idxE
  rw [List.findIdx?_eq_none_iff.2 (fun x hx => h x hx)]
theorem idxE_some {L : List M.Entry} {p : M.Entry → Bool} {k : Nat} (hk : k < L.length) (h : ∀ x ∈ L.take k, p x = false) (hp : p L[k] = true) : idxE L p = (k : Int) := by
  unfold idxE
  have : L.findIdx? p = some k := by
    rw [List.findIdx?_eq_some_iff_getElem]
    refine ⟨hk, hp, fun j hj => ?_⟩
    have hm : L[j] ∈ L.take k := by
      rw [List.mem_take_iff_getElem]
      exact ⟨j, by omega, rfl⟩
    simp [h _ hm]
  rw [this]
theorem idxE_any (L : List M.Entry) (p : M.Entry → Bool) : decide (0 ≤ idxE L p) = L.any p := by
  unfold idxE
  cases h : L.findIdx? p with
  | none =>
    rw [List.findIdx?_eq_none_iff] at h
    have : L.any p = false := by rw [List.any_eq_false]; intro x hx; simp [h x hx]
    rw [this]; rfl
  | some i =>
    have h' := List.findIdx?_eq_some_iff_getElem.1 h
    have : L.any p = true := List.any_eq_true.2 ⟨_, List.getElem_mem h'.1, h'.2.1⟩
    rw [this]
    simp
theorem all_snoc_false {α : Type} {p : α → Bool} {l : List α} {k : Nat} (hk : k < l.length) (h : ∀ x ∈ l.take k, p x = false) (hp : p l[k] = false) : ∀ x ∈ l.take (k + 1), p x = false := fun x hx => by
  rw [List.take_succ_eq_append_getElem hk, List.mem_append] at hx
  rcases hx with hx | hx
  · exact h x hx
  · simp at hx; subst hx; exact hp
set_option maxHeartbeats 1000000 in
theorem indexFuncE_isLog {w : World} {A : Option Addr} {c : Nat} {L : List M.Entry} {p : M.Entry → Bool}  (D : SeesE w A L)
    (ht : ∀ W, w.grownBy W none → ∀ x ∈ L, ∀ u, RdInts .i64 W 0 W.heap.size u x.item.pos → Calls Try.prog 102 #[.agg #[.int .i64 x.kind, .int .i64 x.item.key, u, .int .i64 x.item.tags]] W fun e w' => e = .returned (.bool (p x)) ∧ W.grownBy w' none) :
    Calls Try.prog 113 #[.slice A L.length c, .func (.func 102) #[] #[]] w fun e w' => e = .returned (.int .i64 (idxE L p)) ∧ w.grownBy w' none := by
  have hl := D.2.1
  obtain ⟨n, hn⟩ : ∃ n, n = L.length := ⟨_, rfl⟩
  rw [← hn] at hl ⊢
  have HL := Lib.hid hn
  have HT := Lib.hid ht
  have HD := Lib.hid D
  clear hn ht D
  go_enter Try.func113, Try.ntmps113
  go_wp2_with fail
  go_loopw [8] (fun i wr => ∃ k : Nat, k ≤ n ∧ i = .int .i64 k ∧ (∀ x ∈ L.take k, p x = false) ∧ w.grownBy wr none) (fun i _ => n - (intOf i).toNat)
  case atStart => exact ⟨0, Nat.zero_le _, rfl, by simp, gb_refl _ _⟩
  case round =>
    obtain ⟨k, hk, rfl, ha, hg⟩ := hrel
    have HA := Lib.hid ha
    have HG := Lib.hid hg
    clear ha hg
    by_cases hlt : k < n
    · have hkl : k < L.length := by rw [← HL.out]; exact hlt
      obtain ⟨b, o, rfl, hb1, hb2, hI⟩ := HD.out.1.at_ (List.getElem?_eq_getElem hkl)
      obtain ⟨u, c0, c1, c2, c3, hu⟩ := hI.agree hb1 hb2 (Agree.of_grown HG.out)
      have HC := Lib.hid (HT.out wr HG.out L[k] (List.getElem_mem hkl) u (hu.wide (Nat.le_refl _) HG.out.size))
      have HS := Lib.hid (fun h => all_snoc_false (p := p) hkl HA.out h)
      have HF := Lib.hid (fun h => idxE_some (p := p) hkl HA.out h)
      obtain ⟨Au, cu, rfl, hcu, hru⟩ := hu
      clear hI hcu hru
      generalize L[k] = y at *
      go_wp2_with fail
      refine HC.out.mono ?_
      rintro e w1 ⟨rfl, hg⟩
      have G1 := Lib.hid (gb_trans HG.out hg)
      clear hg
      cases hp : p y
      · have HP := Lib.hid (HS.out hp)
        clear hp
        go_wp2_with fail
        go_roundw
        case rel => exact ⟨k + 1, by omega, by go_num, HP.out, G1.out⟩
        case measure => simp [intOf]; omega
      · have HP := Lib.hid (HF.out hp)
        clear hp
        go_wp2_with fail
        go_ret
        exact ⟨ret_int HP.out.symm, G1.out⟩
    · obtain rfl : k = n := by omega
      have HN := Lib.hid (idxE_none (L := L) (p := p) (by have := HA.out; rwa [HL.out, List.take_of_length_le (Nat.le_refl _)] at this))
      go_wp2_with fail
      go_ret
      exact ⟨ret_int HN.out.symm, HG.out⟩
theorem isLog1_any (w : World) (u : Value) (x : M.Entry) (hl : x.item.pos.length ≤ 1048576) (hr : RdInts .i64 w 0 w.heap.size u x.item.pos) :
    Calls Try.prog 102 #[.agg #[.int .i64 x.kind, .int .i64 x.item.key, u, .int .i64 x.item.tags]] w fun e w' => e = .returned (.bool (!M.validEntry x)) ∧ w.grownBy w' none := by
  obtain ⟨A, c, rfl, hc, hrd⟩ := hr
  have HC : Hid (∀ W, w.grownBy W none → Calls Try.prog 103 #[.agg #[.int .i64 x.kind, .int .i64 x.item.key, .slice A x.item.pos.length c, .int .i64 x.item.tags]] W fun e w' => e = .returned (.bool (M.validEntry x)) ∧ W.grownBy w' none) := Lib.hid fun W hW =>
    isEntry_impl W _ 0 w.heap.size x hl ⟨A, c, rfl, hc, hrd.keep hW (Nat.le_refl _)⟩ hW.size
  clear hc hrd
  generalize x.item.pos.length = q at *
  generalize M.validEntry x = b at *
  go_enter Try.func102, Try.ntmps102
  go_wp2_with fail
  refine (HC.out _ (World.grownBy_alloc _ _ _)).mono ?_
  rintro e w1 ⟨rfl, hg⟩
  have G := Lib.hid hg
  clear hg
  go_wp2_with fail
  go_ret
  exact ⟨rfl, gb_trans (World.grownBy_alloc w _ none) G.out⟩
theorem containsFuncE_isLog {w : World} {A : Option Addr} {c : Nat} {L : List M.Entry} {p : M.Entry → Bool}  (D : SeesE w A L)
    (ht : ∀ W, w.grownBy W none → ∀ x ∈ L, ∀ u, RdInts .i64 W 0 W.heap.size u x.item.pos → Calls Try.prog 102 #[.agg #[.int .i64 x.kind, .int .i64 x.item.key, u, .int .i64 x.item.tags]] W fun e w' => e = .returned (.bool (p x)) ∧ W.grownBy w' none) :
    Calls Try.prog 101 #[.slice A L.length c, .func (.func 102) #[] #[]] w fun e w' => e = .returned (.bool (L.any p)) ∧ w.grownBy w' none := by
  have HI := Lib.hid (indexFuncE_isLog (c := c) (p := p) D ht)
  have HA := Lib.hid (idxE_any L p)
  clear ht D
  generalize L.length = n at *
  generalize idxE L p = i at *
  go_enter Try.func101, Try.ntmps101
  go_wp2_with fail
  refine HI.out.mono ?_
  rintro e w1 ⟨rfl, hg⟩
  have G := Lib.hid hg
  clear hg
  go_wp2_with fail
  go_ret
  exact ⟨ret_bool HA.out, G.out⟩
theorem isLog_impl {w : World} {A : Option Addr} {c : Nat} {L : List M.Entry} (D : SeesE w A L) :
    Calls Try.prog 84 #[.slice A L.length c] w fun e w' => e = .returned (.bool (M.validLog L)) ∧ w.grownBy w' none := by
  have HC := Lib.hid (containsFuncE_isLog (c := c) (p := fun x => !M.validEntry x) D (fun W hW x hx u hu => isLog1_any W u x (D.2.2 x hx) hu))
  have hall : L.any (fun x => !M.validEntry x) = !L.all M.validEntry := by rw [List.not_all_eq_any_not]
  rw [hall] at HC
  have hl := D.2.1
  clear D hall
  by_cases h : L.length ≤ 32
  · have HV : Hid (M.validLog L = L.all M.validEntry) := Lib.hid (by unfold M.validLog; rw [decide_eq_true h, Bool.and_true])
    rw [HV.out]
    generalize L.all M.validEntry = b at *
    generalize L.length = n at *
    go_enter Try.func84, Try.ntmps84
    go_wp2_with fail
    refine HC.out.mono ?_
    rintro e w1 ⟨rfl, hg⟩
    have G := Lib.hid hg
    clear hg
    go_wp2_with fail
    go_ret
    exact ⟨by cases b <;> rfl, G.out⟩
  · have HV : Hid (M.validLog L = false) := Lib.hid (by unfold M.validLog; rw [decide_eq_false h, Bool.and_false])
    rw [HV.out]
    generalize L.length = n at *
    go_enter Try.func84, Try.ntmps84
    go_wp2_with fail
    go_ret
    exact ⟨rfl, gb_refl _ _⟩

theorem validEntry_spec (w : World) (u : Value) (x : M.Entry) (hl : x.item.pos.length ≤ 1048576) (hr : RdInts .i64 w 0 w.heap.size u x.item.pos) :
    Calls Try.prog 52 #[.agg #[.int .i64 x.kind, .int .i64 x.item.key, u, .int .i64 x.item.tags]] w fun e w' => e = .returned (.bool (M.validEntry x)) ∧ w.grownBy w' none := by
  obtain ⟨A, c, rfl, hc, hrd⟩ := hr
  obtain ⟨q, ⟨k, l, t⟩⟩ := x
  have HR := Lib.hid hrd
  have hl' : l.length ≤ 1048576 := hl
  clear hrd hl
  show Calls Try.prog 52 #[.agg #[.int .i64 q, .int .i64 k, .slice A l.length c, .int .i64 t]] w _
  by_cases hq1 : q = 1
  · subst hq1
    have HC := Lib.hid (validItem_spec (w.alloc (.cells #[.int .i64 1, .int .i64 k, .slice A l.length c, .int .i64 t] 30)) (.slice A l.length c) 0 w.heap.size ⟨k, l, t⟩ (by show l.length ≤ _; omega) ⟨A, c, rfl, hc, HR.out.agree (fun b _ hb => Below.heap_alloc _ _ _ (by omega))⟩ (by simp))
    have HV : Hid (M.validEntry ⟨1, ⟨k, l, t⟩⟩ = M.validItem ⟨k, l, t⟩) := Lib.hid (by simp [M.validEntry])
    rw [HV.out]
    go_enter Try.func52, Try.ntmps52
    go_wp2_with fail
    refine HC.out.mono ?_
    rintro e w1 ⟨rfl, hg⟩
    have G := Lib.hid hg
    clear hg
    go_wp2_with fail
    go_ret
    exact ⟨rfl, gb_trans (gb_alloc (gb_refl w none) _) G.out⟩
  · have tq1 : (q == 1) = false := beq_eq_false_iff_ne.2 hq1
    by_cases hq : q = 2
    · subst hq
      cases hk : M.inR k 1 99
      · have HK := Lib.hid hk
        clear hk
        go_enter Try.func52, Try.ntmps52
        go_wp2_with (go_at_call 61; refine (inRange_any _ _ _ _).mono ?_; rintro e w' ⟨rfl, rfl⟩; rw [HK.out])
        go_ret
        exact ⟨ret_bool (by simp [M.validEntry, HK.out]), gb_alloc (gb_refl _ _) _⟩
      · have HK := Lib.hid hk
        clear hk
        go_enter Try.func52, Try.ntmps52
        go_wp2_with (go_at_call 61; refine (inRange_any _ _ _ _).mono ?_; rintro e w' ⟨rfl, rfl⟩; rw [HK.out])
        all_goals
          go_ret
          refine ⟨ret_bool ?_, gb_alloc (gb_refl _ _) _⟩
          have HK := HK.out
          simp_all [M.validEntry]
        all_goals first | (rw [Bool.eq_iff_iff]; simp; done) | omega
    · have tq : (q == 2) = false := beq_eq_false_iff_ne.2 hq
      have HV : Hid (M.validEntry ⟨q, ⟨k, l, t⟩⟩ = false) := Lib.hid (by simp [M.validEntry, hq, hq1])
      rw [HV.out]
      go_enter Try.func52, Try.ntmps52
      go_wp2_with fail
      go_ret
      exact ⟨rfl, gb_alloc (gb_refl _ _) _⟩
theorem validLog_spec {w : World} {A : Option Addr} {c : Nat} {L : List M.Entry} (D : SeesE w A L) :
    Calls Try.prog 86 #[.slice A L.length c] w fun e w' => e = .returned (.bool (M.validLog L)) ∧ w.grownBy w' none := by
  have hl := D.2.1
  obtain ⟨n, hn⟩ : ∃ n, n = L.length := ⟨_, rfl⟩
  rw [← hn] at hl ⊢
  have HL := Lib.hid hn
  have HD := Lib.hid D
  clear hn D
  go_enter Try.func86, Try.ntmps86
  go_wp2_with fail
  go_loopw [3] (fun i wr => ∃ k : Nat, k ≤ n ∧ i = .int .i64 k ∧ (L.take k).all M.validEntry = true ∧ w.grownBy wr none) (fun i _ => n - (intOf i).toNat)
  case atStart => exact ⟨0, Nat.zero_le _, rfl, by simp, gb_refl _ _⟩
  case round =>
    obtain ⟨k, hk, rfl, ha, hg⟩ := hrel
    have HA := Lib.hid ha
    have HG := Lib.hid hg
    clear ha hg
    by_cases hlt : k < n
    · have hkl : k < L.length := by rw [← HL.out]; exact hlt
      obtain ⟨b, o, rfl, hb1, hb2, hI⟩ := HD.out.1.at_ (List.getElem?_eq_getElem hkl)
      obtain ⟨u, c0, c1, c2, c3, hu⟩ := hI.agree hb1 hb2 (Agree.of_grown HG.out)
      have HC := Lib.hid (validEntry_spec wr u L[k] (HD.out.2.2 _ (List.getElem_mem hkl)) (hu.wide (Nat.le_refl _) HG.out.size))
      have HS := Lib.hid (all_take (p := M.validEntry) hkl)
      have HF := Lib.hid (fun h => all_stop (p := M.validEntry) hkl h)
      obtain ⟨Au, cu, rfl, hcu, hru⟩ := hu
      clear hI hcu hru
      generalize L[k] = y at *
      go_wp2_with fail
      refine HC.out.mono ?_
      rintro e w1 ⟨rfl, hg⟩
      have G1 := Lib.hid (gb_trans HG.out hg)
      clear hg
      cases hp : M.validEntry y
      · have HP : Hid (M.validLog L = false) := Lib.hid (by unfold M.validLog; rw [HF.out hp]; rfl)
        clear hp
        go_wp2_with fail
        go_ret
        exact ⟨ret_bool HP.out.symm, G1.out⟩
      · have HP := Lib.hid (show (L.take (k + 1)).all M.validEntry = true by rw [HS.out, HA.out, hp]; rfl)
        clear hp
        go_wp2_with fail
        go_roundw
        case rel => exact ⟨k + 1, by omega, by go_num, HP.out, G1.out⟩
        case measure => simp [intOf]; omega
    · obtain rfl : k = n := by omega
      have HP : Hid (M.validLog L = decide (k ≤ 32)) := Lib.hid (by unfold M.validLog; rw [← HL.out]; have := HA.out; rw [HL.out, List.take_of_length_le (Nat.le_refl _)] at this; rw [this, Bool.true_and])
      have HI : Hid (decide ((k : Int) ≤ 32) = decide (k ≤ 32)) := Lib.hid (by rw [decide_eq_decide]; omega)
      go_wp2_with fail
      all_goals
        go_ret
        refine ⟨ret_bool ?_, HG.out⟩
        rw [HP.out]
        first | rfl | exact HI.out | (simp; done) | (simp; omega)
end Go.Proofs.Ythoakomccjjhbaa
