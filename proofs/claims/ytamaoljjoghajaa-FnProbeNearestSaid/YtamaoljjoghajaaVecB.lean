/- Words for memory: slices of vectors; and the walks on centres. -/
import Derived.Test.YtamaoljjoghajaaShNI
import Derived.Test.YtamaoljjoghajaaShNS
import Derived.Deep.RegionWith
namespace Go.Proofs.Ytamaoljjoghajaa
open Go.RowKit
set_option linter.unusedVariables false
set_option linter.unusedSimpArgs false
set_option maxRecDepth 100000
namespace M
/-- centres are valid -/
def areVecs (C : List (List Int)) : Bool := C.all isVec && inR C.length 1 4
theorem areVecs_of {C : List (List Int)} (h : areVecs C = true) : (∀ c ∈ C, isVec c = true) ∧ 1 ≤ C.length ∧ C.length ≤ 4 := by
  unfold areVecs at h
  rw [Bool.and_eq_true, List.all_eq_true] at h
  have := inR_true h.2
  exact ⟨h.1, by omega, by omega⟩
/-- how far a centre is -/
def cdist (C : List (List Int)) (m : List Int) (i : Nat) : Int := dist 3 (C.getD i []) m
/-- the nearest of the first centres -/
def bestTo (C : List (List Int)) (m : List Int) : Nat → Nat
  | 0 => 0
  | k + 1 => if cdist C m k < cdist C m (bestTo C m k) then k else bestTo C m k
def centre (C : List (List Int)) (m : List Int) : Nat := bestTo C m C.length
theorem bestTo_one (C : List (List Int)) (m : List Int) : bestTo C m 1 = 0 := by
  unfold bestTo
  split <;> rfl
theorem bestTo_lt (C : List (List Int)) (m : List Int) : ∀ k, bestTo C m k < k ∨ bestTo C m k = 0
  | 0 => .inr rfl
  | k + 1 => by
    unfold bestTo
    split
    · exact .inl (Nat.lt_succ_self k)
    · rcases bestTo_lt C m k with h | h
      · exact .inl (by omega)
      · exact .inr h
end M
/-- a slice's address leads to vectors -/
def RdV (w : World) (lo hi : Nat) (A : Option Addr) (C : List (List Int)) : Prop :=
  C ≠ [] → ∃ b o, A = some ⟨b, o, none⟩ ∧ lo ≤ b ∧ b < hi ∧ ∀ i c, C[i]? = some c → ∃ u, w.cell? ⟨b, o + i, none⟩ = some u ∧ RdInts .i64 w lo hi u c
theorem RdV.agree {w w' : World} {lo hi : Nat} {A : Option Addr} {C : List (List Int)} (h : RdV w lo hi A C) (ha : Agree lo hi w w') : RdV w' lo hi A C := fun hn => by
  obtain ⟨b, o, e, h1, h2, hc⟩ := h hn
  refine ⟨b, o, e, h1, h2, fun i c hi => ?_⟩
  obtain ⟨u, hu, hr⟩ := hc i c hi
  exact ⟨u, (ha.cell (p := ⟨b, o + i, none⟩) h1 h2).trans hu, hr.agree ha⟩
theorem RdV.wide {w : World} {lo hi lo' hi' : Nat} {A : Option Addr} {C : List (List Int)} (h : RdV w lo hi A C) (h1 : lo' ≤ lo) (h2 : hi ≤ hi') : RdV w lo' hi' A C := fun hn => by
  obtain ⟨b, o, e, h3, h4, hc⟩ := h hn
  refine ⟨b, o, e, by omega, by omega, fun i c hi => ?_⟩
  obtain ⟨u, hu, hr⟩ := hc i c hi
  exact ⟨u, hu, hr.wide h1 h2⟩
theorem RdV.at_ {w : World} {lo hi : Nat} {A : Option Addr} {C : List (List Int)} (h : RdV w lo hi A C) {i : Nat} {c : List Int} (hi' : C[i]? = some c) : ∃ b o, A = some ⟨b, o, none⟩ ∧ lo ≤ b ∧ b < hi ∧ ∃ u, w.cell? ⟨b, o + i, none⟩ = some u ∧ RdInts .i64 w lo hi u c := by
  obtain ⟨b, o, e, h3, h4, hc⟩ := h (by intro hx; subst hx; simp at hi')
  exact ⟨b, o, e, h3, h4, hc i c hi'⟩
def SeesV (w : World) (A : Option Addr) (C : List (List Int)) : Prop := RdV w 0 w.heap.size A C ∧ C.length ≤ 1000 ∧ ∀ c ∈ C, c.length ≤ 1048576
theorem SeesV.on {w w' : World} {A : Option Addr} {C : List (List Int)} (h : SeesV w A C) (hg : w.grownBy w' none) : SeesV w' A C :=
  ⟨(h.1.agree fun b _ h2 => (Agree.of_grown hg) b (Nat.zero_le _) h2).wide (Nat.le_refl _) hg.size, h.2⟩

set_option maxHeartbeats 1000000 in
theorem validCentres_any {w : World} {A : Option Addr} {c : Nat} {C : List (List Int)} (D : SeesV w A C) :
    Calls Try.prog 60 #[.slice A C.length c] w fun e w' => e = .returned (.bool (M.areVecs C)) ∧ w.grownBy w' none := by
  have hl := D.2.1
  obtain ⟨n, hn⟩ : ∃ n, n = C.length := ⟨_, rfl⟩
  have HX : Hid (M.areVecs C = (C.all M.isVec && M.inR n 1 4)) := Lib.hid (by rw [hn]; rfl)
  rw [← hn] at hl ⊢
  have HL := Lib.hid hn
  have HD := Lib.hid D
  have HIR := Lib.hid (fun W => inRange_any n 1 4 W)
  generalize M.inR n 1 4 = ir at *
  generalize M.areVecs C = r at *
  clear hn D
  go_enter Try.func60, Try.ntmps60
  go_wp2_with fail
  go_loopw [3] (fun i wr => ∃ j : Nat, j ≤ n ∧ i = .int .i64 j ∧ (C.take j).all M.isVec = true ∧ w.grownBy wr none) (fun i _ => n - (intOf i).toNat)
  case atStart => exact ⟨0, Nat.zero_le _, rfl, rfl, gb_refl _ _⟩
  case round =>
    obtain ⟨j, hj, rfl, ha, hg⟩ := hrel
    have HG := Lib.hid hg
    have HA := Lib.hid ha
    clear hg ha
    by_cases hlt : j < n
    · have hjl : j < C.length := by rw [← HL.out]; exact hlt
      obtain ⟨b, o, rfl, _, _, u, c0, hu⟩ := (HD.out.on HG.out).1.at_ (List.getElem?_eq_getElem hjl)
      obtain ⟨Au, cu, rfl, hcu, hru⟩ := hu
      have HI := Lib.hid (isVector_spec wr Au cu 0 wr.heap.size C[j] (by have := HD.out.2.2 _ (List.getElem_mem hjl); omega) hru)
      have HN := Lib.hid (all_take (p := M.isVec) hjl)
      have HS := Lib.hid (all_stop (p := M.isVec) hjl)
      clear hcu hru
      have kn : (j : Int) < n := by omega
      have k0 : (0 : Int) ≤ j := by omega
      generalize C[j] = y at *
      cases hy : M.isVec y
      · rw [hy] at HI
        have HR : Hid (r = false) := Lib.hid (by rw [HX.out, HS.out hy]; rfl)
        clear hy
        go_wp2_with (go_at_call 73; refine HI.out.mono ?_; rintro e w' ⟨rfl, rfl⟩)
        go_ret
        exact ⟨ret_bool HR.out.symm, HG.out⟩
      · rw [hy] at HI
        have HAN : Hid ((C.take (j + 1)).all M.isVec = true) := Lib.hid (by rw [HN.out, HA.out, hy]; rfl)
        clear hy
        go_wp2_with (go_at_call 73; refine HI.out.mono ?_; rintro e w' ⟨rfl, rfl⟩)
        go_roundw
        case rel => exact ⟨j + 1, by omega, by go_num, HAN.out, HG.out⟩
        case measure => simp [intOf]; omega
    · obtain rfl : j = n := by omega
      have HR : Hid (r = ir) := Lib.hid (by
        have := HA.out
        rw [List.take_of_length_le (by rw [← HL.out]; exact Nat.le_refl _)] at this
        rw [HX.out, this, Bool.true_and])
      go_wp2_with (go_at_call 35; refine (HIR.out _).mono ?_; rintro e w' ⟨rfl, rfl⟩)
      go_ret
      exact ⟨ret_bool HR.out.symm, HG.out⟩
theorem areVectors1_any (w : World) (A : Option Addr) (c : Nat) (l : List Int) (hl : l.length ≤ 1048576) (hr : Rd w 0 w.heap.size A (l.map (.int .i64))) :
    Calls Try.prog 96 #[.slice A l.length c] w fun e w' => e = .returned (.bool (!M.isVec l)) ∧ w = w' := by
  have HI := Lib.hid (isVector_impl w A c 0 w.heap.size l (by omega) hr)
  generalize l.length = n at *
  cases hv : M.isVec l
  all_goals
    rw [hv] at HI
    clear hv
    go_enter Try.func96, Try.ntmps96
    go_wp2_with (go_at_call 64; refine HI.out.mono ?_; rintro e w' ⟨rfl, rfl⟩)
    go_ret
    exact ⟨rfl, rfl⟩
set_option maxHeartbeats 1000000 in
theorem indexFuncV_any {w : World} {A : Option Addr} {c : Nat} {C : List (List Int)} (D : SeesV w A C) :
    Calls Try.prog 116 #[.slice A C.length c, .func (.func 96) #[] #[]] w fun e w' => ∃ r : Int, e = .returned (.int .i64 r) ∧ decide (r ≥ 0) = !C.all M.isVec ∧ w.grownBy w' none := by
  have hl := D.2.1
  obtain ⟨n, hn⟩ : ∃ n, n = C.length := ⟨_, rfl⟩
  rw [← hn] at hl ⊢
  have HL := Lib.hid hn
  have HD := Lib.hid D
  clear hn D
  go_enter Try.func116, Try.ntmps116
  go_wp2_with fail
  go_loopw [8] (fun i wr => ∃ j : Nat, j ≤ n ∧ i = .int .i64 j ∧ (C.take j).all M.isVec = true ∧ w.grownBy wr none) (fun i _ => n - (intOf i).toNat)
  case atStart => exact ⟨0, Nat.zero_le _, rfl, rfl, gb_refl _ _⟩
  case round =>
    obtain ⟨j, hj, rfl, ha, hg⟩ := hrel
    have HG := Lib.hid hg
    have HA := Lib.hid ha
    clear hg ha
    by_cases hlt : j < n
    · have hjl : j < C.length := by rw [← HL.out]; exact hlt
      obtain ⟨b, o, rfl, _, _, u, c0, hu⟩ := (HD.out.on HG.out).1.at_ (List.getElem?_eq_getElem hjl)
      obtain ⟨Au, cu, rfl, hcu, hru⟩ := hu
      have HI := Lib.hid (areVectors1_any wr Au cu C[j] (HD.out.2.2 _ (List.getElem_mem hjl)) hru)
      have HN := Lib.hid (all_take (p := M.isVec) hjl)
      have HS := Lib.hid (all_stop (p := M.isVec) hjl)
      clear hcu hru
      generalize C[j] = y at *
      cases hy : M.isVec y
      · rw [hy] at HI
        have HR : Hid (decide ((j : Int) ≥ 0) = !C.all M.isVec) := Lib.hid (by rw [HS.out hy]; simp)
        clear hy
        go_wp2_with fail
        refine HI.out.mono ?_
        rintro e w' ⟨rfl, rfl⟩
        go_wp2_with fail
        go_ret
        exact ⟨_, rfl, HR.out, HG.out⟩
      · rw [hy] at HI
        have HAN : Hid ((C.take (j + 1)).all M.isVec = true) := Lib.hid (by rw [HN.out, HA.out, hy]; rfl)
        clear hy
        go_wp2_with fail
        refine HI.out.mono ?_
        rintro e w' ⟨rfl, rfl⟩
        go_wp2_with fail
        go_roundw
        case rel => exact ⟨j + 1, by omega, by go_num, HAN.out, HG.out⟩
        case measure => simp [intOf]; omega
    · obtain rfl : j = n := by omega
      have HR : Hid (decide ((-1 : Int) ≥ 0) = !C.all M.isVec) := Lib.hid (by
        have := HA.out
        rw [List.take_of_length_le (by rw [← HL.out]; exact Nat.le_refl _)] at this
        rw [this]; rfl)
      go_wp2_with fail
      go_ret
      exact ⟨_, rfl, HR.out, HG.out⟩
theorem containsFuncV_any {w : World} {A : Option Addr} {c : Nat} {C : List (List Int)} (D : SeesV w A C) :
    Calls Try.prog 95 #[.slice A C.length c, .func (.func 96) #[] #[]] w fun e w' => e = .returned (.bool (!C.all M.isVec)) ∧ w.grownBy w' none := by
  have HI := Lib.hid (indexFuncV_any (c := c) D)
  clear D
  generalize C.length = n at *
  go_enter Try.func95, Try.ntmps95
  go_wp2_with fail
  refine HI.out.mono ?_
  rintro e w1 ⟨r, rfl, hr, hg⟩
  have G := Lib.hid hg
  have HR := Lib.hid hr
  clear hg hr HI
  go_wp2_with fail
  go_ret
  exact ⟨ret_bool HR.out, G.out⟩
theorem areVectors_any {w : World} {A : Option Addr} {c : Nat} {C : List (List Int)} (D : SeesV w A C) :
    Calls Try.prog 58 #[.slice A C.length c, .int .i64 4] w fun e w' => e = .returned (.bool (M.areVecs C)) ∧ w.grownBy w' none := by
  have HI := Lib.hid (containsFuncV_any (c := c) D)
  obtain ⟨n, hn⟩ : ∃ n, n = C.length := ⟨_, rfl⟩
  have HX : Hid (M.areVecs C = (C.all M.isVec && M.inR n 1 4)) := Lib.hid (by rw [hn]; rfl)
  rw [← hn] at HI ⊢
  generalize M.areVecs C = r at *
  clear hn D
  by_cases h1 : 1 ≤ n
  · by_cases h2 : n ≤ 4
    · have h1' : (n : Int) ≥ 1 := by omega
      have h2' : (n : Int) ≤ 4 := by omega
      cases ha : C.all M.isVec
      · rw [ha] at HI
        have HR : Hid (r = false) := Lib.hid (by rw [HX.out, ha]; rfl)
        clear ha
        go_enter Try.func58, Try.ntmps58
        go_wp2_with fail
        refine HI.out.mono ?_
        rintro e w1 ⟨rfl, hg⟩
        have G := Lib.hid hg
        clear hg
        go_wp2_with fail
        go_ret
        exact ⟨ret_bool HR.out.symm, G.out⟩
      · rw [ha] at HI
        have HR : Hid (r = true) := Lib.hid (by rw [HX.out, ha, M.inR_of (by omega) (by omega)]; rfl)
        clear ha
        go_enter Try.func58, Try.ntmps58
        go_wp2_with fail
        refine HI.out.mono ?_
        rintro e w1 ⟨rfl, hg⟩
        have G := Lib.hid hg
        clear hg
        go_wp2_with fail
        go_ret
        exact ⟨ret_bool HR.out.symm, G.out⟩
    · have h1' : (n : Int) ≥ 1 := by omega
      have h2' : ¬ (n : Int) ≤ 4 := by omega
      have HR : Hid (r = false) := Lib.hid (by rw [HX.out, M.inR_not (n := n) (lo := 1) (hi := 4) (by omega), Bool.and_false])
      go_enter Try.func58, Try.ntmps58
      go_wp2_with fail
      go_ret
      exact ⟨ret_bool HR.out.symm, gb_refl _ _⟩
  · have h1' : ¬ (n : Int) ≥ 1 := by omega
    have HR : Hid (r = false) := Lib.hid (by rw [HX.out, M.inR_not (n := n) (lo := 1) (hi := 4) (by omega), Bool.and_false])
    go_enter Try.func58, Try.ntmps58
    go_wp2_with fail
    go_ret
    exact ⟨ret_bool HR.out.symm, gb_refl _ _⟩
end Go.Proofs.Ytamaoljjoghajaa
