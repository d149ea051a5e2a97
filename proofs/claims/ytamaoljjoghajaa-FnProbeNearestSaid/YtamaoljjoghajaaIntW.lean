/- The walks of the copies, comparisons and marks of integers. -/
import Derived.Test.YtamaoljjoghajaaRows
import Derived.Test.YtamaoljjoghajaaBase
import Derived.Test.YtamaoljjoghajaaPure
import Derived.Deep.QuietTactic
import Derived.BigQuiet
namespace Go.Proofs.Ytamaoljjoghajaa
open Go.RowKit
set_option linter.unusedVariables false
/-- a copy of a slice of numbers, in new memory -/
theorem toIntS_any (w : World) (A : Option Addr) (c : Nat) (l : List Int) (hl : l.length ≤ 1048576) (hr : Rd w 0 w.heap.size A (l.map (.int .i64))) :
    Calls Try.prog 10 #[.slice A l.length c] w fun e w' => ∃ v, e = .returned v ∧ OwnInts .i64 3 w' w.heap.size v l ∧ w.grownBy w' none := by
  obtain ⟨L, hL⟩ : ∃ L, L = l.length := ⟨_, rfl⟩
  rw [← hL] at hl ⊢
  have HL := Lib.hid hL
  have HR := Lib.hid hr
  clear hL hr
  have hmk := run_make_row' (P := Try.prog) 23 3 (.int .i64 0) 8 Try.underlying23 (by kernel_rfl) rfl .i64 .i64 L (by omega) (by omega)
  go_enter Try.func10, Try.ntmps10
  go_wp2
  clear hmk
  go_loopw [4] (fun i wr => ∃ k : Nat, k ≤ L ∧ i = .int .i64 k ∧ Row wr w.heap.size 3 ((l.take k).map (.int .i64) ++ List.replicate (l.length - k) (.int .i64 0)) ∧ w.grownBy wr none) (fun i _ => L - (intOf i).toNat)
  case atStart =>
    refine ⟨0, Nat.zero_le _, rfl, Row.new w _ ?_, gb_alloc (gb_refl _ _) _⟩
    rw [toList_madeCells_one, HL.out]
    simp
  case round =>
    obtain ⟨k, hk, rfl, hrow, hg⟩ := hrel
    have HW := Lib.hid hrow
    have HG := Lib.hid hg
    clear hrow hg
    by_cases hlt : k < L
    · have hkl : k < l.length := by rw [← HL.out]; exact hlt
      obtain ⟨b, o, rfl, _, hb, hc⟩ := HR.out.at_ (j := k) (u := .int .i64 l[k]) (by simp [hkl])
      have hcw : wr.cell? ⟨b, o + k, none⟩ = some (.int .i64 l[k]) := ((Agree.of_grown HG.out).cell (p := ⟨b, o + k, none⟩) (Nat.zero_le _) hb).trans hc
      have hco : wr.cell? ⟨w.heap.size, k, none⟩ = some (.int .i64 0) := by
        rw [HW.out.cell k, List.getElem?_append_right (by simp; omega)]
        rw [show k - ((l.take k).map (Value.int IntKind.i64)).length = 0 from by simp; omega]
        rw [List.getElem?_replicate, if_pos (by omega)]
      have hfo : wr.frozen? ⟨w.heap.size, k, none⟩ = false := HW.out.frozen k
      have HN := Lib.hid (HW.out.set_ k (.int .i64 l[k]))
      rw [fill_step (Value.int IntKind.i64) (.int .i64 0) l k hkl] at HN
      generalize l[k] = x at *
      clear hc
      go_wp2
      go_roundw
      case rel => exact ⟨k + 1, by omega, by go_num, HN.out, gb_setCell HG.out (.inl (Nat.le_refl _)) _⟩
      case measure => simp [intOf]; omega
    · obtain rfl : k = L := by omega
      go_wp2
      go_ret
      have H := HW.out
      rw [HL.out, List.take_of_length_le (Nat.le_refl _), Nat.sub_self, List.replicate_zero, List.append_nil] at H
      refine ⟨_, rfl, ?_, HG.out⟩
      have := H.owns (base := w.heap.size) (n := l.length) (cap := l.length) (size := 1) (Nat.le_refl _) (Nat.le_refl _) (by rw [← HL.out]; unfold maxLen; omega) (by simp)
      rw [List.take_of_length_le (by simp)] at this
      rw [HL.out]
      exact this
/-- two slices of numbers are compared -/
theorem eqIntS_any (w : World) (A B : Option Addr) (c d : Nat) (l m : List Int) (lo hi lo' hi' : Nat) (hl : l.length ≤ 1073741824) (hr : Rd w lo hi A (l.map (.int .i64))) (hs : Rd w lo' hi' B (m.map (.int .i64))) :
    Calls Try.prog 14 #[.slice A l.length c, .slice B m.length d] w fun e w' => e = .returned (.bool (decide (l = m))) ∧ ∃ n, w' = w.drewN n := by
  by_cases hlm : l.length = m.length
  · obtain ⟨L, hL⟩ : ∃ L, L = l.length := ⟨_, rfl⟩
    rw [← hlm, ← hL] 
    rw [← hL] at hl
    have HM := Lib.hid (hL.trans hlm)
    have HL := Lib.hid hL
    have HR := Lib.hid hr
    have HS := Lib.hid hs
    clear hL hr hs hlm
    have t0 : ((L : Int) != L) = false := by simp
    go_enter Try.func14, Try.ntmps14
    go_wp2
    go_loopw [5] (fun i wr => ∃ k : Nat, k ≤ L ∧ i = .int .i64 k ∧ l.take k = m.take k ∧ ∃ n, wr = w.drewN n) (fun i _ => L - (intOf i).toNat)
    case atStart => exact ⟨0, Nat.zero_le _, rfl, rfl, 0, rfl⟩
    case round =>
      obtain ⟨k, hk, rfl, he, q, rfl⟩ := hrel
      have HE := Lib.hid he
      clear he
      by_cases hlt : k < L
      · have hkl : k < l.length := by rw [← HL.out]; exact hlt
        have hkm : k < m.length := by rw [← HM.out]; exact hlt
        obtain ⟨b, o, rfl, _, _, hc⟩ := HR.out.at_ (j := k) (u := .int .i64 l[k]) (by simp [hkl])
        obtain ⟨b', o', rfl, _, _, hc'⟩ := HS.out.at_ (j := k) (u := .int .i64 m[k]) (by simp [hkm])
        have hi1 : (k : Int) < L := by omega
        have hi0 : (0 : Int) ≤ k := by omega
        by_cases hx : l[k] = m[k]
        · have hN : l.take (k + 1) = m.take (k + 1) := by
            rw [List.take_succ_eq_append_getElem hkl, List.take_succ_eq_append_getElem hkm, HE.out, hx]
          have HN := Lib.hid hN
          rw [hx] at hc
          generalize m[k] = x at *
          clear hN hx
          have t1 : (x != x) = false := by simp
          go_wp2
          go_quiet (fail)
          go_wp2
          go_roundw
          case rel => exact ⟨k + 1, by omega, by go_num, HN.out, _, rfl⟩
          case measure => simp [intOf]; omega
        · have hN : decide (l = m) = false := decide_eq_false (fun e => hx (by subst e; rfl))
          have HD := Lib.hid hN
          have t1 : (l[k] != m[k]) = true := by simpa using hx
          generalize m[k] = x at *
          generalize l[k] = y at *
          clear hN hx
          go_wp2
          go_quiet (fail)
          go_wp2
          go_ret
          exact ⟨ret_bool HD.out.symm, by first | exact ⟨_, rfl⟩ | exact ⟨_, World.drewN_drewN _ _ _⟩⟩
      · obtain rfl : k = L := by omega
        have hN : decide (l = m) = true := decide_eq_true (by
          have := HE.out
          rwa [List.take_of_length_le (by rw [HL.out]; exact Nat.le_refl _), List.take_of_length_le (by rw [HM.out]; exact Nat.le_refl _)] at this)
        have HD := Lib.hid hN
        clear hN
        go_wp2
        go_ret
        exact ⟨ret_bool HD.out.symm, by first | exact ⟨_, rfl⟩ | exact ⟨_, World.drewN_drewN _ _ _⟩⟩
  · have hN : decide (l = m) = false := decide_eq_false (fun e => hlm (by rw [e]))
    rw [hN]
    have t0 : ((l.length : Int) != m.length) = true := by rw [bne_iff_ne]; omega
    generalize l.length = L at *
    generalize m.length = L' at *
    clear hN hr hs hlm
    go_enter Try.func14, Try.ntmps14
    go_wp2
    go_ret
    exact ⟨rfl, 0, rfl⟩
theorem szIntS_any (w : World) (A : Option Addr) (n c : Nat) (left r : Int) (hn : n ≤ maxLen) (h0 : 0 ≤ left) (h1 : left ≤ 1048576) (hr : (left < n ∧ r = -1) ∨ (n ≤ left ∧ r = left - n)) :
    Calls Try.prog 70 #[.slice A n c, .int .i64 left] w fun e w' => e = .returned (.int .i64 r) ∧ w = w' := by
  unfold maxLen at hn
  rcases hr with ⟨h, rfl⟩ | ⟨h, rfl⟩
  · go_enter Try.func70, Try.ntmps70
    go_wp2
    go_ret
    exact ⟨rfl, rfl⟩
  · go_enter Try.func70, Try.ntmps70
    go_wp2
    go_ret
    exact ⟨rfl, rfl⟩
end Go.Proofs.Ytamaoljjoghajaa
