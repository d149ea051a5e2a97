/- The walks of the copies, comparisons and marks of integers. -/
import Derived.Test.YtejbfmnioomkbaaRows
import Derived.Test.YtejbfmnioomkbaaBase
import Derived.Test.YtejbfmnioomkbaaPure
import Derived.Deep.QuietTactic
import Derived.BigQuiet
namespace Go.Proofs.Ytejbfmnioomkbaa
open Go.RowKit
set_option linter.unusedVariables false
/-- two slices of numbers are compared -/
theorem equalInts_any (w : World) (A B : Option Addr) (c d : Nat) (l m : List Int) (lo hi lo' hi' : Nat) (hl : l.length ≤ 1073741824) (hr : Rd w lo hi A (l.map (.int .i64))) (hs : Rd w lo' hi' B (m.map (.int .i64))) :
    Calls Try.prog 7 #[.slice A l.length c, .slice B m.length d] w fun e w' => e = .returned (.bool (decide (l = m))) ∧ ∃ n, w' = w.drewN n := by
  by_cases hlm : l.length = m.length
  · obtain ⟨L, hL⟩ : ∃ L, L = l.length := ⟨_, rfl⟩
    rw [← hlm, ← hL] 
    rw [← hL] at hl
    have HM := Lib.hid (hL.trans hlm)
    have HL := Lib.hid hL
    have HR := Lib.hid hr
    have HS := Lib.hid hs
    clear hL hr hs hlm
    have t0 : ((L : Int) != L) = false := by simp
    go_enter Try.func7, Try.ntmps7
    go_wp2
    go_loopw [5] (fun i wr => ∃ k : Nat, k ≤ L ∧ i = .int .i64 k ∧ l.take k = m.take k ∧ ∃ n, wr = w.drewN n) (fun i _ => L - (intOf i).toNat)
    case atStart => exact ⟨0, Nat.zero_le _, rfl, rfl, 0, rfl⟩
    case round =>
      obtain ⟨k, hk, rfl, he, q, rfl⟩ := hrel
      have HE := Lib.hid he
      clear he
      by_cases hlt : k < L
      · have hkl : k < l.length := by rw [← HL.out]; exact hlt
        have hkm : k < m.length := by rw [← HM.out]; exact hlt
        obtain ⟨b, o, rfl, _, _, hc⟩ := HR.out.at_ (j := k) (u := .int .i64 l[k]) (by simp [hkl])
        obtain ⟨b', o', rfl, _, _, hc'⟩ := HS.out.at_ (j := k) (u := .int .i64 m[k]) (by simp [hkm])
        have hi1 : (k : Int) < L := by omega
        have hi0 : (0 : Int) ≤ k := by omega
        by_cases hx : l[k] = m[k]
        · have hN : l.take (k + 1) = m.take (k + 1) := by
            rw [List.take_succ_eq_append_getElem hkl, List.take_succ_eq_append_getElem hkm, HE.out, hx]
          have HN := Lib.hid hN
          rw [hx] at hc
          generalize m[k] = x at *
          clear hN hx
          have t1 : (x != x) = false := by simp
          go_wp2
          go_quiet (fail)
          go_wp2
          go_roundw
          case rel => exact ⟨k + 1, by omega, by go_num, HN.out, _, rfl⟩
          case measure => simp [intOf]; omega
        · have hN : decide (l = m) = false := decide_eq_false (fun e => hx (by subst e; rfl))
          have HD := Lib.hid hN
          have t1 : (l[k] != m[k]) = true := by simpa using hx
          generalize m[k] = x at *
          generalize l[k] = y at *
          clear hN hx
          go_wp2
          go_quiet (fail)
          go_wp2
          go_ret
          exact ⟨ret_bool HD.out.symm, by first | exact ⟨_, rfl⟩ | exact ⟨_, World.drewN_drewN _ _ _⟩⟩
      · obtain rfl : k = L := by omega
        have hN : decide (l = m) = true := decide_eq_true (by
          have := HE.out
          rwa [List.take_of_length_le (by rw [HL.out]; exact Nat.le_refl _), List.take_of_length_le (by rw [HM.out]; exact Nat.le_refl _)] at this)
        have HD := Lib.hid hN
        clear hN
        go_wp2
        go_ret
        exact ⟨ret_bool HD.out.symm, by first | exact ⟨_, rfl⟩ | exact ⟨_, World.drewN_drewN _ _ _⟩⟩
  · have hN : decide (l = m) = false := decide_eq_false (fun e => hlm (by rw [e]))
    rw [hN]
    have t0 : ((l.length : Int) != m.length) = true := by rw [bne_iff_ne]; omega
    generalize l.length = L at *
    generalize m.length = L' at *
    clear hN hr hs hlm
    go_enter Try.func7, Try.ntmps7
    go_wp2
    go_ret
    exact ⟨rfl, 0, rfl⟩
end Go.Proofs.Ytejbfmnioomkbaa
