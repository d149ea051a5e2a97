/- The walks of the checksums. -/
import Derived.Test.YtbfilliflfmaoaaReadW
import Derived.Test.YtbfilliflfmaoaaDrawKW
import Derived.Test.YtbfilliflfmaoaaRowB
namespace Go.Proofs.Ytbfilliflfmaoaa
open Go.RowKit
set_option linter.unusedVariables false

theorem chk_take {l : List Int} {k : Nat} (hk : k < l.length) : M.chk (l.take (k + 1)) = (31 * M.chk (l.take k) + l[k]) % 251 := by
  rw [List.take_succ_eq_append_getElem hk, M.chk, List.foldl_append]
  rfl
theorem chk_range (l : List Int) : 0 ≤ M.chk l ∧ M.chk l ≤ 250 := by
  unfold M.chk
  generalize hn : (1 : Int) = n
  have h0 : 0 ≤ n ∧ n ≤ 250 := by omega
  clear hn
  induction l generalizing n with
  | nil => exact h0
  | cons a l ih => exact ih _ (by show 0 ≤ (31 * n + a) % 251 ∧ (31 * n + a) % 251 ≤ 250; omega)

theorem checkOf_spec (w : World) (A : Option Addr) (c lo hi : Nat) (l : List Int) (hl : l.length ≤ 1073741824) (hb : ∀ x ∈ l, 0 ≤ x ∧ x ≤ 255) (hr : Rd w lo hi A (l.map (.int .u8))) :
    Calls Try.prog 32 #[.slice A l.length c] w fun e w' => e = .returned (.int .i64 (M.chk l)) ∧ w = w' := by
  obtain ⟨L, hL⟩ : ∃ L, L = l.length := ⟨_, rfl⟩
  rw [← hL] at hl ⊢
  have HL := Lib.hid hL
  have HR := Lib.hid hr
  have HB := Lib.hid hb
  clear hL hr hb
  go_enter Try.func32, Try.ntmps32
  go_wp2
  go_loop [3, 4] (fun n i => ∃ k : Nat, k ≤ L ∧ i = .int .i64 k ∧ n = .int .i64 (M.chk (l.take k))) (fun _ i => L - (intOf i).toNat)
  case atStart => exact ⟨0, Nat.zero_le _, rfl, rfl⟩
  case round =>
    obtain ⟨k, hk, rfl, rfl⟩ := hrel
    by_cases hlt : k < L
    · have hkl : k < l.length := by rw [← HL.out]; exact hlt
      obtain ⟨b, o, rfl, _, _, hc⟩ := HR.out.at_ (j := k) (u := .int .u8 l[k]) (by simp [hkl])
      have HN := Lib.hid (chk_take hkl)
      have hx := HB.out l[k] (List.getElem_mem hkl)
      have hn := chk_range (l.take k)
      generalize l[k] = x at *
      generalize M.chk (l.take k) = n at *
      go_wp2
      go_round
      case rel => exact ⟨k + 1, by omega, by go_num, by rw [HN.out]⟩
      case measure => simp [intOf]; omega
    · obtain rfl : k = L := by omega
      go_wp2
      go_ret
      exact ⟨ret_int (by rw [HL.out, List.take_of_length_le (Nat.le_refl _)]), rfl⟩
theorem checkOf_impl (w : World) (A : Option Addr) (c lo hi : Nat) (l : List Int) (hl : l.length ≤ 1073741824) (hb : ∀ x ∈ l, 0 ≤ x ∧ x ≤ 255) (hr : Rd w lo hi A (l.map (.int .u8))) :
    Calls Try.prog 41 #[.slice A l.length c] w fun e w' => e = .returned (.int .i64 (M.chk l)) ∧ w = w' := by
  obtain ⟨L, hL⟩ : ∃ L, L = l.length := ⟨_, rfl⟩
  rw [← hL] at hl ⊢
  have HL := Lib.hid hL
  have HR := Lib.hid hr
  have HB := Lib.hid hb
  clear hL hr hb
  go_enter Try.func41, Try.ntmps41
  go_wp2
  go_loop [3, 8] (fun n i => ∃ k : Nat, k ≤ L ∧ i = .int .i64 k ∧ n = .int .i64 (M.chk (l.take k))) (fun _ i => L - (intOf i).toNat)
  case atStart => exact ⟨0, Nat.zero_le _, rfl, rfl⟩
  case round =>
    obtain ⟨k, hk, rfl, rfl⟩ := hrel
    by_cases hlt : k < L
    · have hkl : k < l.length := by rw [← HL.out]; exact hlt
      obtain ⟨b, o, rfl, _, _, hc⟩ := HR.out.at_ (j := k) (u := .int .u8 l[k]) (by simp [hkl])
      have HN := Lib.hid (chk_take hkl)
      have hx := HB.out l[k] (List.getElem_mem hkl)
      have hn := chk_range (l.take k)
      generalize l[k] = x at *
      generalize M.chk (l.take k) = n at *
      go_wp2
      go_round
      case rel => exact ⟨k + 1, by omega, by go_num, by rw [HN.out]⟩
      case measure => simp [intOf]; omega
    · obtain rfl : k = L := by omega
      go_wp2
      go_ret
      exact ⟨ret_int (by rw [HL.out, List.take_of_length_le (Nat.le_refl _)]), rfl⟩

theorem CheckOf_impl (w : World) (A : Option Addr) (c lo hi : Nat) (l : List Int) (hl : l.length ≤ 1073741824) (hb : ∀ x ∈ l, 0 ≤ x ∧ x ≤ 255) (hr : Rd w lo hi A (l.map (.int .u8))) :
    Calls Try.prog 25 #[.slice A l.length c] w fun e w' => e = .returned (.int .i64 (M.checkOf l)) ∧ w = w' := by
  have HR := Lib.hid hr
  have HB := Lib.hid hb
  clear hr hb
  by_cases h2 : l.length ≤ 200
  · have HM : Hid (M.checkOf l = M.chk l) := Lib.hid (by unfold M.checkOf; rw [if_pos h2])
    go_enter Try.func25, Try.ntmps25
    go_wp2_with (go_at_call 41; refine (checkOf_impl _ A c lo hi l hl HB.out HR.out).mono ?_; rintro e w' ⟨rfl, rfl⟩)
    go_ret
    exact ⟨ret_int HM.out.symm, rfl⟩
  · have HM : Hid (M.checkOf l = -1) := Lib.hid (by unfold M.checkOf; rw [if_neg h2])
    generalize l.length = L at *
    go_enter Try.func25, Try.ntmps25
    go_wp2_with fail
    go_ret
    exact ⟨ret_int HM.out.symm, rfl⟩

theorem checkOf_range (l : List Int) : M.checkOf l ≤ 250 ∧ (0 ≤ M.checkOf l ↔ l.length ≤ 200) ∧ (l.length ≤ 200 → M.checkOf l = M.chk l) := by
  unfold M.checkOf
  have h := chk_range l
  by_cases h2 : l.length ≤ 200
  · rw [if_pos h2]
    exact ⟨h.2, ⟨fun _ => h2, fun _ => h.1⟩, fun _ => rfl⟩
  · rw [if_neg h2]
    exact ⟨by omega, ⟨fun h => by omega, fun h => absurd h h2⟩, fun h => absurd h h2⟩
theorem CheckOf_impl_n (w : World) (A : Option Addr) (n c lo hi : Nat) (l : List Int) (hn : n = l.length) (hl : l.length ≤ 1073741824) (hb : ∀ x ∈ l, 0 ≤ x ∧ x ≤ 255) (hr : Rd w lo hi A (l.map (.int .u8))) :
    Calls Try.prog 25 #[.slice A n c] w fun e w' => e = .returned (.int .i64 (M.checkOf l)) ∧ w = w' := by
  subst hn
  exact CheckOf_impl w A c lo hi l hl hb hr
end Go.Proofs.Ytbfilliflfmaoaa
