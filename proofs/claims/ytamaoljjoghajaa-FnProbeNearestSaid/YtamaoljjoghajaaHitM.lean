/- The marks of hits: what is marked holds its numbers. -/
import Derived.Test.YtamaoljjoghajaaHitB
namespace Go.Proofs.Ytamaoljjoghajaa
open Go.RowKit
set_option linter.unusedVariables false
set_option maxRecDepth 100000

def renX (k : Int) (n : Nat) : List M.Hit := (List.range n).map fun i : Nat => ⟨k + 2 * (i : Int), k + 2 * (i : Int) + 1⟩
theorem renX_length (k : Int) (n : Nat) : (renX k n).length = n := by simp [renX]
theorem renX_succ (k : Int) (n : Nat) : renX k (n + 1) = renX k n ++ [⟨k + 2 * n, k + 2 * n + 1⟩] := by simp [renX, List.range_succ]
theorem renX_at {k : Int} {n j : Nat} (h : j < n) : (renX k n)[j]? = some ⟨k + 2 * j, k + 2 * j + 1⟩ := by
  rw [renX, List.getElem?_map, List.getElem?_range h]; rfl
theorem cellsX_set0 (P R : List M.Hit) (h : M.Hit) (a : Int) : (cellsX (P ++ h :: R)).set (P.length * 2) (.int .i64 a) = cellsX (P ++ ⟨a, h.dist⟩ :: R) := by
  rw [cellsX_append, cellsX_append, List.set_append_right _ _ (by rw [cellsX_length]; exact Nat.le_refl _), cellsX_length, Nat.sub_self, cellsX_cons, cellsX_cons]
  rfl
theorem cellsX_set1 (P R : List M.Hit) (h : M.Hit) (a : Int) : (cellsX (P ++ h :: R)).set (P.length * 2 + 1) (.int .i64 a) = cellsX (P ++ ⟨h.key, a⟩ :: R) := by
  rw [cellsX_append, cellsX_append, List.set_append_right _ _ (by rw [cellsX_length]; omega), cellsX_length, show P.length * 2 + 1 - P.length * 2 = 1 from by omega, cellsX_cons, cellsX_cons]
  rfl
theorem markHitS_any (w : World) (A : Option Addr) (c lo : Nat) (l : List M.Hit) (k : Int) (hl : l.length ≤ 1048576) (ho : OwnX w lo (.slice A l.length c) l) (h0 : 0 ≤ k) (h1 : k ≤ 4398046511104) :
    Calls Try.prog 17 #[.slice A l.length c, .int .i64 k] w fun e w' => e = .returned (.int .i64 (k + 2 * l.length)) ∧ OwnX w' lo (.slice A l.length c) (renX k l.length) ∧ w.grownBy w' (Value.ownBlock (.slice A l.length c)) := by
  obtain ⟨n, hn⟩ : ∃ n, n = l.length := ⟨_, rfl⟩
  unfold OwnX at ho ⊢
  rw [renX_length]
  rw [← hn] at hl ho ⊢
  have HL := Lib.hid hn
  have HO := Lib.hid ho
  clear hn ho
  go_enter Try.func17, Try.ntmps17
  go_wp2_with fail
  go_loopw [1, 5] (fun q i wr => ∃ (j : Nat) (kj : Int), j ≤ n ∧ i = .int .i64 j ∧ kj = k + 2 * j ∧ q = .int .i64 kj ∧ wr.ownsRow lo 45 2 (.slice A n c) n (cellsX (renX k j ++ l.drop j)) ∧ w.grownBy wr (Value.ownBlock (.slice A n c))) (fun _ i _ => n - (intOf i).toNat)
  case atStart => exact ⟨0, k, Nat.zero_le _, rfl, by simp, rfl, by simpa [renX] using HO.out, gb_refl _ _⟩
  case round =>
    obtain ⟨j, kj, hj, rfl, hkj, rfl, hown, hg⟩ := hrel
    by_cases hlt : j < n
    · have hjl : j < l.length := by rw [← HL.out]; exact hlt
      obtain ⟨g, rfl, hlo, hgs, hnc⟩ := own_form' hown (by omega)
      have hsplit : renX k j ++ l.drop j = renX k j ++ l[j] :: l.drop (j + 1) := by rw [List.drop_eq_getElem_cons hjl]
      rw [hsplit] at hown
      have hp : (renX k j).length = j := renX_length _ _
      have c0 : wr.cell? ⟨g, j * 2, none⟩ = some (.int .i64 l[j].key) := by
        rw [hown.cellAt _ (by omega)]
        exact (cellsX_at (l := renX k j ++ l[j] :: l.drop (j + 1)) (i := j) (by rw [List.getElem?_append_right (by omega), hp, Nat.sub_self]; rfl)).1
      have c1 : wr.cell? ⟨g, j * 2 + 1, none⟩ = some (.int .i64 l[j].dist) := by
        rw [hown.cellAt _ (by omega)]
        exact (cellsX_at (l := renX k j ++ l[j] :: l.drop (j + 1)) (i := j) (by rw [List.getElem?_append_right (by omega), hp, Nat.sub_self]; rfl)).2
      have f0 : wr.frozen? ⟨g, j * 2, none⟩ = false := hown.frozenAt _
      have f1 : wr.frozen? ⟨g, j * 2 + 1, none⟩ = false := hown.frozenAt _
      have s0 := hown.stored (j * 2) (.int .i64 kj)
      have e0 := cellsX_set0 (renX k j) (l.drop (j + 1)) l[j] kj
      rw [hp] at e0
      rw [e0] at s0
      have s1 := s0.1.stored (j * 2 + 1) (.int .i64 (kj + 1))
      have e1 := cellsX_set1 (renX k j) (l.drop (j + 1)) ⟨kj, l[j].dist⟩ (kj + 1)
      rw [hp] at e1
      rw [e1] at s1
      have HE : Hid (renX k (j + 1) ++ l.drop (j + 1) = renX k j ++ ⟨kj, kj + 1⟩ :: l.drop (j + 1)) := Lib.hid (by rw [renX_succ, ← hkj]; simp)
      have HS := Lib.hid s1.1
      have HG := Lib.hid (gb_trans hg (gb_trans s0.2 s1.2))
      have HK := Lib.hid hkj
      have hk0 : 0 ≤ kj := by omega
      have hk1 : kj ≤ 4398100000000 := by omega
      have d1 : (wr.setCell ⟨g, j * 2, none⟩ (.int .i64 kj)).cell? ⟨g, j * 2 + 1, none⟩ = some (.int .i64 l[j].dist) := by
        rw [s0.1.cellAt _ (by omega)]
        exact (cellsX_at (l := renX k j ++ ⟨kj, l[j].dist⟩ :: l.drop (j + 1)) (i := j) (h := ⟨kj, l[j].dist⟩) (by rw [List.getElem?_append_right (by omega), hp, Nat.sub_self]; rfl)).2
      have g1 : (wr.setCell ⟨g, j * 2, none⟩ (.int .i64 kj)).frozen? ⟨g, j * 2 + 1, none⟩ = false := s0.1.frozenAt _
      clear hown hg hsplit hp s0 e0 s1 e1 hkj
      generalize l[j] = y at *
      go_wp2_with fail
      go_roundw
      case rel => exact ⟨j + 1, kj + 2, by omega, by go_num, by have := HK.out; omega, by go_num, by rw [HE.out]; exact HS.out, HG.out⟩
      case measure => simp [intOf]; omega
    · obtain rfl : j = n := by omega
      have HW := Lib.hid hown
      have HG := Lib.hid hg
      have HK := Lib.hid hkj
      clear hown hg hkj
      go_wp2_with fail
      go_ret
      refine ⟨ret_int HK.out, ?_, HG.out⟩
      have := HW.out
      rw [List.drop_of_length_le (by rw [HL.out]; exact Nat.le_refl _), List.append_nil] at this
      exact this
theorem heldHitS_any (w : World) (A : Option Addr) (c lo hi n : Nat) (k : Int) (hl : n ≤ 1048576) (hr : Rd w lo hi A (cellsX (renX k n))) (h0 : 0 ≤ k) (h1 : k ≤ 4398046511104) :
    Calls Try.prog 18 #[.slice A n c, .int .i64 k] w fun e w' => e = .returned (.int .i64 (k + 2 * n)) ∧ w = w' := by
  have HR := Lib.hid hr
  clear hr
  go_enter Try.func18, Try.ntmps18
  go_wp2_with fail
  go_loop [1, 5] (fun q i => ∃ (j : Nat) (kj : Int), j ≤ n ∧ i = .int .i64 j ∧ kj = k + 2 * j ∧ q = .int .i64 kj) (fun _ i => n - (intOf i).toNat)
  case atStart => exact ⟨0, k, Nat.zero_le _, rfl, by simp, rfl⟩
  case round =>
    obtain ⟨j, kj, hj, rfl, hkj, rfl⟩ := hrel
    by_cases hlt : j < n
    · obtain ⟨b, o, rfl, _, _, c0, c1⟩ := HR.out.hit (renX_at hlt)
      rw [← hkj] at c0 c1
      have HK := Lib.hid hkj
      have t0 : (kj != kj) = false := by simp
      have t1 : ((kj + 1) != (kj + 1)) = false := by simp
      have hk0 : 0 ≤ kj := by omega
      have hk1 : kj ≤ 4398100000000 := by omega
      clear hkj
      go_wp2_with fail
      go_round
      case rel => exact ⟨j + 1, kj + 2, by omega, by go_num, by have := HK.out; omega, by go_num⟩
      case measure => simp [intOf]; omega
    · obtain rfl : j = n := by omega
      have HK := Lib.hid hkj
      clear hkj
      go_wp2_with fail
      go_ret
      exact ⟨ret_int HK.out, rfl⟩
end Go.Proofs.Ytamaoljjoghajaa
