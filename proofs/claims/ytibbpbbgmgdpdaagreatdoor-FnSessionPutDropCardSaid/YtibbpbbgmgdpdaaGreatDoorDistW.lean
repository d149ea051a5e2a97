/- The walks of distances and of the comparison of items. -/
import Derived.Test.YtibbpbbgmgdpdaaGreatDoorIdxW
import Derived.Test.YtibbpbbgmgdpdaaGreatDoorPure
import Derived.WalkLawsBesides
namespace Go.Proofs.YtibbpbbgmgdpdaaGreatDoor
open Go.RowKit
set_option linter.unusedVariables false
set_option maxRecDepth 100000
set_option linter.unusedSimpArgs false

theorem specSize_any (w : World) (n : Int) (h0 : -1000 ≤ n) (h1 : n ≤ 1000) :
    Calls Tryz.prog 87 #[.int .i64 n] w fun e w' => e = .returned (.int .i64 (M.abs n)) ∧ w = w' := by
  by_cases h : n < 0
  · go_enter Tryz.func87, Tryz.ntmps87
    go_wp2_with fail
    go_ret
    exact ⟨ret_int (by simp [M.abs, h]), rfl⟩
  · go_enter Tryz.func87, Tryz.ntmps87
    go_wp2_with fail
    go_ret
    exact ⟨ret_int (by simp [M.abs, h]; try omega), rfl⟩
theorem specToInt_any (w : World) (b : Bool) :
    Calls Tryz.prog 88 #[.bool b] w fun e w' => e = .returned (.int .i64 (if b then 1 else 0)) ∧ w = w' := by
  cases b
  · show Calls Tryz.prog 88 #[.bool false] w fun e w' => e = .returned (.int .i64 0) ∧ w = w'
    go_enter Tryz.func88, Tryz.ntmps88
    go_wp2_with fail
    go_ret
    exact ⟨rfl, rfl⟩
  · show Calls Tryz.prog 88 #[.bool true] w fun e w' => e = .returned (.int .i64 1) ∧ w = w'
    go_enter Tryz.func88, Tryz.ntmps88
    go_wp2_with fail
    go_ret
    exact ⟨rfl, rfl⟩
theorem getD_rng {l : List Int} (hl : ∀ x ∈ l, -100 ≤ x ∧ x ≤ 100) (k : Nat) : -100 ≤ l.getD k 0 ∧ l.getD k 0 ≤ 100 := by
  rw [List.getD_eq_getElem?_getD]
  cases h : l[k]? with
  | none => simp
  | some x => exact hl x (List.mem_of_getElem? h)
set_option maxHeartbeats 1000000 in
theorem specDist_any {w : World} {A B : Option Addr} {c d : Nat} {l m : List Int} {kind : Int} (hn : l.length ≤ 1048576) (he : l.length = m.length) (hl : ∀ x ∈ l, -100 ≤ x ∧ x ≤ 100) (hm : ∀ x ∈ m, -100 ≤ x ∧ x ≤ 100)
    (hk0 : 1 ≤ kind) (hk1 : kind ≤ 4) (hr : Rd w 0 w.heap.size A (l.map (.int .i64))) (hs : Rd w 0 w.heap.size B (m.map (.int .i64))) :
    Calls Tryz.prog 69 #[.int .i64 kind, .slice A l.length c, .slice B m.length d] w fun e w' => e = .returned (.int .i64 (M.dist kind l m)) ∧ ∃ n, w' = w.drewN n := by
  rw [← he]
  have HE := Lib.hid he
  have HD := Lib.hid (fun k => M.distTo_rng (kind := kind) hl hm k)
  have HL := Lib.hid (getD_rng hl)
  have HM := Lib.hid (getD_rng hm)
  have HR := Lib.hid hr
  have HS := Lib.hid hs
  obtain ⟨N, hN⟩ : ∃ n, n = l.length := ⟨_, rfl⟩
  rw [← hN] at hn ⊢
  have HN := Lib.hid hN
  clear he hl hm hr hs hN
  go_enter Tryz.func69, Tryz.ntmps69
  go_wp2_with fail
  go_loopw [7, 8] (fun s i wr => ∃ k q : Nat, k ≤ N ∧ i = .int .i64 k ∧ s = .int .i64 (M.distTo kind l m k) ∧ wr = w.drewN q) (fun s i _ => N - (intOf i).toNat)
  case atStart => exact ⟨0, 0, Nat.zero_le _, rfl, rfl, rfl⟩
  case round =>
    obtain ⟨k, q, hk, rfl, rfl, hW⟩ := hrel
    have HW := Lib.hid hW
    clear hW
    by_cases hlt : k < N
    · have hkl : k < l.length := by rw [← HN.out]; exact hlt
      have hkm : k < m.length := by rw [← HE.out]; exact hkl
      obtain ⟨b, o, rfl, _, _, c0⟩ := HR.out.at_ (j := k) (u := .int .i64 (l.getD k 0)) (by simp [hkl])
      obtain ⟨b', o', rfl, _, _, c1⟩ := HS.out.at_ (j := k) (u := .int .i64 (m.getD k 0)) (by simp [hkm])
      have hD := HD.out k
      have hD' := HD.out (k + 1)
      have h1 := HL.out k
      have h2 := HM.out k
      have HC := Lib.hid (fun W => specSize_any W (l.getD k 0 - m.getD k 0) (by omega) (by omega))
      have eD : M.distTo kind l m (k + 1) = M.dstep kind (M.distTo kind l m k) (M.abs (l.getD k 0 - m.getD k 0)) := rfl
      rw [eD] at hD'
      have HX := Lib.hid eD
      have h3 : 0 ≤ M.abs (l.getD k 0 - m.getD k 0) ∧ M.abs (l.getD k 0 - m.getD k 0) ≤ 200 := by unfold M.abs; split <;> omega
      clear eD
      generalize M.distTo kind l m k = s at *
      generalize l.getD k 0 = x at *
      generalize m.getD k 0 = y at *
      generalize hd : M.abs (x - y) = e at *
      have c0 : wr.cell? ⟨b, o + k, none⟩ = some (.int .i64 x) := by rw [HW.out]; exact (gb_drewN (gb_refl w none) q).cell c0 (by simp)
      have c1 : wr.cell? ⟨b', o' + k, none⟩ = some (.int .i64 y) := by rw [HW.out]; exact (gb_drewN (gb_refl w none) q).cell c1 (by simp)
      have hw : IntKind.i64.wrap (x - y) = x - y := IntWalk.i64_in _ (by omega)
      go_wp2_with fail
      go_quiet ((go_at_call 87; exact quiet_here (HC.out _)))
      have hW' : ∃ p, wr.drewN nq = w.drewN p := ⟨q + nq, by rw [HW.out, World.drewN_drewN]⟩
      have HW' := Lib.hid hW'
      clear hW'
      have hz := M.sq_le h3.1 h3.2
      have w1 : IntKind.i64.wrap (e * e) = e * e := IntWalk.i64_in _ (by generalize e * e = z at *; omega)
      have w2 : IntKind.i64.wrap (s + e * e) = s + e * e := IntWalk.i64_in _ (by generalize e * e = z at *; omega)
      have w3 : IntKind.i64.wrap (s + e) = s + e := IntWalk.i64_in _ (by omega)
      have w4 : IntKind.i64.wrap (s + 1) = s + 1 := IntWalk.i64_in _ (by omega)
      clear hD' hz
      rcases (show kind = 1 ∨ kind = 2 ∨ kind = 3 ∨ kind = 4 by omega) with rfl | rfl | rfl | rfl
      · go_wp2_with fail
        obtain ⟨p, hp⟩ := HW'.out
        have HP := Lib.hid hp
        clear hp
        go_roundw
        case rel => exact ⟨k + 1, p, by omega, by go_num, by rw [HX.out]; simp [M.dstep], HP.out⟩
        case measure => simp [intOf]; omega
      · by_cases hse : s < e
        · go_wp2_with fail
          obtain ⟨p, hp⟩ := HW'.out
          have HP := Lib.hid hp
          clear hp
          go_roundw
          case rel => exact ⟨k + 1, p, by omega, by go_num, by rw [HX.out]; simp [M.dstep, hse], HP.out⟩
          case measure => simp [intOf]; omega
        · go_wp2_with fail
          obtain ⟨p, hp⟩ := HW'.out
          have HP := Lib.hid hp
          clear hp
          go_roundw
          case rel => exact ⟨k + 1, p, by omega, by go_num, by rw [HX.out]; simp [M.dstep, hse], HP.out⟩
          case measure => simp [intOf]; omega
      · go_wp2_with fail
        obtain ⟨p, hp⟩ := HW'.out
        have HP := Lib.hid hp
        clear hp
        go_roundw
        case rel => exact ⟨k + 1, p, by omega, by go_num, by rw [HX.out]; simp [M.dstep], HP.out⟩
        case measure => simp [intOf]; omega
      · have HT := Lib.hid (specToInt_any)
        by_cases h0e : 0 < e
        · have t0 : decide (0 < e) = true := by simp [h0e]
          go_wp2_with (go_at_call 88; refine (HT.out _ _).mono ?_; rintro e' w' ⟨rfl, rfl⟩)
          obtain ⟨p, hp⟩ := HW'.out
          have HP := Lib.hid hp
          clear hp
          go_roundw
          case rel => exact ⟨k + 1, p, by omega, by go_num, by rw [HX.out]; simp only [M.dstep, h0e]; simp; try omega, HP.out⟩
          case measure => simp [intOf]; omega
        · have t0 : decide (0 < e) = false := by simp [h0e]
          go_wp2_with (go_at_call 88; refine (HT.out _ _).mono ?_; rintro e' w' ⟨rfl, rfl⟩)
          obtain ⟨p, hp⟩ := HW'.out
          have HP := Lib.hid hp
          clear hp
          go_roundw
          case rel => exact ⟨k + 1, p, by omega, by go_num, by rw [HX.out]; simp only [M.dstep, h0e]; simp; try omega, HP.out⟩
          case measure => simp [intOf]; omega
    · obtain rfl : k = N := by omega
      go_wp2_with fail
      go_ret
      exact ⟨ret_int (by rw [HN.out]; rfl), q, HW.out⟩

theorem sameB_comm3 {x y : M.Item} : M.sameB x y = (x.key == y.key && (x.tags == y.tags && decide (x.pos = y.pos))) := by
  unfold M.sameB
  cases x.key == y.key <;> cases x.tags == y.tags <;> cases decide (x.pos = y.pos) <;> rfl
end Go.Proofs.YtibbpbbgmgdpdaaGreatDoor
