/- The walk of the program's distance. -/
import Derived.Test.YtibbpbbgmgdpdaaGreatDoorNear
import Derived.Test.YtibbpbbgmgdpdaaGreatDoorDistW
namespace Go.Proofs.YtibbpbbgmgdpdaaGreatDoor
open Go.RowKit
set_option linter.unusedVariables false
set_option maxRecDepth 100000
theorem dist_other {kind : Int} (h1 : kind ≠ 1) (h2 : kind ≠ 2) (h3 : kind ≠ 3) (l m : List Int) : ∀ k, M.distTo kind l m k = M.distTo 4 l m k
  | 0 => rfl
  | k + 1 => by
    show M.dstep kind (M.distTo kind l m k) _ = M.dstep 4 (M.distTo 4 l m k) _
    rw [dist_other h1 h2 h3 l m k]
    simp [M.dstep, h1, h2, h3]
def DistAt (l m : List Int) (k : Nat) (s t u v : Int) : Prop := M.distTo 1 l m k = s ∧ M.distTo 2 l m k = t ∧ M.distTo 3 l m k = u ∧ M.distTo 4 l m k = v
theorem distAt_rng {l m : List Int} {k : Nat} {s t u v : Int} (hl : M.isVec l = true) (hm : M.isVec m = true) (hk : k ≤ 4) (h : DistAt l m k s t u v) : (0 ≤ s ∧ s ≤ 160000) ∧ (0 ≤ t ∧ t ≤ 160000) ∧ (0 ≤ u ∧ u ≤ 160000) ∧ (0 ≤ v ∧ v ≤ 160000) := by
  have hl' := (M.isVec_of hl).1
  have hm' := (M.isVec_of hm).1
  obtain ⟨rfl, rfl, rfl, rfl⟩ := h
  have a := fun kind => M.distTo_rng (kind := kind) hl' hm' k
  have a1 := a 1
  have a2 := a 2
  have a3 := a 3
  have a4 := a 4
  omega
theorem distAt_next {l m : List Int} {k : Nat} {s t u v x y e : Int} (h : DistAt l m k s t u v) (hx : l.getD k 0 = x) (hy : m.getD k 0 = y) (he : M.abs (x - y) = e) :
    DistAt l m (k + 1) (s + e) (if t < e then e else t) (u + e * e) (if 0 < e then v + 1 else v) := by
  obtain ⟨rfl, rfl, rfl, rfl⟩ := h
  subst hx hy he
  refine ⟨rfl, rfl, rfl, ?_⟩
  show M.dstep 4 _ _ = _
  unfold M.dstep
  simp only [show ¬ (4 : Int) = 1 by decide, show ¬ (4 : Int) = 2 by decide, show ¬ (4 : Int) = 3 by decide, if_false]
  split <;> omega
set_option maxHeartbeats 2000000 in
theorem distance_any {w : World} {A B : Option Addr} {c d : Nat} {l m : List Int} {kind : Int} (hl : M.isVec l = true) (hm : M.isVec m = true) {lo hi lo' hi' : Nat} (hr : Rd w lo hi A (l.map (.int .i64))) (hs : Rd w lo' hi' B (m.map (.int .i64))) :
    Calls Tryz.prog 55 #[.int .i64 kind, .slice A l.length c, .slice B m.length d] w fun e w' => e = .returned (.int .i64 (M.dist kind l m)) ∧ w.grownBy w' none := by
  have e1 : l.length = 4 := (M.isVec_of hl).2
  have e2 : m.length = 4 := (M.isVec_of hm).2
  rw [e1, e2]
  have HV := Lib.hid hl
  have HW := Lib.hid hm
  have HE1 := Lib.hid e1
  have HE2 := Lib.hid e2
  have HR := Lib.hid hr
  have HS := Lib.hid hs
  have HD : Hid (M.dist kind l m = M.distTo kind l m 4) := Lib.hid (by unfold M.dist; rw [e1])
  generalize M.dist kind l m = r at HD ⊢
  have HRX := Lib.hid (getD_rng (M.isVec_of hl).1)
  have HRY := Lib.hid (getD_rng (M.isVec_of hm).1)
  clear hl hm hr hs e1 e2
  go_enter Tryz.func55, Tryz.ntmps55
  go_wp2_with fail
  go_loopw [7, 8, 9, 10, 16] (fun p1 p2 p3 p4 i wr => ∃ (k : Nat) (s t u v : Int), k ≤ 4 ∧ i = .int .i64 k ∧ p1 = .int .i64 s ∧ p2 = .int .i64 t ∧ p3 = .int .i64 u ∧ p4 = .int .i64 v ∧ DistAt l m k s t u v ∧ w.grownBy wr none) (fun _ _ _ _ i _ => 4 - (intOf i).toNat)
  case atStart => exact ⟨0, 0, 0, 0, 0, by omega, rfl, rfl, rfl, rfl, rfl, ⟨rfl, rfl, rfl, rfl⟩, gb_refl _ _⟩
  case round =>
    obtain ⟨k, s, t, u, v, hk, rfl, rfl, rfl, rfl, rfl, hd, hg⟩ := hrel
    have HDA := Lib.hid hd
    have HG := Lib.hid hg
    have hrng := distAt_rng HV.out HW.out hk hd
    clear hd hg
    by_cases hlt : k < 4
    · have hkl : k < l.length := by rw [HE1.out]; exact hlt
      have hkm : k < m.length := by rw [HE2.out]; exact hlt
      obtain ⟨b, o, rfl, _, _, c0⟩ := HR.out.at_ (j := k) (u := .int .i64 (l.getD k 0)) (by simp [hkl])
      obtain ⟨b', o', rfl, _, _, c1⟩ := HS.out.at_ (j := k) (u := .int .i64 (m.getD k 0)) (by simp [hkm])
      have h1 := HRX.out k
      have h2 := HRY.out k
      have HX := Lib.hid (fun e he => distAt_next (e := e) HDA.out rfl rfl he)
      replace c0 := HG.out.cell c0 (by simp)
      replace c1 := HG.out.cell c1 (by simp)
      generalize l.getD k 0 = xa at *
      generalize m.getD k 0 = ya at *
      have l1 : ∀ z : Later wr, z.w.cell? ⟨b', o' + k, none⟩ = some (.int .i64 ya) := fun z => z.cell c1
      have hw1 : IntKind.i64.wrap (xa - ya) = xa - ya := IntWalk.i64_in _ (by omega)
      have hw2 : IntKind.i64.wrap (ya - xa) = ya - xa := IntWalk.i64_in _ (by omega)
      have kn : (k : Int) < 4 := by omega
      have k0 : (0 : Int) ≤ k := by omega
      clear c1 hkl hkm
      by_cases hxy : ya - xa > xa - ya
      · go_wp2_with fail
        refine wp_region_later (by kernel_rfl) (by kernel_rfl) ?_
        repeat (go_big_quiet_step ((fail)))
        refine wpQuiet_nil ?_
        rintro _ ⟨x, rfl⟩
        obtain ⟨e, he⟩ : ∃ e, e = ya - xa := ⟨_, rfl⟩
        have he0 : 0 ≤ e ∧ e ≤ 200 := by omega
        replace HX := Lib.hid (HX.out e (by rw [he]; unfold M.abs; split <;> omega))
        rw [← he]
        clear hw1 hw2 l1 hxy he
        have GX := Lib.hid (gb_trans HG.out x.h)
        have hz := M.sq_le (d := e) (by omega) (by omega)
        have w1 : IntKind.i64.wrap (e * e) = e * e := IntWalk.i64_in _ (by generalize e * e = z at *; omega)
        have w2 : IntKind.i64.wrap (u + e * e) = u + e * e := IntWalk.i64_in _ (by generalize e * e = z at *; omega)
        have w3 : IntKind.i64.wrap (s + e) = s + e := IntWalk.i64_in _ (by omega)
        have w4 : IntKind.i64.wrap (v + 1) = v + 1 := IntWalk.i64_in _ (by omega)
        clear hz
        by_cases hte : t < e
        · have hte' : e > t := hte
          rw [if_pos hte] at HX
          by_cases h0e : 0 < e
          · have h0e' : e > 0 := h0e
            rw [if_pos h0e] at HX
            have t0 : decide (e > 0) = true := by simp [h0e]
            go_wp2_with fail
            go_roundw
            case rel => exact ⟨k + 1, _, _, _, _, by omega, by go_num, rfl, rfl, rfl, rfl, HX.out, GX.out⟩
            case measure => simp [intOf]; omega
          · omega
        · have hte' : ¬ e > t := hte
          rw [if_neg hte] at HX
          by_cases h0e : 0 < e
          · have h0e' : e > 0 := h0e
            rw [if_pos h0e] at HX
            have t0 : decide (e > 0) = true := by simp [h0e]
            go_wp2_with fail
            go_roundw
            case rel => exact ⟨k + 1, _, _, _, _, by omega, by go_num, rfl, rfl, rfl, rfl, HX.out, GX.out⟩
            case measure => simp [intOf]; omega
          · have h0e' : ¬ e > 0 := h0e
            rw [if_neg h0e] at HX
            have t0 : decide (e > 0) = false := by simp [h0e]
            go_wp2_with fail
            go_roundw
            case rel => exact ⟨k + 1, _, _, _, _, by omega, by go_num, rfl, rfl, rfl, rfl, HX.out, GX.out⟩
            case measure => simp [intOf]; omega
      · go_wp2_with fail
        refine wp_region_later (by kernel_rfl) (by kernel_rfl) ?_
        repeat (go_big_quiet_step ((fail)))
        refine wpQuiet_nil ?_
        rintro _ ⟨x, rfl⟩
        obtain ⟨e, he⟩ : ∃ e, e = xa - ya := ⟨_, rfl⟩
        have he0 : 0 ≤ e ∧ e ≤ 200 := by omega
        replace HX := Lib.hid (HX.out e (by rw [he]; unfold M.abs; split <;> omega))
        rw [← he]
        clear hw1 hw2 l1 hxy he
        have GX := Lib.hid (gb_trans HG.out x.h)
        have hz := M.sq_le (d := e) (by omega) (by omega)
        have w1 : IntKind.i64.wrap (e * e) = e * e := IntWalk.i64_in _ (by generalize e * e = z at *; omega)
        have w2 : IntKind.i64.wrap (u + e * e) = u + e * e := IntWalk.i64_in _ (by generalize e * e = z at *; omega)
        have w3 : IntKind.i64.wrap (s + e) = s + e := IntWalk.i64_in _ (by omega)
        have w4 : IntKind.i64.wrap (v + 1) = v + 1 := IntWalk.i64_in _ (by omega)
        clear hz
        by_cases hte : t < e
        · have hte' : e > t := hte
          rw [if_pos hte] at HX
          by_cases h0e : 0 < e
          · have h0e' : e > 0 := h0e
            rw [if_pos h0e] at HX
            have t0 : decide (e > 0) = true := by simp [h0e]
            go_wp2_with fail
            go_roundw
            case rel => exact ⟨k + 1, _, _, _, _, by omega, by go_num, rfl, rfl, rfl, rfl, HX.out, GX.out⟩
            case measure => simp [intOf]; omega
          · omega
        · have hte' : ¬ e > t := hte
          rw [if_neg hte] at HX
          by_cases h0e : 0 < e
          · have h0e' : e > 0 := h0e
            rw [if_pos h0e] at HX
            have t0 : decide (e > 0) = true := by simp [h0e]
            go_wp2_with fail
            go_roundw
            case rel => exact ⟨k + 1, _, _, _, _, by omega, by go_num, rfl, rfl, rfl, rfl, HX.out, GX.out⟩
            case measure => simp [intOf]; omega
          · have h0e' : ¬ e > 0 := h0e
            rw [if_neg h0e] at HX
            have t0 : decide (e > 0) = false := by simp [h0e]
            go_wp2_with fail
            go_roundw
            case rel => exact ⟨k + 1, _, _, _, _, by omega, by go_num, rfl, rfl, rfl, rfl, HX.out, GX.out⟩
            case measure => simp [intOf]; omega
    · obtain rfl : k = 4 := by omega
      obtain ⟨r1, r2, r3, r4⟩ := HDA.out
      have HG' := HG
      by_cases k1 : kind = 1
      · have HQ : Hid (r = s) := Lib.hid (by rw [HD.out, k1, r1])
        clear r1 r2 r3 r4
        go_wp2_with fail
        go_ret
        exact ⟨ret_int HQ.out.symm, HG.out⟩
      by_cases k2 : kind = 2
      · have HQ : Hid (r = t) := Lib.hid (by rw [HD.out, k2, r2])
        clear r1 r2 r3 r4
        go_wp2_with fail
        go_ret
        exact ⟨ret_int HQ.out.symm, HG.out⟩
      by_cases k3 : kind = 3
      · have HQ : Hid (r = u) := Lib.hid (by rw [HD.out, k3, r3])
        clear r1 r2 r3 r4
        go_wp2_with fail
        go_ret
        exact ⟨ret_int HQ.out.symm, HG.out⟩
      have HQ : Hid (r = v) := Lib.hid (by rw [HD.out, dist_other k1 k2 k3, r4])
      clear r1 r2 r3 r4
      go_wp2_with fail
      go_ret
      exact ⟨ret_int HQ.out.symm, HG.out⟩
end Go.Proofs.YtibbpbbgmgdpdaaGreatDoor
