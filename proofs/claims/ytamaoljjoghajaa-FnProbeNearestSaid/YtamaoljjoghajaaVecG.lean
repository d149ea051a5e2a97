/- The walk of the program's distance, once more: it goes further on the tape. -/
import Derived.Test.YtamaoljjoghajaaDistI
namespace Go.Proofs.Ytamaoljjoghajaa
open Go.RowKit
set_option linter.unusedVariables false
set_option maxRecDepth 100000
/-- grown, and further on the tape -/
def GrwV (a b : World) : Prop := a.grownBy b none ∧ a.drawn ≤ b.drawn
theorem GrwV.refl (a : World) : GrwV a a := ⟨gb_refl _ _, Nat.le_refl _⟩
theorem GrwV.drew {a b : World} (h : GrwV a b) : GrwV a b.drew := ⟨gb_drew h.1, Nat.le_succ_of_le h.2⟩
theorem GrwV.alloc {a b : World} (h : GrwV a b) (o : Obj) : GrwV a (b.alloc o) := ⟨gb_alloc h.1 o, h.2⟩
theorem GrwV.trans {a b c : World} (h : GrwV a b) (k : GrwV b c) : GrwV a c := ⟨gb_trans h.1 k.1, Nat.le_trans h.2 k.2⟩
structure LaterG (W : World) where
  w : World
  h : GrwV W w
theorem LaterG.cell {W : World} (x : LaterG W) {p : Addr} {v : Value} (h : W.cell? p = some v) : x.w.cell? p = some v := x.h.1.cell h (by simp)
theorem wp_region_laterG {P : Program} {id : Nat} {Q : Exit → Act → World → Prop} {a : Act} {w : World} {l : List Oper} (hm : P.follows .mixedOrders = true) (hB : Region.lexB .any l.toArray = true)
    (h : wpQuiet P l.toArray (fun w' => ∃ x : LaterG w, w' = x.w) (fun a' => ∀ w', (∃ x : LaterG w, w' = x.w) → Q .normal a' w') l a) : (Code.region id l.toArray true).wp P Q a w :=
  wp_region_quiet (C := fun w' => ∃ x : LaterG w, w' = x.w) hm hB ⟨⟨_, (GrwV.refl w).drew⟩, rfl⟩ (by simpa using h)
theorem laterG_call {P : Program} {f : FuncId} {args : Array Value} {W : World} {x : LaterG W} {v : Value} (h : Calls P f args x.w fun e w' => e = .returned v ∧ GrwV x.w w') :
    Calls P f args x.w fun e w'' => e = .returned v ∧ ∃ m : LaterG W, w'' = m.w :=
  h.mono fun _ w' ⟨he, hg⟩ => ⟨he, ⟨w', x.h.trans hg⟩, rfl⟩
instance LaterG.some_ (W : World) : Nonempty (LaterG W) := ⟨⟨W, GrwV.refl W⟩⟩
set_option maxHeartbeats 2000000 in
theorem distance_grw {w : World} {A B : Option Addr} {c d : Nat} {l m : List Int} {kind : Int} (hl : M.isVec l = true) (hm : M.isVec m = true) {lo hi lo' hi' : Nat} (hr : Rd w lo hi A (l.map (.int .i64))) (hs : Rd w lo' hi' B (m.map (.int .i64))) :
    Calls Try.prog 67 #[.int .i64 kind, .slice A l.length c, .slice B m.length d] w fun e w' => e = .returned (.int .i64 (M.dist kind l m)) ∧ GrwV w w' := by
  have e1 : l.length = 4 := (M.isVec_of hl).2
  have e2 : m.length = 4 := (M.isVec_of hm).2
  rw [e1, e2]
  have HV := Lib.hid hl
  have HW := Lib.hid hm
  have HE1 := Lib.hid e1
  have HE2 := Lib.hid e2
  have HR := Lib.hid hr
  have HS := Lib.hid hs
  have HD : Hid (M.dist kind l m = M.distTo kind l m 4) := Lib.hid (by unfold M.dist; rw [e1])
  generalize M.dist kind l m = r at HD ⊢
  have HRX := Lib.hid (getD_rng (M.isVec_of hl).1)
  have HRY := Lib.hid (getD_rng (M.isVec_of hm).1)
  clear hl hm hr hs e1 e2
  go_enter Try.func67, Try.ntmps67
  go_wp2_with fail
  go_loopw [7, 8, 9, 10, 16] (fun p1 p2 p3 p4 i wr => ∃ (k : Nat) (s t u v : Int), k ≤ 4 ∧ i = .int .i64 k ∧ p1 = .int .i64 s ∧ p2 = .int .i64 t ∧ p3 = .int .i64 u ∧ p4 = .int .i64 v ∧ DistAt l m k s t u v ∧ GrwV w wr) (fun _ _ _ _ i _ => 4 - (intOf i).toNat)
  case atStart => exact ⟨0, 0, 0, 0, 0, by omega, rfl, rfl, rfl, rfl, rfl, ⟨rfl, rfl, rfl, rfl⟩, GrwV.refl _⟩
  case round =>
    obtain ⟨k, s, t, u, v, hk, rfl, rfl, rfl, rfl, rfl, hd, hg⟩ := hrel
    have HDA := Lib.hid hd
    have HG := Lib.hid hg
    have hrng := distAt_rng HV.out HW.out hk hd
    clear hd hg
    by_cases hlt : k < 4
    · have hkl : k < l.length := by rw [HE1.out]; exact hlt
      have hkm : k < m.length := by rw [HE2.out]; exact hlt
      obtain ⟨b, o, rfl, _, _, c0⟩ := HR.out.at_ (j := k) (u := .int .i64 (l.getD k 0)) (by simp [hkl])
      obtain ⟨b', o', rfl, _, _, c1⟩ := HS.out.at_ (j := k) (u := .int .i64 (m.getD k 0)) (by simp [hkm])
      have h1 := HRX.out k
      have h2 := HRY.out k
      have HX := Lib.hid (fun e he => distAt_next (e := e) HDA.out rfl rfl he)
      replace c0 := HG.out.1.cell c0 (by simp)
      replace c1 := HG.out.1.cell c1 (by simp)
      generalize l.getD k 0 = xa at *
      generalize m.getD k 0 = ya at *
      have l1 : ∀ z : LaterG wr, z.w.cell? ⟨b', o' + k, none⟩ = some (.int .i64 ya) := fun z => z.cell c1
      have hw1 : IntKind.i64.wrap (xa - ya) = xa - ya := IntWalk.i64_in _ (by omega)
      have hw2 : IntKind.i64.wrap (ya - xa) = ya - xa := IntWalk.i64_in _ (by omega)
      have kn : (k : Int) < 4 := by omega
      have k0 : (0 : Int) ≤ k := by omega
      clear c1 hkl hkm
      by_cases hxy : ya - xa > xa - ya
      · go_wp2_with fail
        refine wp_region_laterG (by kernel_rfl) (by kernel_rfl) ?_
        repeat (go_big_quiet_step ((fail)))
        refine wpQuiet_nil ?_
        rintro _ ⟨x, rfl⟩
        obtain ⟨e, he⟩ : ∃ e, e = ya - xa := ⟨_, rfl⟩
        have he0 : 0 ≤ e ∧ e ≤ 200 := by omega
        replace HX := Lib.hid (HX.out e (by rw [he]; unfold M.abs; split <;> omega))
        rw [← he]
        clear hw1 hw2 l1 hxy he
        have GX := Lib.hid (HG.out.trans x.h)
        have hz := M.sq_le (d := e) (by omega) (by omega)
        have w1 : IntKind.i64.wrap (e * e) = e * e := IntWalk.i64_in _ (by generalize e * e = z at *; omega)
        have w2 : IntKind.i64.wrap (u + e * e) = u + e * e := IntWalk.i64_in _ (by generalize e * e = z at *; omega)
        have w3 : IntKind.i64.wrap (s + e) = s + e := IntWalk.i64_in _ (by omega)
        have w4 : IntKind.i64.wrap (v + 1) = v + 1 := IntWalk.i64_in _ (by omega)
        clear hz
        by_cases hte : t < e
        · have hte' : e > t := hte
          rw [if_pos hte] at HX
          by_cases h0e : 0 < e
          · have h0e' : e > 0 := h0e
            rw [if_pos h0e] at HX
            have t0 : decide (e > 0) = true := by simp [h0e]
            go_wp2_with fail
            go_roundw
            case rel => exact ⟨k + 1, _, _, _, _, by omega, by go_num, rfl, rfl, rfl, rfl, HX.out, GX.out⟩
            case measure => simp [intOf]; omega
          · omega
        · have hte' : ¬ e > t := hte
          rw [if_neg hte] at HX
          by_cases h0e : 0 < e
          · have h0e' : e > 0 := h0e
            rw [if_pos h0e] at HX
            have t0 : decide (e > 0) = true := by simp [h0e]
            go_wp2_with fail
            go_roundw
            case rel => exact ⟨k + 1, _, _, _, _, by omega, by go_num, rfl, rfl, rfl, rfl, HX.out, GX.out⟩
            case measure => simp [intOf]; omega
          · have h0e' : ¬ e > 0 := h0e
            rw [if_neg h0e] at HX
            have t0 : decide (e > 0) = false := by simp [h0e]
            go_wp2_with fail
            go_roundw
            case rel => exact ⟨k + 1, _, _, _, _, by omega, by go_num, rfl, rfl, rfl, rfl, HX.out, GX.out⟩
            case measure => simp [intOf]; omega
      · go_wp2_with fail
        refine wp_region_laterG (by kernel_rfl) (by kernel_rfl) ?_
        repeat (go_big_quiet_step ((fail)))
        refine wpQuiet_nil ?_
        rintro _ ⟨x, rfl⟩
        obtain ⟨e, he⟩ : ∃ e, e = xa - ya := ⟨_, rfl⟩
        have he0 : 0 ≤ e ∧ e ≤ 200 := by omega
        replace HX := Lib.hid (HX.out e (by rw [he]; unfold M.abs; split <;> omega))
        rw [← he]
        clear hw1 hw2 l1 hxy he
        have GX := Lib.hid (HG.out.trans x.h)
        have hz := M.sq_le (d := e) (by omega) (by omega)
        have w1 : IntKind.i64.wrap (e * e) = e * e := IntWalk.i64_in _ (by generalize e * e = z at *; omega)
        have w2 : IntKind.i64.wrap (u + e * e) = u + e * e := IntWalk.i64_in _ (by generalize e * e = z at *; omega)
        have w3 : IntKind.i64.wrap (s + e) = s + e := IntWalk.i64_in _ (by omega)
        have w4 : IntKind.i64.wrap (v + 1) = v + 1 := IntWalk.i64_in _ (by omega)
        clear hz
        by_cases hte : t < e
        · have hte' : e > t := hte
          rw [if_pos hte] at HX
          by_cases h0e : 0 < e
          · have h0e' : e > 0 := h0e
            rw [if_pos h0e] at HX
            have t0 : decide (e > 0) = true := by simp [h0e]
            go_wp2_with fail
            go_roundw
            case rel => exact ⟨k + 1, _, _, _, _, by omega, by go_num, rfl, rfl, rfl, rfl, HX.out, GX.out⟩
            case measure => simp [intOf]; omega
          · omega
        · have hte' : ¬ e > t := hte
          rw [if_neg hte] at HX
          by_cases h0e : 0 < e
          · have h0e' : e > 0 := h0e
            rw [if_pos h0e] at HX
            have t0 : decide (e > 0) = true := by simp [h0e]
            go_wp2_with fail
            go_roundw
            case rel => exact ⟨k + 1, _, _, _, _, by omega, by go_num, rfl, rfl, rfl, rfl, HX.out, GX.out⟩
            case measure => simp [intOf]; omega
          · have h0e' : ¬ e > 0 := h0e
            rw [if_neg h0e] at HX
            have t0 : decide (e > 0) = false := by simp [h0e]
            go_wp2_with fail
            go_roundw
            case rel => exact ⟨k + 1, _, _, _, _, by omega, by go_num, rfl, rfl, rfl, rfl, HX.out, GX.out⟩
            case measure => simp [intOf]; omega
    · obtain rfl : k = 4 := by omega
      obtain ⟨r1, r2, r3, r4⟩ := HDA.out
      have HG' := HG
      by_cases k1 : kind = 1
      · have HQ : Hid (r = s) := Lib.hid (by rw [HD.out, k1, r1])
        clear r1 r2 r3 r4
        go_wp2_with fail
        go_ret
        exact ⟨ret_int HQ.out.symm, HG.out⟩
      by_cases k2 : kind = 2
      · have HQ : Hid (r = t) := Lib.hid (by rw [HD.out, k2, r2])
        clear r1 r2 r3 r4
        go_wp2_with fail
        go_ret
        exact ⟨ret_int HQ.out.symm, HG.out⟩
      by_cases k3 : kind = 3
      · have HQ : Hid (r = u) := Lib.hid (by rw [HD.out, k3, r3])
        clear r1 r2 r3 r4
        go_wp2_with fail
        go_ret
        exact ⟨ret_int HQ.out.symm, HG.out⟩
      have HQ : Hid (r = v) := Lib.hid (by rw [HD.out, dist_other k1 k2 k3, r4])
      clear r1 r2 r3 r4
      go_wp2_with fail
      go_ret
      exact ⟨ret_int HQ.out.symm, HG.out⟩
end Go.Proofs.Ytamaoljjoghajaa
