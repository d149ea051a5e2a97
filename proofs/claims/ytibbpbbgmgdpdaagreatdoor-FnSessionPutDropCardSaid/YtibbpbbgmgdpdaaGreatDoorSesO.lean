/- The walks of the two nearest items: the reference's. The walk of the two nearest items: the program's. -/
import Derived.Test.YtibbpbbgmgdpdaaGreatDoorSes
import Derived.Test.YtibbpbbgmgdpdaaGreatDoorSee
import Derived.Test.YtibbpbbgmgdpdaaGreatDoorNearI
import Derived.Test.YtibbpbbgmgdpdaaGreatDoorDistW
import Derived.Test.YtibbpbbgmgdpdaaGreatDoorNearS
import Derived.Deep.RegionWith
import Derived.BigRegion
import Derived.Deep.DeepCutAuto
namespace Go.Proofs.YtibbpbbgmgdpdaaGreatDoor
open Go.RowKit
set_option linter.unusedVariables false
set_option linter.unusedSimpArgs false
set_option maxRecDepth 100000

/-- what ClosestPair answers -/
def PairGot (w : World) (r : Option (M.Item × M.Item)) (e : Ending) (w' : World) : Prop :=
  e = .returned (.tuple #[.int .i64 ((r.map fun p => p.1.key).getD 0), .int .i64 ((r.map fun p => p.2.key).getD 0), .bool r.isSome]) ∧ w.grownBy w' none
theorem PairGot.none_ {w w' : World} {r : Option (M.Item × M.Item)} (h : r = none) (hg : w.grownBy w' none) : PairGot w r (.returned (.tuple #[.int .i64 0, .int .i64 0, .bool false])) w' := by
  subst h; exact ⟨rfl, hg⟩
theorem PairGot.some_ {w w' : World} {r : Option (M.Item × M.Item)} {p : M.Item × M.Item} (h : r = some p) (hg : w.grownBy w' none) : PairGot w r (.returned (.tuple #[.int .i64 p.1.key, .int .i64 p.2.key, .bool true])) w' := by
  subst h; exact ⟨rfl, hg⟩
theorem RdI.parts {w : World} {lo hi b o : Nat} {L : List M.Item} (h : RdI w lo hi (some ⟨b, o, none⟩) L) {j : Nat} {x : M.Item} (hj : L[j]? = some x) :
    b < hi ∧ ∃ Au cu, w.cell? ⟨b, o + j * 3, none⟩ = some (.int .i64 x.key) ∧ w.cell? ⟨b, o + j * 3 + 1, none⟩ = some (.slice Au x.pos.length cu) ∧ w.cell? ⟨b, o + j * 3 + 2, none⟩ = some (.int .i64 x.tags) ∧ x.pos.length ≤ cu ∧ Rd w lo hi Au (x.pos.map (.int .i64)) := by
  obtain ⟨b', o', e, h1, h2, u, c0, c1, c2, Au, cu, rfl, hcu, hru⟩ := h.at_ hj
  injection e with e
  injection e with e1 e2
  subst e1 e2
  exact ⟨h2, Au, cu, c0, c1, c2, hcu, hru⟩
theorem RdI.base {w : World} {lo hi : Nat} {A : Option Addr} {L : List M.Item} (h : RdI w lo hi A L) (hn : 0 < L.length) : ∃ b o, A = some ⟨b, o, none⟩ := by
  obtain ⟨b, o, e, _⟩ := h (by intro e; subst e; simp at hn)
  exact ⟨b, o, e⟩
theorem validKind_any' (n : Int) (w : World) : Calls Tryz.prog 45 #[.int .i64 n] w fun e w' => e = .returned (.bool (M.inR n 1 4)) ∧ w = w' := by
  have H := Lib.hid (fun W => inRange_any n 1 4 W)
  generalize M.inR n 1 4 = r at *
  go_enter Tryz.func45, Tryz.ntmps45
  go_wp2_with (go_at_call 65; refine (H.out _).mono ?_; rintro e w' ⟨rfl, rfl⟩)
  go_ret
  exact ⟨rfl, rfl⟩
set_option maxHeartbeats 2000000 in
theorem ClosestPair_spec {w : World} {A : Option Addr} {c : Nat} {L : List M.Item} {kind : Int} (D : SeesI w A L) (hv : M.validStore L = true) (hk1 : 1 ≤ kind) (hk2 : kind ≤ 4) :
    Calls Tryz.prog 46 #[.slice A L.length c, .int .i64 kind] w (PairGot w (M.closest L kind)) := by
  have HV := Lib.hid (vs_spec (c := c) D)
  rw [hv] at HV
  have HK := Lib.hid (fun W => validKind_any' kind W)
  rw [M.inR_of hk1 hk2] at HK
  have hl16 := (M.validStore_of hv).1
  have HIS := Lib.hid (fun x hx => M.isVec_of (M.item_of hv (x := x) hx).2.1)
  have HD := Lib.hid D
  by_cases hl2 : L.length < 2
  · have HR := Lib.hid (M.closest_none (kind := kind) hl2)
    clear hv D
    have hl2' : (L.length : Int) < 2 := by omega
    generalize L.length = n at *
    go_enter Tryz.func46, Tryz.ntmps46
    go_wp2_with fail
    refine HV.out.mono ?_
    rintro e w1 ⟨rfl, hg⟩
    have G := Lib.hid hg
    clear hg
    go_wp2_with (go_at_call 45; refine (HK.out _).mono ?_; rintro e w' ⟨rfl, rfl⟩)
    go_ret3
    exact PairGot.none_ HR.out G.out
  · have HR := Lib.hid (M.closest_some (kind := kind) (show 2 ≤ L.length by omega))
    obtain ⟨b, o, rfl⟩ := D.1.base (by omega)
    obtain ⟨n, hn⟩ : ∃ n, n = L.length := ⟨_, rfl⟩
    rw [← hn] at hl16 hl2 HV ⊢
    have hl2' : ¬ (n : Int) < 2 := by omega
    have HL := Lib.hid hn
    have HP0 : Hid (L[0]? = some (L[0]'(by omega)) ∧ L[1]? = some (L[1]'(by omega))) := Lib.hid ⟨List.getElem?_eq_getElem _, List.getElem?_eq_getElem _⟩
    generalize hp0 : (L[0]'(by omega), L[1]'(by omega)) = p0 at HR
    have HP1 : Hid (L[0]? = some p0.1 ∧ L[1]? = some p0.2) := Lib.hid (by rw [← hp0]; exact HP0.out)
    clear hv D hn hp0 HP0
    go_enter Tryz.func46, Tryz.ntmps46
    go_wp2_with fail
    refine HV.out.mono ?_
    rintro e w1 ⟨rfl, hg⟩
    have G1 := Lib.hid hg
    clear hg HV
    go_wp2_with (go_at_call 45; refine (HK.out _).mono ?_; rintro e w' ⟨rfl, rfl⟩)
    clear HK
    go_loopw [7, 8, 9] (fun av bv iv wr => ∃ (i a b : Nat) (p : M.Item × M.Item), i ≤ n ∧ a < n ∧ b < n ∧ av = .int .i64 a ∧ bv = .int .i64 b ∧ iv = .int .i64 i ∧ Hid (L[a]? = some p.1 ∧ L[b]? = some p.2) ∧ Hid (M.cpOut kind L p0 = M.cpOut kind (L.drop i) p) ∧ w.grownBy wr none) (fun _ _ i _ => n - (intOf i).toNat)
    case atStart => exact ⟨0, 0, 1, p0, by omega, by omega, by omega, rfl, rfl, rfl, HP1, Lib.hid rfl, G1.out⟩
    case round =>
      obtain ⟨i, a, bb, p, hi, ha, hbb, rfl, rfl, rfl, HP, HE, hg⟩ := hrel
      have G := Lib.hid hg
      clear hg G1 HP1
      by_cases hlt : i < n
      · have hil : i < L.length := by rw [← HL.out]; exact hlt
        have HO := Lib.hid (M.cpOut_drop (kind := kind) hil p)
        have HXI : Hid (L[i]? = some L[i]) := Lib.hid (List.getElem?_eq_getElem hil)
        have HXM := Lib.hid (List.getElem_mem hil)
        generalize L[i] = x at *
        have kn : (i : Int) < n := by omega
        have k0 : (0 : Int) ≤ i := by omega
        go_wp2_with fail
        go_loopw [7, 8, 10] (fun av bv kv wr => ∃ (k a b : Nat) (q : M.Item × M.Item), k ≤ n ∧ a < n ∧ b < n ∧ av = .int .i64 a ∧ bv = .int .i64 b ∧ kv = .int .i64 k ∧ Hid (L[a]? = some q.1 ∧ L[b]? = some q.2) ∧ Hid (M.cpIn kind x (L.drop (i + 1)) p = M.cpIn kind x (L.drop k) q) ∧ w.grownBy wr none) (fun _ _ k _ => n - (intOf k).toNat)
        case atStart => exact ⟨i + 1, a, bb, p, by omega, by omega, by omega, rfl, rfl, by go_num, HP, Lib.hid rfl, G.out⟩
        case round =>
          obtain ⟨k, a, bb, q, hk, ha, hbb, rfl, rfl, rfl, HP, HF, hg⟩ := hrel
          have G := Lib.hid hg
          clear hg
          by_cases hltk : k < n
          · have hkl : k < L.length := by rw [← HL.out]; exact hltk
            have HY := Lib.hid (M.cpIn_drop (kind := kind) (x := x) hkl q)
            have HYI : Hid (L[k]? = some L[k]) := Lib.hid (List.getElem?_eq_getElem hkl)
            generalize L[k] = y at *
            obtain ⟨q1, q2⟩ := q
            have DD := HD.out.on G.out
            obtain ⟨_, Ax, cx, _, c0, _, hcx, rx⟩ := DD.1.parts HXI.out
            obtain ⟨_, Ay, cy, _, c1, _, hcy, ry⟩ := DD.1.parts HYI.out
            obtain ⟨_, Aa, ca, _, c2, _, hca, ra⟩ := DD.1.parts HP.out.1
            obtain ⟨_, Ab, cb, _, c3, _, hcb, rb⟩ := DD.1.parts HP.out.2
            have HC0 : Hid (∀ x' : Later wr, Calls Tryz.prog 69 #[.int .i64 kind, .slice Ax (x).pos.length cx, .slice Ay (y).pos.length cy] x'.w fun e w' => e = .returned (.int .i64 (M.dist kind (x).pos (y).pos)) ∧ x'.w.grownBy w' none) := Lib.hid fun x' => by
              have hx := HIS.out _ (List.mem_of_getElem? (And.intro rx HXI.out).2)
              have hy := HIS.out _ (List.mem_of_getElem? (And.intro ry HYI.out).2)
              have hrx := ((And.intro rx HXI.out).1.keep x'.h (Nat.le_refl _)).wide (Nat.le_refl _) x'.h.size
              have hry := ((And.intro ry HYI.out).1.keep x'.h (Nat.le_refl _)).wide (Nat.le_refl _) x'.h.size
              exact (specDist_any (kind := kind) (by rw [hx.2]; omega) (by rw [hx.2, hy.2]) hx.1 hy.1 (by omega) (by omega) hrx hry).mono (by rintro e w' ⟨rfl, q, rfl⟩; exact ⟨rfl, gb_drewN (gb_refl _ _) _⟩)
            have HC1 : Hid (∀ x' : Later wr, Calls Tryz.prog 69 #[.int .i64 kind, .slice Aa (q1).pos.length ca, .slice Ab (q2).pos.length cb] x'.w fun e w' => e = .returned (.int .i64 (M.dist kind (q1).pos (q2).pos)) ∧ x'.w.grownBy w' none) := Lib.hid fun x' => by
              have hx := HIS.out _ (List.mem_of_getElem? (And.intro ra HP.out.1).2)
              have hy := HIS.out _ (List.mem_of_getElem? (And.intro rb HP.out.2).2)
              have hrx := ((And.intro ra HP.out.1).1.keep x'.h (Nat.le_refl _)).wide (Nat.le_refl _) x'.h.size
              have hry := ((And.intro rb HP.out.2).1.keep x'.h (Nat.le_refl _)).wide (Nat.le_refl _) x'.h.size
              exact (specDist_any (kind := kind) (by rw [hx.2]; omega) (by rw [hx.2, hy.2]) hx.1 hy.1 (by omega) (by omega) hrx hry).mono (by rintro e w' ⟨rfl, q, rfl⟩; exact ⟨rfl, gb_drewN (gb_refl _ _) _⟩)
            have l0 : ∀ x' : Later wr, x'.w.cell? ⟨b, o + i * 3 + 1, none⟩ = some (.slice Ax x.pos.length cx) := fun x' => x'.cell c0
            have l1 : ∀ x' : Later wr, x'.w.cell? ⟨b, o + k * 3 + 1, none⟩ = some (.slice Ay y.pos.length cy) := fun x' => x'.cell c1
            have l2 : ∀ x' : Later wr, x'.w.cell? ⟨b, o + a * 3 + 1, none⟩ = some (.slice Aa q1.pos.length ca) := fun x' => x'.cell c2
            have l3 : ∀ x' : Later wr, x'.w.cell? ⟨b, o + bb * 3 + 1, none⟩ = some (.slice Ab q2.pos.length cb) := fun x' => x'.cell c3
            have an : (a : Int) < n := by omega
            have a0 : (0 : Int) ≤ a := by omega
            have bn : (bb : Int) < n := by omega
            have b0 : (0 : Int) ≤ bb := by omega
            have kkn : (k : Int) < n := by omega
            have kk0 : (0 : Int) ≤ k := by omega
            have HSTEP : Hid (M.cpIn kind x (L.drop (i + 1)) p = M.cpIn kind x (L.drop (k + 1)) (if M.dist kind x.pos y.pos < M.dist kind q1.pos q2.pos then (x, y) else (q1, q2))) := Lib.hid (by rw [HF.out, HY.out])
            clear DD rx ry ra rb c0 c1 c2 c3 hcx hcy hca hcb HF HY hkl
            generalize M.dist kind x.pos y.pos = d1 at *
            generalize M.dist kind q1.pos q2.pos = d2 at *
            generalize x.pos.length = n1 at *
            generalize y.pos.length = n2 at *
            generalize q1.pos.length = n3 at *
            generalize q2.pos.length = n4 at *
            by_cases hdd : d1 < d2
            · rw [if_pos hdd] at HSTEP
              go_wp2_with fail
              refine wp_region_later (by kernel_rfl) (by kernel_rfl) ?_
              repeat (go_big_quiet_step ((first | (go_at_call_of 69 Ax; exact later_call (HC0.out _)) | (go_at_call_of 69 Aa; exact later_call (HC1.out _)))))
              refine wpQuiet_nil ?_
              rintro _ ⟨xv, rfl⟩
              have GX := Lib.hid (gb_trans G.out xv.h)
              go_wp2_with fail
              go_roundw
              case rel => exact ⟨k + 1, i, k, (x, y), by omega, by omega, by omega, rfl, rfl, by go_num, Lib.hid ⟨HXI.out, HYI.out⟩, HSTEP, GX.out⟩
              case measure => simp [intOf]; omega
            · rw [if_neg hdd] at HSTEP
              go_wp2_with fail
              refine wp_region_later (by kernel_rfl) (by kernel_rfl) ?_
              repeat (go_big_quiet_step ((first | (go_at_call_of 69 Ax; exact later_call (HC0.out _)) | (go_at_call_of 69 Aa; exact later_call (HC1.out _)))))
              refine wpQuiet_nil ?_
              rintro _ ⟨xv, rfl⟩
              have GX := Lib.hid (gb_trans G.out xv.h)
              go_wp2_with fail
              go_roundw
              case rel => exact ⟨k + 1, a, bb, (q1, q2), by omega, by omega, by omega, rfl, rfl, by go_num, HP, HSTEP, GX.out⟩
              case measure => simp [intOf]; omega
          · obtain rfl : k = n := by omega
            have HQ : Hid (M.cpOut kind L p0 = M.cpOut kind (L.drop (i + 1)) q) := Lib.hid (by
              rw [HE.out, HO.out, HF.out]
              have hd : L.drop k = [] := List.drop_of_length_le (by rw [← HL.out]; exact Nat.le_refl _)
              rw [hd]
              rfl)
            go_wp2_with fail
            go_roundw
            case rel => exact ⟨i + 1, a, bb, q, by omega, by omega, by omega, rfl, rfl, by go_num, HP, HQ, G.out⟩
            case measure => simp [intOf]; omega
      · obtain rfl : i = n := by omega
        have HQ : Hid (M.closest L kind = some p) := Lib.hid (by
          rw [HR.out, HE.out]
          have hd : L.drop i = [] := List.drop_of_length_le (by rw [← HL.out]; exact Nat.le_refl _)
          rw [hd]
          rfl)
        obtain ⟨q1, q2⟩ := p
        have DD := HD.out.on G.out
        obtain ⟨_, Aa, ca, c2, _, _, hca, ra⟩ := DD.1.parts HP.out.1
        obtain ⟨_, Ab, cb, c3, _, _, hcb, rb⟩ := DD.1.parts HP.out.2
        have l2 : ∀ x' : Later wr, x'.w.cell? ⟨b, o + a * 3, none⟩ = some (.int .i64 q1.key) := fun x' => x'.cell c2
        have l3 : ∀ x' : Later wr, x'.w.cell? ⟨b, o + bb * 3, none⟩ = some (.int .i64 q2.key) := fun x' => x'.cell c3
        have an : (a : Int) < i := by omega
        have a0 : (0 : Int) ≤ a := by omega
        have bn : (bb : Int) < i := by omega
        have b0 : (0 : Int) ≤ bb := by omega
        clear DD ra rb c2 c3 hca hcb
        go_wp2_with fail
        refine wp_region_later (by kernel_rfl) (by kernel_rfl) ?_
        repeat (go_big_quiet_step ((fail)))
        refine wpQuiet_nil ?_
        rintro _ ⟨xv, rfl⟩
        have GX := Lib.hid (gb_trans G.out xv.h)
        go_wp2_with fail
        go_ret3
        exact PairGot.some_ HQ.out GX.out
end Go.Proofs.YtibbpbbgmgdpdaaGreatDoor

namespace Go.Proofs.YtibbpbbgmgdpdaaGreatDoor
open Go.RowKit
set_option linter.unusedVariables false
set_option linter.unusedSimpArgs false
set_option maxRecDepth 100000

/-- an item in a box of its own -/
def BoxI (w : World) (H g : Nat) (y : M.Item) : Prop := H ≤ g ∧ ∃ A c, Row w g 59 [.int .i64 y.key, .slice A y.pos.length c, .int .i64 y.tags] ∧ Rd w 0 H A (y.pos.map (.int .i64))
theorem BoxI.on {w w' : World} {H g : Nat} {y : M.Item} (h : BoxI w H g y) (hH : H ≤ w.heap.size) (hg : w.grownBy w' none) : BoxI w' H g y := by
  obtain ⟨h1, A, c, hr, hd⟩ := h
  exact ⟨h1, A, c, hr.grown hg (by simp), hd.agree (fun b _ hb => (Agree.of_grown hg) b (Nat.zero_le _) (by omega))⟩
theorem BoxI.far {w : World} {H g g' i : Nat} {y : M.Item} (h : BoxI w H g y) (hH : H ≤ g') (hne : g ≠ g') (u : Value) : BoxI (w.setCell ⟨g', i, none⟩ u) H g y := by
  obtain ⟨h1, A, c, hr, hd⟩ := h
  exact ⟨h1, A, c, hr.far (p := ⟨g', i, none⟩) hne u, hd.agree (fun b _ hb => Below.heap_setCell w ⟨g', i, none⟩ u b (by show b ≠ g'; omega))⟩
theorem BoxI.new {w : World} {H : Nat} {y : M.Item} {A : Option Addr} {c : Nat} (hH : H ≤ w.heap.size) (hd : Rd w 0 H A (y.pos.map (.int .i64))) : BoxI (w.alloc (.cells #[.int .i64 y.key, .slice A y.pos.length c, .int .i64 y.tags] 59)) H w.heap.size y :=
  ⟨hH, A, c, Row.new w _ rfl, hd.agree (fun b _ hb => Below.heap_alloc w _ b (by omega))⟩
/-- stores into a box -/
theorem Rd.setBox {w : World} {H g i : Nat} {A : Option Addr} {xs : List Value} (h : Rd w 0 H A xs) (hH : H ≤ g) (u : Value) : Rd (w.setCell ⟨g, i, none⟩ u) 0 H A xs :=
  h.agree (fun b _ hb => Below.heap_setCell w ⟨g, i, none⟩ u b (by show b ≠ g; omega))
theorem BoxI.put {w : World} {H g : Nat} {y : M.Item} {A : Option Addr} {c : Nat} {a0 a1 a2 : Value} (hH : H ≤ g) (h : Row w g 59 [a0, a1, a2]) (hd : Rd w 0 H A (y.pos.map (.int .i64))) :
    BoxI (((w.setCell ⟨g, 0, none⟩ (.int .i64 y.key)).setCell ⟨g, 1, none⟩ (.slice A y.pos.length c)).setCell ⟨g, 2, none⟩ (.int .i64 y.tags)) H g y :=
  ⟨hH, A, c, ((h.set_ 0 _).set_ 1 _).set_ 2 _, ((hd.setBox hH _).setBox hH _).setBox hH _⟩
theorem Row.set3 {w : World} {g g' : Nat} {cs : List Value} {t : TypeId} (h : Row w g t cs) (hne : g ≠ g') (a b c : Value) : Row (((w.setCell ⟨g', 0, none⟩ a).setCell ⟨g', 1, none⟩ b).setCell ⟨g', 2, none⟩ c) g t cs :=
  ((h.far (p := ⟨g', 0, none⟩) hne a).far (p := ⟨g', 1, none⟩) hne b).far (p := ⟨g', 2, none⟩) hne c
theorem BoxI.far3 {w : World} {H g g' : Nat} {y : M.Item} (h : BoxI w H g y) (hH : H ≤ g') (hne : g ≠ g') (a b c : Value) : BoxI (((w.setCell ⟨g', 0, none⟩ a).setCell ⟨g', 1, none⟩ b).setCell ⟨g', 2, none⟩ c) H g y :=
  ((h.far hH hne a).far hH hne b).far hH hne c
theorem Rd.setBox3 {w : World} {H g : Nat} {A : Option Addr} {xs : List Value} (h : Rd w 0 H A xs) (hH : H ≤ g) (a b c : Value) : Rd (((w.setCell ⟨g, 0, none⟩ a).setCell ⟨g, 1, none⟩ b).setCell ⟨g, 2, none⟩ c) 0 H A xs :=
  ((h.setBox hH a).setBox hH b).setBox hH c
theorem BoxI.drew {w : World} {H g : Nat} {y : M.Item} (h : BoxI w H g y) : BoxI w.drew H g y := h
theorem two_boxes {w : World} {q1 q2 : M.Item} {A1 A2 : Option Addr} {c1 c2 : Nat} (h1 : Rd w 0 w.heap.size A1 (q1.pos.map (.int .i64))) (h2 : Rd w 0 w.heap.size A2 (q2.pos.map (.int .i64))) :
    BoxI (((w.alloc (.cells #[.int .i64 q1.key, .slice A1 q1.pos.length c1, .int .i64 q1.tags] 59)).alloc (.cells #[.int .i64 q2.key, .slice A2 q2.pos.length c2, .int .i64 q2.tags] 59)).drew) w.heap.size w.heap.size q1 ∧
    BoxI (((w.alloc (.cells #[.int .i64 q1.key, .slice A1 q1.pos.length c1, .int .i64 q1.tags] 59)).alloc (.cells #[.int .i64 q2.key, .slice A2 q2.pos.length c2, .int .i64 q2.tags] 59)).drew) w.heap.size (w.heap.size + 1) q2 ∧
    w.grownBy (((w.alloc (.cells #[.int .i64 q1.key, .slice A1 q1.pos.length c1, .int .i64 q1.tags] 59)).alloc (.cells #[.int .i64 q2.key, .slice A2 q2.pos.length c2, .int .i64 q2.tags] 59)).drew) none := by
  have hg := World.grownBy_alloc w (.cells #[.int .i64 q1.key, .slice A1 q1.pos.length c1, .int .i64 q1.tags] 59) none
  have hs : (w.alloc (.cells #[.int .i64 q1.key, .slice A1 q1.pos.length c1, .int .i64 q1.tags] 59)).heap.size = w.heap.size + 1 := by simp
  have h2' : Rd (w.alloc (.cells #[.int .i64 q1.key, .slice A1 q1.pos.length c1, .int .i64 q1.tags] 59)) 0 w.heap.size A2 (q2.pos.map (.int .i64)) := h2.agree (Agree.of_grown hg)
  have hn := BoxI.new (H := w.heap.size) (y := q2) (c := c2) hg.size h2'
  rw [hs] at hn
  exact ⟨BoxI.drew ((BoxI.new (Nat.le_refl _) h1).on hg.size (World.grownBy_alloc _ _ none)), BoxI.drew hn, gb_drew (gb_alloc hg _)⟩
theorem gb_set3 {a b : World} {g : Nat} (h : a.grownBy b none) (hg : a.heap.size ≤ g) (x y z : Value) : a.grownBy (((b.setCell ⟨g, 0, none⟩ x).setCell ⟨g, 1, none⟩ y).setCell ⟨g, 2, none⟩ z) none :=
  gb_setCell (gb_setCell (gb_setCell h (p := ⟨g, 0, none⟩) (.inl hg) x) (p := ⟨g, 1, none⟩) (.inl hg) y) (p := ⟨g, 2, none⟩) (.inl hg) z
set_option maxHeartbeats 2000000 in
theorem ClosestPair_impl {w : World} {A : Option Addr} {c : Nat} {L : List M.Item} {kind : Int} (D : SeesI w A L) (hlc : L.length ≤ c) (hv : M.validStore L = true) (hk1 : 1 ≤ kind) (hk2 : kind ≤ 4) :
    Calls Tryz.prog 38 #[.slice A L.length c, .int .i64 kind] w (PairGot w (M.closest L kind)) := by
  have HV := Lib.hid (vs_impl (c := c) D)
  rw [hv] at HV
  have HK := Lib.hid (fun W => isKind_any kind W)
  rw [M.inR_of hk1 hk2] at HK
  have hl16 := (M.validStore_of hv).1
  have HIS := Lib.hid (fun x hx => (M.item_of hv (x := x) hx).2.1)
  have HD := Lib.hid D
  by_cases hl2 : L.length < 2
  · have HR := Lib.hid (M.closest_none (kind := kind) hl2)
    clear hv D
    have hl2' : (L.length : Int) < 2 := by omega
    generalize L.length = n at *
    go_enter Tryz.func38, Tryz.ntmps38
    go_wp2_with fail
    refine HV.out.mono ?_
    rintro e w1 ⟨rfl, hg⟩
    have G := Lib.hid hg
    clear hg
    go_wp2_with (go_at_call 37; refine (HK.out _).mono ?_; rintro e w' ⟨rfl, rfl⟩)
    go_ret3
    exact PairGot.none_ HR.out G.out
  · have HR := Lib.hid (M.closest_some (kind := kind) (show 2 ≤ L.length by omega))
    obtain ⟨b, o, rfl⟩ := D.1.base (by omega)
    obtain ⟨n, hn⟩ : ∃ n, n = L.length := ⟨_, rfl⟩
    rw [← hn] at hl16 hl2 HV hlc ⊢
    have hl2' : ¬ (n : Int) < 2 := by omega
    have HL := Lib.hid hn
    have HP0 : Hid (L[0]? = some (L[0]'(by omega)) ∧ L[1]? = some (L[1]'(by omega))) := Lib.hid ⟨List.getElem?_eq_getElem _, List.getElem?_eq_getElem _⟩
    generalize hp0 : (L[0]'(by omega), L[1]'(by omega)) = p0 at HR
    have HP1 : Hid (L[0]? = some p0.1 ∧ L[1]? = some p0.2) := Lib.hid (by rw [← hp0]; exact HP0.out)
    clear hv D hn hp0 HP0
    go_enter Tryz.func38, Tryz.ntmps38
    go_wp2_with fail
    refine HV.out.mono ?_
    rintro e w1 ⟨rfl, hg⟩
    have G1 := Lib.hid hg
    clear hg HV
    have DD := HD.out.on G1.out
    obtain ⟨q1, q2⟩ := p0
    obtain ⟨hb, Aa, ca, a0, a1, a2, hca, ra⟩ := DD.1.parts HP1.out.1
    obtain ⟨_, Ab, cb, b0, b1, b2, hcb, rb⟩ := DD.1.parts HP1.out.2
    have RA := Lib.hid ra
    have RB := Lib.hid rb
    clear DD ra rb
    simp only [Nat.zero_mul, Nat.one_mul, Nat.add_zero] at a0 a1 a2 b0 b1 b2
    have n1 : (1 : Int) < n := by omega
    have n0 : (0 : Int) < n := by omega
    go_wp2_with (go_at_call 37; refine (HK.out _).mono ?_; rintro e w' ⟨rfl, rfl⟩)
    clear HK
    go_region
    · go_wp2_with fail
      refine wp_name (fun V => BoxI V w1.heap.size (w1.heap.size) q1 ∧ BoxI V w1.heap.size (w1.heap.size + 1) q2 ∧ w1.grownBy V none) (two_boxes RA.out RB.out) ?_
      rintro W ⟨hB1, hB2, hgW⟩
      have HB1 := Lib.hid hB1
      have HB2 := Lib.hid hB2
      have GW := Lib.hid hgW
      have HSW := Lib.hid hgW.size
      have HD1 := Lib.hid (HD.out.on G1.out).1
      have HSZ := Lib.hid (show w1.heap.size < w1.heap.size + 1 from Nat.lt_succ_self _)
      clear hB1 hB2 hgW RA RB a0 a1 a2 b0 b1 b2 hca hcb
      generalize w1.heap.size + 1 = g1 at *
      generalize hg0 : w1.heap.size = g0 at *
      have HG0 := Lib.hid hg0
      clear hg0
      go_wp2_with fail
      go_loopw [34] (fun iv wr => ∃ (i : Nat) (p : M.Item × M.Item), i ≤ n ∧ iv = .int .i64 i ∧ Hid (BoxI wr g0 g0 p.1 ∧ BoxI wr g0 g1 p.2) ∧ Hid (p.1 ∈ L ∧ p.2 ∈ L) ∧ Hid (M.cpOut kind L (q1, q2) = M.cpOut kind (L.drop i) p) ∧ w1.grownBy wr none) (fun i _ => n - (intOf i).toNat)
      case atStart => exact ⟨0, (q1, q2), Nat.zero_le _, rfl, Lib.hid ⟨HB1.out, HB2.out⟩, Lib.hid ⟨List.mem_of_getElem? HP1.out.1, List.mem_of_getElem? HP1.out.2⟩, Lib.hid rfl, GW.out⟩
      case round =>
        obtain ⟨i, p, hi, rfl, HBX, HP, HE, hg⟩ := hrel
        have G := Lib.hid hg
        have hsw : g0 ≤ wr.heap.size := by have := hg.size; have := HG0.out; omega
        clear hg
        by_cases hlt : i < n
        · have hil : i < L.length := by rw [← HL.out]; exact hlt
          have HO := Lib.hid (M.cpOut_drop (kind := kind) hil p)
          have HXI : Hid (L[i]? = some L[i]) := Lib.hid (List.getElem?_eq_getElem hil)
          have HXM := Lib.hid (List.getElem_mem hil)
          generalize L[i] = x at *
          have HAG := Lib.hid (show Agree 0 g0 w1 wr from HG0.out ▸ Agree.of_grown G.out)
          have DD := HD1.out.agree HAG.out
          obtain ⟨_, Ax, cx, c0, c1, c2, hcx, rx⟩ := DD.parts HXI.out
          have kn : (i : Int) < n := by omega
          have k0 : (0 : Int) ≤ i := by omega
          have ki : (i : Int) + 1 ≤ n := by omega
          have kc : (i : Int) + 1 ≤ c := by omega
          clear DD
          have RX := Lib.hid rx
          clear rx hcx
          have HGX := Lib.hid (BoxI.new (y := x) (c := cx) hsw RX.out)
          by_cases hin : i + 1 < n
          · obtain ⟨m, hm⟩ : ∃ m, n - (i + 1) = m := ⟨_, rfl⟩
            have HMM : Hid (n = i + 1 + m) := Lib.hid (by omega)
            have hci : ¬ c = i + 1 := by omega
            have hci2 : ¬ i + 1 = c := by omega
            have HBA := Lib.hid (HBX.out.1.on hsw (World.grownBy_alloc wr (.cells #[.int .i64 x.key, .slice Ax x.pos.length cx, .int .i64 x.tags] 59) none))
            have HBB := Lib.hid (HBX.out.2.on hsw (World.grownBy_alloc wr (.cells #[.int .i64 x.key, .slice Ax x.pos.length cx, .int .i64 x.tags] 59) none))
            have HLT := Lib.hid (show g0 < wr.heap.size ∧ g1 < wr.heap.size from ⟨by obtain ⟨_, _, _, h, _⟩ := HBX.out.1; exact h.lt, by obtain ⟨_, _, _, h, _⟩ := HBX.out.2; exact h.lt⟩)
            have GA := Lib.hid (gb_alloc G.out (.cells #[.int .i64 x.key, .slice Ax x.pos.length cx, .int .i64 x.tags] 59))
            clear HBX
            go_wp2_with fail
            generalize wr.heap.size = gx at *
            go_loopw [44] (fun jv wq => ∃ (j : Nat) (q : M.Item × M.Item), j ≤ m ∧ jv = .int .i64 j ∧ Hid (BoxI wq g0 g0 q.1 ∧ BoxI wq g0 g1 q.2 ∧ BoxI wq g0 gx x) ∧ Hid (q.1 ∈ L ∧ q.2 ∈ L) ∧ Hid (M.cpIn kind x (L.drop (i + 1)) p = M.cpIn kind x (L.drop (i + 1 + j)) q) ∧ w1.grownBy wq none) (fun j _ => m - (intOf j).toNat)
            case atStart => exact ⟨0, p, Nat.zero_le _, rfl, Lib.hid ⟨HBA.out, HBB.out, HGX.out⟩, HP, Lib.hid rfl, GA.out⟩
            case round =>
              clear HBA HBB HGX GA HP c0 c1 c2 RX HAG
              obtain ⟨j, q, hj, rfl, HQB, HP, HF, hg⟩ := hrel
              have GQ := Lib.hid hg
              have hsq : g0 ≤ wr.heap.size := by have := hg.size; have := HG0.out; omega
              clear hg
              obtain ⟨p1, p2⟩ := q
              by_cases hltj : j < m
              · have hkl : i + 1 + j < L.length := by rw [← HL.out, HMM.out]; omega
                have HY := Lib.hid (M.cpIn_drop (kind := kind) (x := x) hkl (p1, p2))
                have HYI : Hid (L[i + 1 + j]? = some L[i + 1 + j]) := Lib.hid (List.getElem?_eq_getElem hkl)
                have HYM := Lib.hid (List.getElem_mem hkl)
                generalize L[i + 1 + j] = y at *
                have HAG := Lib.hid (show Agree 0 g0 w1 wr from HG0.out ▸ Agree.of_grown GQ.out)
                have DD := HD1.out.agree HAG.out
                obtain ⟨_, Ay, cy, e0, e1, e2, hcy, ry⟩ := DD.parts HYI.out
                rw [show o + (i + 1 + j) * 3 = o + (i + 1) * 3 + j * 3 by omega] at e0 e1 e2
                obtain ⟨⟨_, Aa, ca, r1, ra⟩, ⟨_, Ab, cb, r2, rb⟩, ⟨hgx, Ax', cx', r3, rx⟩⟩ := HQB.out
                have jn : (j : Int) < m := by omega
                have j0 : (0 : Int) ≤ j := by omega
                have RA := Lib.hid ra
                have RB := Lib.hid rb
                have RX := Lib.hid rx
                have RY := Lib.hid ry
                have R1 := Lib.hid (r1.alloc (.cells #[.int .i64 y.key, .slice Ay y.pos.length cy, .int .i64 y.tags] 59))
                have R2 := Lib.hid (r2.alloc (.cells #[.int .i64 y.key, .slice Ay y.pos.length cy, .int .i64 y.tags] 59))
                have R3 := Lib.hid (r3.alloc (.cells #[.int .i64 y.key, .slice Ay y.pos.length cy, .int .i64 y.tags] 59))
                have R4 := Lib.hid (Row.new wr 59 (ca := #[.int .i64 y.key, .slice Ay y.pos.length cy, .int .i64 y.tags]) (cs := [.int .i64 y.key, .slice Ay y.pos.length cy, .int .i64 y.tags]) rfl)
                have hl3 := r3.lt
                clear DD ra rb rx ry r1 r2 r3 hcy
                have x1 := R3.out.cell 1
                have y1 := R4.out.cell 1
                have z1 := R1.out.cell 1
                have u1 := R2.out.cell 1
                simp only [List.getElem?_cons_zero, List.getElem?_cons_succ] at x1 y1 z1 u1
                go_wp2_with fail
                obtain ⟨V, hV⟩ : ∃ V : World, V = wr.alloc (.cells #[.int .i64 y.key, .slice Ay y.pos.length cy, .int .i64 y.tags] 59) := ⟨_, rfl⟩
                have GV := Lib.hid (hV ▸ World.grownBy_alloc wr (.cells #[.int .i64 y.key, .slice Ay y.pos.length cy, .int .i64 y.tags] 59) none)
                rw [← hV] at R1 R2 R3 R4 x1 y1 z1 u1 ⊢
                have HAV : Hid (∀ x' : Later V, Agree 0 g0 wr x'.w) := Lib.hid fun x' b h1 h2 => (Agree.of_grown (gb_trans GV.out x'.h)) b h1 (by omega)
                have HC0 : Hid (∀ x' : Later V, Calls Tryz.prog 55 #[.int .i64 kind, .slice Ax' x.pos.length cx', .slice Ay y.pos.length cy] x'.w fun e w' => e = .returned (.int .i64 (M.dist kind x.pos y.pos)) ∧ x'.w.grownBy w' none) := Lib.hid fun x' => distance_any (HIS.out _ HXM.out) (HIS.out _ HYM.out) (RX.out.agree (HAV.out x')) (RY.out.agree (HAV.out x'))
                have HC1 : Hid (∀ x' : Later V, Calls Tryz.prog 55 #[.int .i64 kind, .slice Aa p1.pos.length ca, .slice Ab p2.pos.length cb] x'.w fun e w' => e = .returned (.int .i64 (M.dist kind p1.pos p2.pos)) ∧ x'.w.grownBy w' none) := Lib.hid fun x' => distance_any (HIS.out _ HP.out.1) (HIS.out _ HP.out.2) (RA.out.agree (HAV.out x')) (RB.out.agree (HAV.out x'))
                have l0 : ∀ x' : Later V, x'.w.cell? ⟨gx, 1, none⟩ = some (.slice Ax' x.pos.length cx') := fun x' => x'.cell x1
                have l1 : ∀ x' : Later V, x'.w.cell? ⟨wr.heap.size, 1, none⟩ = some (.slice Ay y.pos.length cy) := fun x' => x'.cell y1
                have l2 : ∀ x' : Later V, x'.w.cell? ⟨g0, 1, none⟩ = some (.slice Aa p1.pos.length ca) := fun x' => x'.cell z1
                have l3 : ∀ x' : Later V, x'.w.cell? ⟨g1, 1, none⟩ = some (.slice Ab p2.pos.length cb) := fun x' => x'.cell u1
                have HSTEP : Hid (M.cpIn kind x (L.drop (i + 1)) p = M.cpIn kind x (L.drop (i + 1 + (j + 1))) (if M.dist kind x.pos y.pos < M.dist kind p1.pos p2.pos then (x, y) else (p1, p2))) := Lib.hid (by rw [HF.out, HY.out]; rfl)
                have HRX : Hid (∀ W', wr.grownBy W' none → Rd W' 0 g0 Ax' (x.pos.map (.int .i64))) := Lib.hid fun W' h => RX.out.agree (fun b h1 h2 => (Agree.of_grown h) b h1 (by omega))
                have HRY : Hid (∀ W', wr.grownBy W' none → Rd W' 0 g0 Ay (y.pos.map (.int .i64))) := Lib.hid fun W' h => RY.out.agree (fun b h1 h2 => (Agree.of_grown h) b h1 (by omega))
                have HRA : Hid (∀ W', wr.grownBy W' none → Rd W' 0 g0 Aa (p1.pos.map (.int .i64))) := Lib.hid fun W' h => RA.out.agree (fun b h1 h2 => (Agree.of_grown h) b h1 (by omega))
                have HRB : Hid (∀ W', wr.grownBy W' none → Rd W' 0 g0 Ab (p2.pos.map (.int .i64))) := Lib.hid fun W' h => RB.out.agree (fun b h1 h2 => (Agree.of_grown h) b h1 (by omega))
                have HG1 := Lib.hid (gb_trans GQ.out GV.out)
                clear x1 y1 z1 u1 HF HY RX RY RA RB hV e0 e1 e2 hkl
                obtain ⟨d1, hd1⟩ : ∃ d, d = M.dist kind x.pos y.pos := ⟨_, rfl⟩
                obtain ⟨d2, hd2⟩ : ∃ d, d = M.dist kind p1.pos p2.pos := ⟨_, rfl⟩
                rw [← hd1] at HC0 HSTEP
                rw [← hd2] at HC1 HSTEP
                clear hd1 hd2
                by_cases hdd : d1 < d2
                · rw [if_pos hdd] at HSTEP
                  refine wp_region_later (by kernel_rfl) (by kernel_rfl) ?_
                  repeat (go_big_quiet_step ((first | (go_at_call_of 55 Ax'; exact later_call (HC0.out _)) | (go_at_call_of 55 Aa; exact later_call (HC1.out _)))))
                  refine wpQuiet_nil ?_
                  rintro _ ⟨xv, rfl⟩
                  have GX := Lib.hid xv.h
                  generalize xv.w = V2 at *
                  have S1 := Lib.hid (R1.out.grown GX.out (by simp))
                  have S2 := Lib.hid (R2.out.grown GX.out (by simp))
                  have S3 := Lib.hid (R3.out.grown GX.out (by simp))
                  have S4 := Lib.hid (R4.out.grown GX.out (by simp))
                  have c30 := S3.out.cell 0
                  have c31 := S3.out.cell 1
                  have c32 := S3.out.cell 2
                  have c40 := S4.out.cell 0
                  have c41 := S4.out.cell 1
                  have c42 := S4.out.cell 2
                  have c10 := S1.out.cell 0
                  have c11 := S1.out.cell 1
                  have c12 := S1.out.cell 2
                  have c20 := S2.out.cell 0
                  have c21 := S2.out.cell 1
                  have c22 := S2.out.cell 2
                  simp only [List.getElem?_cons_zero, List.getElem?_cons_succ] at c30 c31 c32 c40 c41 c42 c10 c11 c12 c20 c21 c22
                  have f10 := S1.out.frozen 0
                  have f11 := S1.out.frozen 1
                  have f12 := S1.out.frozen 2
                  have f20 := S2.out.frozen 0
                  have f21 := S2.out.frozen 1
                  have f22 := S2.out.frozen 2
                  clear R1 R2 R3 R4 l0 l1 l2 l3 HC0 HC1
                  have hs1 := HLT.out.1
                  have hs2 := HLT.out.2
                  have hs3 := HSZ.out
                  have v1 : ¬ g0 = g1 := by omega
                  have v2 : ¬ g1 = g0 := by omega
                  have v3 : ¬ g0 = gx := by omega
                  have v4 : ¬ gx = g0 := by omega
                  have v5 : ¬ g1 = gx := by omega
                  have v6 : ¬ gx = g1 := by omega
                  have v7 : ¬ g0 = wr.heap.size := by omega
                  have v8 : ¬ wr.heap.size = g0 := by omega
                  have v9 : ¬ g1 = wr.heap.size := by omega
                  have v10 : ¬ wr.heap.size = g1 := by omega
                  go_wp2_with fail
                  go_region
                  go_wp2_with fail
                  have hgg : g0 ≤ g1 := by omega
                  have hga : g0 ≤ g0 := by omega
                  have hgb : g0 ≤ g1 := by omega
                  have hw0 := HG0.out
                  have hRX := HRX.out _ (gb_trans GV.out GX.out)
                  have hRY := HRY.out _ (gb_trans GV.out GX.out)
                  go_roundw
                  case rel =>
                    refine ⟨j + 1, (x, y), by omega, by go_num, Lib.hid ⟨?_, ?_, ?_⟩, Lib.hid ⟨HXM.out, HYM.out⟩, HSTEP, gb_drew (gb_set3 (gb_set3 (gb_trans HG1.out GX.out) (by omega) _ _ _) (by omega) _ _ _)⟩
                    · refine BoxI.drew ?_
                      exact BoxI.far3 (BoxI.put hga S1.out hRX) hgb (by omega) _ _ _
                    · refine BoxI.drew ?_
                      exact BoxI.put hgb (Row.set3 S2.out (by omega) _ _ _) (Rd.setBox3 hRY hga _ _ _)
                    · refine BoxI.drew ?_
                      exact BoxI.far3 (BoxI.far3 ⟨by omega, Ax', cx', S3.out, hRX⟩ hga (by omega) _ _ _) hgb (by omega) _ _ _
                  case measure => simp [intOf]; omega
                · rw [if_neg hdd] at HSTEP
                  refine wp_region_later (by kernel_rfl) (by kernel_rfl) ?_
                  repeat (go_big_quiet_step ((first | (go_at_call_of 55 Ax'; exact later_call (HC0.out _)) | (go_at_call_of 55 Aa; exact later_call (HC1.out _)))))
                  refine wpQuiet_nil ?_
                  rintro _ ⟨xv, rfl⟩
                  have GX := Lib.hid xv.h
                  generalize xv.w = V2 at *
                  have S1 := Lib.hid (R1.out.grown GX.out (by simp))
                  have S2 := Lib.hid (R2.out.grown GX.out (by simp))
                  have S3 := Lib.hid (R3.out.grown GX.out (by simp))
                  clear R1 R2 R3 R4 l0 l1 l2 l3 HC0 HC1
                  go_wp2_with fail
                  have hs1 := HLT.out.1
                  have hs3 := HSZ.out
                  have hga : g0 ≤ g0 := by omega
                  have hgb : g0 ≤ g1 := by omega
                  go_roundw
                  case rel => exact ⟨j + 1, (p1, p2), by omega, by go_num, Lib.hid ⟨⟨hga, Aa, ca, S1.out, HRA.out _ (gb_trans GV.out GX.out)⟩, ⟨hgb, Ab, cb, S2.out, HRB.out _ (gb_trans GV.out GX.out)⟩, ⟨hgx, Ax', cx', S3.out, HRX.out _ (gb_trans GV.out GX.out)⟩⟩, HP, HSTEP, gb_trans HG1.out GX.out⟩
                  case measure => simp [intOf]; omega
              · obtain rfl : j = m := by omega
                have HQ : Hid (M.cpOut kind L (q1, q2) = M.cpOut kind (L.drop (i + 1)) (p1, p2)) := Lib.hid (by
                  rw [HE.out, HO.out, HF.out]
                  have hd : L.drop (i + 1 + j) = [] := List.drop_of_length_le (by rw [← HL.out, HMM.out]; exact Nat.le_refl _)
                  rw [hd]
                  rfl)
                go_wp2_with fail
                go_roundw
                case rel => exact ⟨i + 1, (p1, p2), by omega, by go_num, Lib.hid ⟨HQB.out.1, HQB.out.2.1⟩, HP, HQ, GQ.out⟩
                case measure => simp [intOf]; omega
          · have HQ : Hid (M.cpOut kind L (q1, q2) = M.cpOut kind (L.drop (i + 1)) p) := Lib.hid (by
              rw [HE.out, HO.out]
              have hd : L.drop (i + 1) = [] := List.drop_of_length_le (by rw [← HL.out]; omega)
              rw [hd]
              rfl)
            have hni : n - (i + 1) = 0 := by omega
            have HBA := Lib.hid (HBX.out.1.on hsw (World.grownBy_alloc wr (.cells #[.int .i64 x.key, .slice Ax x.pos.length cx, .int .i64 x.tags] 59) none))
            have HBB := Lib.hid (HBX.out.2.on hsw (World.grownBy_alloc wr (.cells #[.int .i64 x.key, .slice Ax x.pos.length cx, .int .i64 x.tags] 59) none))
            have GA := Lib.hid (gb_alloc G.out (.cells #[.int .i64 x.key, .slice Ax x.pos.length cx, .int .i64 x.tags] 59))
            obtain ⟨A2, c2, hsl⟩ : ∃ A2 c2, ∀ W, (Instr.slice 41 (.slice (some ⟨b, o, none⟩) n c) (some (.int .i64 ((i : Int) + 1))) none none).run Tryz.prog W = .ok (.slice A2 0 c2) W := by
              refine ⟨if c = i + 1 then some ⟨b, o, none⟩ else (some (⟨b, o, none⟩ : Addr)).map (·.add ((i + 1) * 3)), c - (i + 1), fun W => ?_⟩
              rw [run_slice_l W 41 _ _ _ Tryz.underlying41 .i64 _ (by omega) (by omega), ← hni]
              have e : ((i : Int) + 1).toNat = i + 1 := by omega
              rw [e]
              rfl
            go_wp2_with fail
            all_goals
              go_loopw [44] (fun jv wq => jv = .int .i64 0 ∧ Hid (BoxI wq g0 g0 p.1 ∧ BoxI wq g0 g1 p.2) ∧ w1.grownBy wq none) (fun j _ => 1)
              case atStart => exact ⟨rfl, Lib.hid ⟨HBA.out, HBB.out⟩, GA.out⟩
              case round =>
                obtain ⟨rfl, HQB, hg⟩ := hrel
                have GQ := Lib.hid hg
                clear hg
                go_wp2_with fail
                go_roundw
                case rel => exact ⟨i + 1, p, by omega, by go_num, HQB, HP, HQ, GQ.out⟩
                case measure => simp [intOf]; omega
        · obtain rfl : i = n := by omega
          have HQ : Hid (M.closest L kind = some p) := Lib.hid (by
            rw [HR.out, HE.out]
            have hd : L.drop i = [] := List.drop_of_length_le (by rw [← HL.out]; exact Nat.le_refl _)
            rw [hd]
            rfl)
          obtain ⟨p1, p2⟩ := p
          obtain ⟨⟨_, A1, e1, r1, _⟩, ⟨_, A2, e2, r2, _⟩⟩ := HBX.out
          have c10 := r1.cell 0
          have c20 := r2.cell 0
          simp only [List.getElem?_cons_zero] at c10 c20
          have l2 : ∀ x' : Later wr, x'.w.cell? ⟨g0, 0, none⟩ = some (.int .i64 p1.key) := fun x' => x'.cell c10
          have l3 : ∀ x' : Later wr, x'.w.cell? ⟨g1, 0, none⟩ = some (.int .i64 p2.key) := fun x' => x'.cell c20
          clear r1 r2 c10 c20
          go_wp2_with fail
          refine wp_region_later (by kernel_rfl) (by kernel_rfl) ?_
          repeat (go_big_quiet_step ((fail)))
          refine wpQuiet_nil ?_
          rintro _ ⟨xv, rfl⟩
          have GX := Lib.hid (gb_trans (gb_trans G1.out G.out) xv.h)
          go_wp2_with fail
          go_ret3
          exact PairGot.some_ HQ.out GX.out
    · go_wp2_with fail
      refine wp_name (fun V => BoxI V w1.heap.size (w1.heap.size + 1) q1 ∧ BoxI V w1.heap.size (w1.heap.size) q2 ∧ w1.grownBy V none) (let h := two_boxes RB.out RA.out; ⟨h.2.1, h.1, h.2.2⟩) ?_
      rintro W ⟨hB1, hB2, hgW⟩
      have HB1 := Lib.hid hB1
      have HB2 := Lib.hid hB2
      have GW := Lib.hid hgW
      have HSW := Lib.hid hgW.size
      have HD1 := Lib.hid (HD.out.on G1.out).1
      have HSZ := Lib.hid (show w1.heap.size < w1.heap.size + 1 from Nat.lt_succ_self _)
      clear hB1 hB2 hgW RA RB a0 a1 a2 b0 b1 b2 hca hcb
      generalize w1.heap.size + 1 = g1 at *
      generalize hg0 : w1.heap.size = g0 at *
      have HG0 := Lib.hid hg0
      clear hg0
      go_wp2_with fail
      go_loopw [34] (fun iv wr => ∃ (i : Nat) (p : M.Item × M.Item), i ≤ n ∧ iv = .int .i64 i ∧ Hid (BoxI wr g0 g1 p.1 ∧ BoxI wr g0 g0 p.2) ∧ Hid (p.1 ∈ L ∧ p.2 ∈ L) ∧ Hid (M.cpOut kind L (q1, q2) = M.cpOut kind (L.drop i) p) ∧ w1.grownBy wr none) (fun i _ => n - (intOf i).toNat)
      case atStart => exact ⟨0, (q1, q2), Nat.zero_le _, rfl, Lib.hid ⟨HB1.out, HB2.out⟩, Lib.hid ⟨List.mem_of_getElem? HP1.out.1, List.mem_of_getElem? HP1.out.2⟩, Lib.hid rfl, GW.out⟩
      case round =>
        obtain ⟨i, p, hi, rfl, HBX, HP, HE, hg⟩ := hrel
        have G := Lib.hid hg
        have hsw : g0 ≤ wr.heap.size := by have := hg.size; have := HG0.out; omega
        clear hg
        by_cases hlt : i < n
        · have hil : i < L.length := by rw [← HL.out]; exact hlt
          have HO := Lib.hid (M.cpOut_drop (kind := kind) hil p)
          have HXI : Hid (L[i]? = some L[i]) := Lib.hid (List.getElem?_eq_getElem hil)
          have HXM := Lib.hid (List.getElem_mem hil)
          generalize L[i] = x at *
          have HAG := Lib.hid (show Agree 0 g0 w1 wr from HG0.out ▸ Agree.of_grown G.out)
          have DD := HD1.out.agree HAG.out
          obtain ⟨_, Ax, cx, c0, c1, c2, hcx, rx⟩ := DD.parts HXI.out
          have kn : (i : Int) < n := by omega
          have k0 : (0 : Int) ≤ i := by omega
          have ki : (i : Int) + 1 ≤ n := by omega
          have kc : (i : Int) + 1 ≤ c := by omega
          clear DD
          have RX := Lib.hid rx
          clear rx hcx
          have HGX := Lib.hid (BoxI.new (y := x) (c := cx) hsw RX.out)
          by_cases hin : i + 1 < n
          · obtain ⟨m, hm⟩ : ∃ m, n - (i + 1) = m := ⟨_, rfl⟩
            have HMM : Hid (n = i + 1 + m) := Lib.hid (by omega)
            have hci : ¬ c = i + 1 := by omega
            have hci2 : ¬ i + 1 = c := by omega
            have HBA := Lib.hid (HBX.out.1.on hsw (World.grownBy_alloc wr (.cells #[.int .i64 x.key, .slice Ax x.pos.length cx, .int .i64 x.tags] 59) none))
            have HBB := Lib.hid (HBX.out.2.on hsw (World.grownBy_alloc wr (.cells #[.int .i64 x.key, .slice Ax x.pos.length cx, .int .i64 x.tags] 59) none))
            have HLT := Lib.hid (show g1 < wr.heap.size ∧ g0 < wr.heap.size from ⟨by obtain ⟨_, _, _, h, _⟩ := HBX.out.1; exact h.lt, by obtain ⟨_, _, _, h, _⟩ := HBX.out.2; exact h.lt⟩)
            have GA := Lib.hid (gb_alloc G.out (.cells #[.int .i64 x.key, .slice Ax x.pos.length cx, .int .i64 x.tags] 59))
            clear HBX
            go_wp2_with fail
            generalize wr.heap.size = gx at *
            go_loopw [44] (fun jv wq => ∃ (j : Nat) (q : M.Item × M.Item), j ≤ m ∧ jv = .int .i64 j ∧ Hid (BoxI wq g0 g1 q.1 ∧ BoxI wq g0 g0 q.2 ∧ BoxI wq g0 gx x) ∧ Hid (q.1 ∈ L ∧ q.2 ∈ L) ∧ Hid (M.cpIn kind x (L.drop (i + 1)) p = M.cpIn kind x (L.drop (i + 1 + j)) q) ∧ w1.grownBy wq none) (fun j _ => m - (intOf j).toNat)
            case atStart => exact ⟨0, p, Nat.zero_le _, rfl, Lib.hid ⟨HBA.out, HBB.out, HGX.out⟩, HP, Lib.hid rfl, GA.out⟩
            case round =>
              clear HBA HBB HGX GA HP c0 c1 c2 RX HAG
              obtain ⟨j, q, hj, rfl, HQB, HP, HF, hg⟩ := hrel
              have GQ := Lib.hid hg
              have hsq : g0 ≤ wr.heap.size := by have := hg.size; have := HG0.out; omega
              clear hg
              obtain ⟨p1, p2⟩ := q
              by_cases hltj : j < m
              · have hkl : i + 1 + j < L.length := by rw [← HL.out, HMM.out]; omega
                have HY := Lib.hid (M.cpIn_drop (kind := kind) (x := x) hkl (p1, p2))
                have HYI : Hid (L[i + 1 + j]? = some L[i + 1 + j]) := Lib.hid (List.getElem?_eq_getElem hkl)
                have HYM := Lib.hid (List.getElem_mem hkl)
                generalize L[i + 1 + j] = y at *
                have HAG := Lib.hid (show Agree 0 g0 w1 wr from HG0.out ▸ Agree.of_grown GQ.out)
                have DD := HD1.out.agree HAG.out
                obtain ⟨_, Ay, cy, e0, e1, e2, hcy, ry⟩ := DD.parts HYI.out
                rw [show o + (i + 1 + j) * 3 = o + (i + 1) * 3 + j * 3 by omega] at e0 e1 e2
                obtain ⟨⟨_, Aa, ca, r1, ra⟩, ⟨_, Ab, cb, r2, rb⟩, ⟨hgx, Ax', cx', r3, rx⟩⟩ := HQB.out
                have jn : (j : Int) < m := by omega
                have j0 : (0 : Int) ≤ j := by omega
                have RA := Lib.hid ra
                have RB := Lib.hid rb
                have RX := Lib.hid rx
                have RY := Lib.hid ry
                have R1 := Lib.hid (r1.alloc (.cells #[.int .i64 y.key, .slice Ay y.pos.length cy, .int .i64 y.tags] 59))
                have R2 := Lib.hid (r2.alloc (.cells #[.int .i64 y.key, .slice Ay y.pos.length cy, .int .i64 y.tags] 59))
                have R3 := Lib.hid (r3.alloc (.cells #[.int .i64 y.key, .slice Ay y.pos.length cy, .int .i64 y.tags] 59))
                have R4 := Lib.hid (Row.new wr 59 (ca := #[.int .i64 y.key, .slice Ay y.pos.length cy, .int .i64 y.tags]) (cs := [.int .i64 y.key, .slice Ay y.pos.length cy, .int .i64 y.tags]) rfl)
                have hl3 := r3.lt
                clear DD ra rb rx ry r1 r2 r3 hcy
                have x1 := R3.out.cell 1
                have y1 := R4.out.cell 1
                have z1 := R1.out.cell 1
                have u1 := R2.out.cell 1
                simp only [List.getElem?_cons_zero, List.getElem?_cons_succ] at x1 y1 z1 u1
                go_wp2_with fail
                obtain ⟨V, hV⟩ : ∃ V : World, V = wr.alloc (.cells #[.int .i64 y.key, .slice Ay y.pos.length cy, .int .i64 y.tags] 59) := ⟨_, rfl⟩
                have GV := Lib.hid (hV ▸ World.grownBy_alloc wr (.cells #[.int .i64 y.key, .slice Ay y.pos.length cy, .int .i64 y.tags] 59) none)
                rw [← hV] at R1 R2 R3 R4 x1 y1 z1 u1 ⊢
                have HAV : Hid (∀ x' : Later V, Agree 0 g0 wr x'.w) := Lib.hid fun x' b h1 h2 => (Agree.of_grown (gb_trans GV.out x'.h)) b h1 (by omega)
                have HC0 : Hid (∀ x' : Later V, Calls Tryz.prog 55 #[.int .i64 kind, .slice Ax' x.pos.length cx', .slice Ay y.pos.length cy] x'.w fun e w' => e = .returned (.int .i64 (M.dist kind x.pos y.pos)) ∧ x'.w.grownBy w' none) := Lib.hid fun x' => distance_any (HIS.out _ HXM.out) (HIS.out _ HYM.out) (RX.out.agree (HAV.out x')) (RY.out.agree (HAV.out x'))
                have HC1 : Hid (∀ x' : Later V, Calls Tryz.prog 55 #[.int .i64 kind, .slice Aa p1.pos.length ca, .slice Ab p2.pos.length cb] x'.w fun e w' => e = .returned (.int .i64 (M.dist kind p1.pos p2.pos)) ∧ x'.w.grownBy w' none) := Lib.hid fun x' => distance_any (HIS.out _ HP.out.1) (HIS.out _ HP.out.2) (RA.out.agree (HAV.out x')) (RB.out.agree (HAV.out x'))
                have l0 : ∀ x' : Later V, x'.w.cell? ⟨gx, 1, none⟩ = some (.slice Ax' x.pos.length cx') := fun x' => x'.cell x1
                have l1 : ∀ x' : Later V, x'.w.cell? ⟨wr.heap.size, 1, none⟩ = some (.slice Ay y.pos.length cy) := fun x' => x'.cell y1
                have l2 : ∀ x' : Later V, x'.w.cell? ⟨g1, 1, none⟩ = some (.slice Aa p1.pos.length ca) := fun x' => x'.cell z1
                have l3 : ∀ x' : Later V, x'.w.cell? ⟨g0, 1, none⟩ = some (.slice Ab p2.pos.length cb) := fun x' => x'.cell u1
                have HSTEP : Hid (M.cpIn kind x (L.drop (i + 1)) p = M.cpIn kind x (L.drop (i + 1 + (j + 1))) (if M.dist kind x.pos y.pos < M.dist kind p1.pos p2.pos then (x, y) else (p1, p2))) := Lib.hid (by rw [HF.out, HY.out]; rfl)
                have HRX : Hid (∀ W', wr.grownBy W' none → Rd W' 0 g0 Ax' (x.pos.map (.int .i64))) := Lib.hid fun W' h => RX.out.agree (fun b h1 h2 => (Agree.of_grown h) b h1 (by omega))
                have HRY : Hid (∀ W', wr.grownBy W' none → Rd W' 0 g0 Ay (y.pos.map (.int .i64))) := Lib.hid fun W' h => RY.out.agree (fun b h1 h2 => (Agree.of_grown h) b h1 (by omega))
                have HRA : Hid (∀ W', wr.grownBy W' none → Rd W' 0 g0 Aa (p1.pos.map (.int .i64))) := Lib.hid fun W' h => RA.out.agree (fun b h1 h2 => (Agree.of_grown h) b h1 (by omega))
                have HRB : Hid (∀ W', wr.grownBy W' none → Rd W' 0 g0 Ab (p2.pos.map (.int .i64))) := Lib.hid fun W' h => RB.out.agree (fun b h1 h2 => (Agree.of_grown h) b h1 (by omega))
                have HG1 := Lib.hid (gb_trans GQ.out GV.out)
                clear x1 y1 z1 u1 HF HY RX RY RA RB hV e0 e1 e2 hkl
                obtain ⟨d1, hd1⟩ : ∃ d, d = M.dist kind x.pos y.pos := ⟨_, rfl⟩
                obtain ⟨d2, hd2⟩ : ∃ d, d = M.dist kind p1.pos p2.pos := ⟨_, rfl⟩
                rw [← hd1] at HC0 HSTEP
                rw [← hd2] at HC1 HSTEP
                clear hd1 hd2
                by_cases hdd : d1 < d2
                · rw [if_pos hdd] at HSTEP
                  refine wp_region_later (by kernel_rfl) (by kernel_rfl) ?_
                  repeat (go_big_quiet_step ((first | (go_at_call_of 55 Ax'; exact later_call (HC0.out _)) | (go_at_call_of 55 Aa; exact later_call (HC1.out _)))))
                  refine wpQuiet_nil ?_
                  rintro _ ⟨xv, rfl⟩
                  have GX := Lib.hid xv.h
                  generalize xv.w = V2 at *
                  have S1 := Lib.hid (R1.out.grown GX.out (by simp))
                  have S2 := Lib.hid (R2.out.grown GX.out (by simp))
                  have S3 := Lib.hid (R3.out.grown GX.out (by simp))
                  have S4 := Lib.hid (R4.out.grown GX.out (by simp))
                  have c30 := S3.out.cell 0
                  have c31 := S3.out.cell 1
                  have c32 := S3.out.cell 2
                  have c40 := S4.out.cell 0
                  have c41 := S4.out.cell 1
                  have c42 := S4.out.cell 2
                  have c10 := S1.out.cell 0
                  have c11 := S1.out.cell 1
                  have c12 := S1.out.cell 2
                  have c20 := S2.out.cell 0
                  have c21 := S2.out.cell 1
                  have c22 := S2.out.cell 2
                  simp only [List.getElem?_cons_zero, List.getElem?_cons_succ] at c30 c31 c32 c40 c41 c42 c10 c11 c12 c20 c21 c22
                  have f10 := S1.out.frozen 0
                  have f11 := S1.out.frozen 1
                  have f12 := S1.out.frozen 2
                  have f20 := S2.out.frozen 0
                  have f21 := S2.out.frozen 1
                  have f22 := S2.out.frozen 2
                  clear R1 R2 R3 R4 l0 l1 l2 l3 HC0 HC1
                  have hs1 := HLT.out.1
                  have hs2 := HLT.out.2
                  have hs3 := HSZ.out
                  have v1 : ¬ g0 = g1 := by omega
                  have v2 : ¬ g1 = g0 := by omega
                  have v3 : ¬ g0 = gx := by omega
                  have v4 : ¬ gx = g0 := by omega
                  have v5 : ¬ g1 = gx := by omega
                  have v6 : ¬ gx = g1 := by omega
                  have v7 : ¬ g0 = wr.heap.size := by omega
                  have v8 : ¬ wr.heap.size = g0 := by omega
                  have v9 : ¬ g1 = wr.heap.size := by omega
                  have v10 : ¬ wr.heap.size = g1 := by omega
                  go_wp2_with fail
                  go_region
                  go_wp2_with fail
                  have hgg : g0 ≤ g1 := by omega
                  have hga : g0 ≤ g1 := by omega
                  have hgb : g0 ≤ g0 := by omega
                  have hw0 := HG0.out
                  have hRX := HRX.out _ (gb_trans GV.out GX.out)
                  have hRY := HRY.out _ (gb_trans GV.out GX.out)
                  go_roundw
                  case rel =>
                    refine ⟨j + 1, (x, y), by omega, by go_num, Lib.hid ⟨?_, ?_, ?_⟩, Lib.hid ⟨HXM.out, HYM.out⟩, HSTEP, gb_drew (gb_set3 (gb_set3 (gb_trans HG1.out GX.out) (by omega) _ _ _) (by omega) _ _ _)⟩
                    · refine BoxI.drew ?_
                      exact BoxI.far3 (BoxI.put hga S1.out hRX) hgb (by omega) _ _ _
                    · refine BoxI.drew ?_
                      exact BoxI.put hgb (Row.set3 S2.out (by omega) _ _ _) (Rd.setBox3 hRY hga _ _ _)
                    · refine BoxI.drew ?_
                      exact BoxI.far3 (BoxI.far3 ⟨by omega, Ax', cx', S3.out, hRX⟩ hga (by omega) _ _ _) hgb (by omega) _ _ _
                  case measure => simp [intOf]; omega
                · rw [if_neg hdd] at HSTEP
                  refine wp_region_later (by kernel_rfl) (by kernel_rfl) ?_
                  repeat (go_big_quiet_step ((first | (go_at_call_of 55 Ax'; exact later_call (HC0.out _)) | (go_at_call_of 55 Aa; exact later_call (HC1.out _)))))
                  refine wpQuiet_nil ?_
                  rintro _ ⟨xv, rfl⟩
                  have GX := Lib.hid xv.h
                  generalize xv.w = V2 at *
                  have S1 := Lib.hid (R1.out.grown GX.out (by simp))
                  have S2 := Lib.hid (R2.out.grown GX.out (by simp))
                  have S3 := Lib.hid (R3.out.grown GX.out (by simp))
                  clear R1 R2 R3 R4 l0 l1 l2 l3 HC0 HC1
                  go_wp2_with fail
                  have hs1 := HLT.out.1
                  have hs3 := HSZ.out
                  have hga : g0 ≤ g1 := by omega
                  have hgb : g0 ≤ g0 := by omega
                  go_roundw
                  case rel => exact ⟨j + 1, (p1, p2), by omega, by go_num, Lib.hid ⟨⟨hga, Aa, ca, S1.out, HRA.out _ (gb_trans GV.out GX.out)⟩, ⟨hgb, Ab, cb, S2.out, HRB.out _ (gb_trans GV.out GX.out)⟩, ⟨hgx, Ax', cx', S3.out, HRX.out _ (gb_trans GV.out GX.out)⟩⟩, HP, HSTEP, gb_trans HG1.out GX.out⟩
                  case measure => simp [intOf]; omega
              · obtain rfl : j = m := by omega
                have HQ : Hid (M.cpOut kind L (q1, q2) = M.cpOut kind (L.drop (i + 1)) (p1, p2)) := Lib.hid (by
                  rw [HE.out, HO.out, HF.out]
                  have hd : L.drop (i + 1 + j) = [] := List.drop_of_length_le (by rw [← HL.out, HMM.out]; exact Nat.le_refl _)
                  rw [hd]
                  rfl)
                go_wp2_with fail
                go_roundw
                case rel => exact ⟨i + 1, (p1, p2), by omega, by go_num, Lib.hid ⟨HQB.out.1, HQB.out.2.1⟩, HP, HQ, GQ.out⟩
                case measure => simp [intOf]; omega
          · have HQ : Hid (M.cpOut kind L (q1, q2) = M.cpOut kind (L.drop (i + 1)) p) := Lib.hid (by
              rw [HE.out, HO.out]
              have hd : L.drop (i + 1) = [] := List.drop_of_length_le (by rw [← HL.out]; omega)
              rw [hd]
              rfl)
            have hni : n - (i + 1) = 0 := by omega
            have HBA := Lib.hid (HBX.out.1.on hsw (World.grownBy_alloc wr (.cells #[.int .i64 x.key, .slice Ax x.pos.length cx, .int .i64 x.tags] 59) none))
            have HBB := Lib.hid (HBX.out.2.on hsw (World.grownBy_alloc wr (.cells #[.int .i64 x.key, .slice Ax x.pos.length cx, .int .i64 x.tags] 59) none))
            have GA := Lib.hid (gb_alloc G.out (.cells #[.int .i64 x.key, .slice Ax x.pos.length cx, .int .i64 x.tags] 59))
            obtain ⟨A2, c2, hsl⟩ : ∃ A2 c2, ∀ W, (Instr.slice 41 (.slice (some ⟨b, o, none⟩) n c) (some (.int .i64 ((i : Int) + 1))) none none).run Tryz.prog W = .ok (.slice A2 0 c2) W := by
              refine ⟨if c = i + 1 then some ⟨b, o, none⟩ else (some (⟨b, o, none⟩ : Addr)).map (·.add ((i + 1) * 3)), c - (i + 1), fun W => ?_⟩
              rw [run_slice_l W 41 _ _ _ Tryz.underlying41 .i64 _ (by omega) (by omega), ← hni]
              have e : ((i : Int) + 1).toNat = i + 1 := by omega
              rw [e]
              rfl
            go_wp2_with fail
            all_goals
              go_loopw [44] (fun jv wq => jv = .int .i64 0 ∧ Hid (BoxI wq g0 g1 p.1 ∧ BoxI wq g0 g0 p.2) ∧ w1.grownBy wq none) (fun j _ => 1)
              case atStart => exact ⟨rfl, Lib.hid ⟨HBA.out, HBB.out⟩, GA.out⟩
              case round =>
                obtain ⟨rfl, HQB, hg⟩ := hrel
                have GQ := Lib.hid hg
                clear hg
                go_wp2_with fail
                go_roundw
                case rel => exact ⟨i + 1, p, by omega, by go_num, HQB, HP, HQ, GQ.out⟩
                case measure => simp [intOf]; omega
        · obtain rfl : i = n := by omega
          have HQ : Hid (M.closest L kind = some p) := Lib.hid (by
            rw [HR.out, HE.out]
            have hd : L.drop i = [] := List.drop_of_length_le (by rw [← HL.out]; exact Nat.le_refl _)
            rw [hd]
            rfl)
          obtain ⟨p1, p2⟩ := p
          obtain ⟨⟨_, A1, e1, r1, _⟩, ⟨_, A2, e2, r2, _⟩⟩ := HBX.out
          have c10 := r1.cell 0
          have c20 := r2.cell 0
          simp only [List.getElem?_cons_zero] at c10 c20
          have l2 : ∀ x' : Later wr, x'.w.cell? ⟨g1, 0, none⟩ = some (.int .i64 p1.key) := fun x' => x'.cell c10
          have l3 : ∀ x' : Later wr, x'.w.cell? ⟨g0, 0, none⟩ = some (.int .i64 p2.key) := fun x' => x'.cell c20
          clear r1 r2 c10 c20
          go_wp2_with fail
          refine wp_region_later (by kernel_rfl) (by kernel_rfl) ?_
          repeat (go_big_quiet_step ((fail)))
          refine wpQuiet_nil ?_
          rintro _ ⟨xv, rfl⟩
          have GX := Lib.hid (gb_trans (gb_trans G1.out G.out) xv.h)
          go_wp2_with fail
          go_ret3
          exact PairGot.some_ HQ.out GX.out
end Go.Proofs.YtibbpbbgmgdpdaaGreatDoor
