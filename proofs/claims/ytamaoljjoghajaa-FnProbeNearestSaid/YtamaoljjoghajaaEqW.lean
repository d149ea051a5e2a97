/- The walk of the comparison of lists of items that are equal. -/
import Derived.Test.YtamaoljjoghajaaExactW
namespace Go.Proofs.Ytamaoljjoghajaa
open Go.RowKit
set_option linter.unusedVariables false
set_option maxRecDepth 100000

set_option maxHeartbeats 600000 in
theorem eqItemS_same (w : World) (A B : Option Addr) (c d lo hi lo' hi' : Nat) (L : List M.Item) (hl : L.length ≤ 1048576) (hp : ∀ x ∈ L, x.pos.length ≤ 1048576) (hr : RdI w lo hi A L) (hs : RdI w lo' hi' B L) (h1 : hi ≤ w.heap.size) (h2 : hi' ≤ w.heap.size) :
    Calls Try.prog 13 #[.slice A L.length c, .slice B L.length d] w fun e w' => e = .returned (.bool true) ∧ w.grownBy w' none := by
  obtain ⟨n, hn⟩ : ∃ n, n = L.length := ⟨_, rfl⟩
  rw [← hn] at hl ⊢
  have HL := Lib.hid hn
  have HR := Lib.hid hr
  have HS := Lib.hid hs
  have HP := Lib.hid hp
  have t0 : ((n : Int) != n) = false := by simp
  clear hn hr hs hp
  go_enter Try.func13, Try.ntmps13
  go_wp2_with fail
  go_loopw [5] (fun i wr => ∃ k : Nat, k ≤ n ∧ i = .int .i64 k ∧ w.grownBy wr none) (fun i _ => n - (intOf i).toNat)
  case atStart => exact ⟨0, Nat.zero_le _, rfl, gb_refl _ _⟩
  case round =>
    obtain ⟨k, hk, rfl, hg⟩ := hrel
    have HG := Lib.hid hg
    clear hg
    by_cases hlt : k < n
    · have hkl : k < L.length := by rw [← HL.out]; exact hlt
      obtain ⟨b, o, rfl, hb1, hb2, hI⟩ := HR.out.at_ (List.getElem?_eq_getElem hkl)
      obtain ⟨b', o', rfl, hb3, hb4, hJ⟩ := HS.out.at_ (List.getElem?_eq_getElem hkl)
      obtain ⟨u, c0, c1, c2, hu⟩ := hI.agree hb1 hb2 (fun b _ h => (Agree.of_grown HG.out) b (Nat.zero_le _) (by omega))
      obtain ⟨v, d0, d1, d2, hv⟩ := hJ.agree hb3 hb4 (fun b _ h => (Agree.of_grown HG.out) b (Nat.zero_le _) (by omega))
      obtain ⟨Au, cu, rfl, hcu, hru⟩ := hu
      obtain ⟨Av, cv, rfl, hcv, hrv⟩ := hv
      have hpl : L[k].pos.length ≤ 1048576 := HP.out _ (List.getElem_mem hkl)
      have HU := Lib.hid (show RdInts .i64 wr lo hi (.slice Au L[k].pos.length cu) L[k].pos from ⟨_, _, rfl, hcu, hru⟩)
      have HV := Lib.hid (show RdInts .i64 wr lo' hi' (.slice Av L[k].pos.length cv) L[k].pos from ⟨_, _, rfl, hcv, hrv⟩)
      clear hI hJ hcu hru hcv hrv
      generalize L[k] = y at *
      have l0 : ∀ x : Later wr, x.w.cell? ⟨b, o + k * 3, none⟩ = some (.int .i64 y.key) := fun x => x.cell c0
      have l1 : ∀ x : Later wr, x.w.cell? ⟨b, o + k * 3 + 1, none⟩ = some (.slice Au y.pos.length cu) := fun x => x.cell c1
      have l2 : ∀ x : Later wr, x.w.cell? ⟨b, o + k * 3 + 2, none⟩ = some (.int .i64 y.tags) := fun x => x.cell c2
      have m0 : ∀ x : Later wr, x.w.cell? ⟨b', o' + k * 3, none⟩ = some (.int .i64 y.key) := fun x => x.cell d0
      have m1 : ∀ x : Later wr, x.w.cell? ⟨b', o' + k * 3 + 1, none⟩ = some (.slice Av y.pos.length cv) := fun x => x.cell d1
      have m2 : ∀ x : Later wr, x.w.cell? ⟨b', o' + k * 3 + 2, none⟩ = some (.int .i64 y.tags) := fun x => x.cell d2
      have HC : Hid (∀ W : World, wr.grownBy W none → Calls Try.prog 46 #[.agg #[.int .i64 y.key, .slice Au y.pos.length cu, .int .i64 y.tags], .agg #[.int .i64 y.key, .slice Av y.pos.length cv, .int .i64 y.tags]] W fun e w' => e = .returned (.bool true) ∧ W.grownBy w' none) := Lib.hid fun W hW => by
        have h := eqItem_any W _ _ lo hi lo' hi' y y hpl (HU.out.agree (fun b _ h => (Agree.of_grown hW) b (Nat.zero_le _) (by have := HG.out.size; omega))) (HV.out.agree (fun b _ h => (Agree.of_grown hW) b (Nat.zero_le _) (by have := HG.out.size; omega))) (by have := HG.out.size; have := hW.size; omega) (by have := HG.out.size; have := hW.size; omega)
        simpa using h
      have kn : (k : Int) < n := by omega
      have k0 : (0 : Int) ≤ k := by omega
      clear c0 c1 c2 d0 d1 d2
      go_wp2_with fail
      refine wp_region_later (by kernel_rfl) (by kernel_rfl) ?_
      repeat (go_big_quiet_step ((go_at_call 46; exact later_call (HC.out _ (Later.h _)))))
      refine wpQuiet_nil ?_
      rintro _ ⟨x, rfl⟩
      go_wp2_with fail
      go_roundw
      case rel => exact ⟨k + 1, by omega, by go_num, gb_trans HG.out x.h⟩
      case measure => simp [intOf]; omega
    · obtain rfl : k = n := by omega
      go_wp2_with fail
      go_ret
      exact ⟨rfl, HG.out⟩

end Go.Proofs.Ytamaoljjoghajaa
