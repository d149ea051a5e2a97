/- The contracts of logs in the laws' words; comparisons of entries. -/
import Derived.Test.YthoakomccjjhbaaLogW
import Derived.Test.YthoakomccjjhbaaEqL
namespace Go.Proofs.Ythoakomccjjhbaa
open Go.RowKit
set_option linter.unusedVariables false
set_option maxRecDepth 100000

set_option maxHeartbeats 1000000 in
theorem equalEntries_same (w : World) (A B : Option Addr) (c d lo hi lo' hi' : Nat) (L : List M.Entry) (hl : L.length ≤ 1048576) (hp : ∀ x ∈ L, x.item.pos.length ≤ 1048576) (hr : RdE w lo hi A L) (hs : RdE w lo' hi' B L) (h1 : hi ≤ w.heap.size) (h2 : hi' ≤ w.heap.size) :
    Calls Try.prog 55 #[.slice A L.length c, .slice B L.length d] w fun e w' => e = .returned (.bool true) ∧ w.grownBy w' none := by
  obtain ⟨n, hn⟩ : ∃ n, n = L.length := ⟨_, rfl⟩
  rw [← hn] at hl ⊢
  have HL := Lib.hid hn
  have HR := Lib.hid hr
  have HS := Lib.hid hs
  have HP := Lib.hid hp
  have t0 : ((n : Int) != n) = false := by simp
  clear hn hr hs hp
  go_enter Try.func55, Try.ntmps55
  go_wp2_with fail
  go_loopw [5] (fun i wr => ∃ k : Nat, k ≤ n ∧ i = .int .i64 k ∧ w.grownBy wr none) (fun i _ => n - (intOf i).toNat)
  case atStart => exact ⟨0, Nat.zero_le _, rfl, gb_refl _ _⟩
  case round =>
    obtain ⟨k, hk, rfl, hg⟩ := hrel
    have HG := Lib.hid hg
    clear hg
    by_cases hlt : k < n
    · have hkl : k < L.length := by rw [← HL.out]; exact hlt
      obtain ⟨b, o, rfl, hb1, hb2, hI⟩ := HR.out.at_ (List.getElem?_eq_getElem hkl)
      obtain ⟨b', o', rfl, hb3, hb4, hJ⟩ := HS.out.at_ (List.getElem?_eq_getElem hkl)
      obtain ⟨u, c0, c1, c2, c3, hu⟩ := hI.agree hb1 hb2 (fun b _ h => (Agree.of_grown HG.out) b (Nat.zero_le _) (by omega))
      obtain ⟨v, d0, d1, d2, d3, hv⟩ := hJ.agree hb3 hb4 (fun b _ h => (Agree.of_grown HG.out) b (Nat.zero_le _) (by omega))
      obtain ⟨Au, cu, rfl, hcu, hru⟩ := hu
      obtain ⟨Av, cv, rfl, hcv, hrv⟩ := hv
      have hpl : L[k].item.pos.length ≤ 1048576 := HP.out _ (List.getElem_mem hkl)
      have HC : Hid (∀ W : World, wr.grownBy W none → Calls Try.prog 18 #[.agg #[.int .i64 L[k].item.key, .slice Au L[k].item.pos.length cu, .int .i64 L[k].item.tags], .agg #[.int .i64 L[k].item.key, .slice Av L[k].item.pos.length cv, .int .i64 L[k].item.tags]] W fun e w' => e = .returned (.bool true) ∧ W.grownBy w' none) := Lib.hid fun W hW => by
        have h := equalItem_any W (.slice Au L[k].item.pos.length cu) (.slice Av L[k].item.pos.length cv) lo hi lo' hi' L[k].item L[k].item hpl ⟨_, _, rfl, hcu, hru.agree (fun b _ h => (Agree.of_grown hW) b (Nat.zero_le _) (by have := HG.out.size; omega))⟩ ⟨_, _, rfl, hcv, hrv.agree (fun b _ h => (Agree.of_grown hW) b (Nat.zero_le _) (by have := HG.out.size; omega))⟩ (by have := HG.out.size; have := hW.size; omega) (by have := HG.out.size; have := hW.size; omega)
        rwa [eqItemB_self] at h
      clear hI hJ hcu hru hcv hrv
      generalize L[k] = y at *
      have l0 : ∀ x : Later wr, x.w.cell? ⟨b, o + k * 4, none⟩ = some (.int .i64 y.kind) := fun x => x.cell c0
      have l1 : ∀ x : Later wr, x.w.cell? ⟨b, o + k * 4 + 1, none⟩ = some (.int .i64 y.item.key) := fun x => x.cell c1
      have l2 : ∀ x : Later wr, x.w.cell? ⟨b, o + k * 4 + 1 + 1, none⟩ = some (.slice Au y.item.pos.length cu) := fun x => x.cell c2
      have l3 : ∀ x : Later wr, x.w.cell? ⟨b, o + k * 4 + 1 + 2, none⟩ = some (.int .i64 y.item.tags) := fun x => x.cell c3
      have m0 : ∀ x : Later wr, x.w.cell? ⟨b', o' + k * 4, none⟩ = some (.int .i64 y.kind) := fun x => x.cell d0
      have m1 : ∀ x : Later wr, x.w.cell? ⟨b', o' + k * 4 + 1, none⟩ = some (.int .i64 y.item.key) := fun x => x.cell d1
      have m2 : ∀ x : Later wr, x.w.cell? ⟨b', o' + k * 4 + 1 + 1, none⟩ = some (.slice Av y.item.pos.length cv) := fun x => x.cell d2
      have m3 : ∀ x : Later wr, x.w.cell? ⟨b', o' + k * 4 + 1 + 2, none⟩ = some (.int .i64 y.item.tags) := fun x => x.cell d3
      have kn : (k : Int) < n := by omega
      have k0 : (0 : Int) ≤ k := by omega
      have e0 : (y.kind != y.kind) = false := by simp
      clear c0 c1 c2 c3 d0 d1 d2 d3
      go_wp2_with fail
      refine wp_region_later (by kernel_rfl) (by kernel_rfl) ?_
      repeat (go_big_quiet_step ((go_at_call 18; exact later_call (HC.out _ (Later.h _)))))
      refine wpQuiet_nil ?_
      rintro _ ⟨x, rfl⟩
      go_wp2_with fail
      go_roundw
      case rel => exact ⟨k + 1, by omega, by go_num, gb_trans HG.out x.h⟩
      case measure => simp [intOf]; omega
    · obtain rfl : k = n := by omega
      go_wp2_with fail
      go_ret
      exact ⟨rfl, HG.out⟩
theorem eqe_same {w : World} {A B : Option Addr} {c d : Nat} {L : List M.Entry} (D : SeesE w A L) (E : SeesE w B L) : Calls Try.prog 55 #[.slice A L.length c, .slice B L.length d] w fun e w' => e = .returned (.bool true) ∧ w.grownBy w' none :=
  equalEntries_same w A B c d 0 w.heap.size 0 w.heap.size L D.2.1 D.2.2 D.1 E.1 (Nat.le_refl _) (Nat.le_refl _)
theorem SmallE.sub {L L' : List M.Entry} (h : SmallE L) (hs : L'.Sublist L) : SmallE L' := ⟨Nat.le_trans hs.length_le h.1, fun x hx => h.2 x (hs.subset hx)⟩
theorem small_short {L : List M.Entry} (h : SmallE L) : SmallE (M.ShortLog L) := by
  unfold M.ShortLog
  split
  · exact h.sub (M.short_sub L)
  · exact SmallE.nil_
end Go.Proofs.Ythoakomccjjhbaa
