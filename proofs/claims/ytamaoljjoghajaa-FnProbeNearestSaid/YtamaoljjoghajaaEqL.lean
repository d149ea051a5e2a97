/- The walks of the laws' comparisons of items. -/
import Derived.Test.YtamaoljjoghajaaSee
namespace Go.Proofs.Ytamaoljjoghajaa
open Go.RowKit
set_option linter.unusedVariables false
set_option maxRecDepth 100000

def eqItemB (x y : M.Item) : Bool := x.key == y.key && x.tags == y.tags && decide (x.pos = y.pos)
theorem eqItemB_self (x : M.Item) : eqItemB x x = true := by simp [eqItemB]
theorem eqItemB_iff {x y : M.Item} : eqItemB x y = true ↔ x = y := by
  obtain ⟨a, b, c⟩ := x
  obtain ⟨d, e, f⟩ := y
  simp [eqItemB]
  exact ⟨fun ⟨⟨a, b⟩, c⟩ => ⟨a, c, b⟩, fun ⟨a, b, c⟩ => ⟨⟨a, c⟩, b⟩⟩



set_option maxHeartbeats 600000 in
theorem itemOf_at {w : World} {A : Option Addr} {c : Nat} {L : List M.Item} (D : SeesI w A L) {i : Nat} (hi : i < L.length) (hf : ∀ j (hj : j < i), (L[j]'(by omega)).key ≠ L[i].key) :
    ∃ u, RdInts .i64 w 0 w.heap.size u L[i].pos ∧ ∀ W, w.grownBy W none → Calls Try.prog 29 #[.slice A L.length c, .int .i64 L[i].key] W fun e w' => e = .returned (.agg #[.int .i64 L[i].key, u, .int .i64 L[i].tags]) ∧ W.grownBy w' none := by
  obtain ⟨b, o, rfl, hb1, hb2, hI⟩ := D.1.at_ (List.getElem?_eq_getElem hi)
  obtain ⟨u, c0, c1, c2, hu⟩ := hI
  refine ⟨u, hu, fun W hW => ?_⟩
  obtain ⟨Au, cu, rfl, hcu, hru⟩ := hu
  have hl := D.2.1
  obtain ⟨n, hn⟩ : ∃ n, n = L.length := ⟨_, rfl⟩
  rw [← hn] at hl ⊢
  have HL := Lib.hid hn
  have HR := Lib.hid D.1
  have hin : (i : Int) < n := by omega
  obtain ⟨x, hx⟩ : ∃ x, x = L[i] := ⟨_, rfl⟩
  have HF : Hid (∀ j y, j < i → L[j]? = some y → y.key ≠ x.key) := Lib.hid (fun j y hj hy => by rw [List.getElem?_eq_getElem (show j < L.length by omega)] at hy; injection hy with hy; subst hy; rw [hx]; exact hf j hj)
  rw [← hx] at c0 c1 c2 ⊢
  have HW := Lib.hid hW
  have HI := Lib.hid hi
  have d0 : W.cell? ⟨b, o + i * 3, none⟩ = some (.int .i64 x.key) := hW.cell c0 (by simp)
  have d1 : W.cell? ⟨b, o + i * 3 + 1, none⟩ = some (.slice Au x.pos.length cu) := hW.cell c1 (by simp)
  have d2 : W.cell? ⟨b, o + i * 3 + 2, none⟩ = some (.int .i64 x.tags) := hW.cell c2 (by simp)
  have hbW : b < W.heap.size := by have := hW.size; omega
  generalize x.pos.length = q at *
  clear c0 c1 c2 hn hf hW hx hcu hru D
  go_enter Try.func29, Try.ntmps29
  go_wp2_with fail
  refine wp_name (fun W2 => Row W2 W.heap.size 54 [.int .i64 0, .slice none 0 0, .int .i64 0] ∧ W.grownBy W2 none) ⟨Row.new W _ rfl, gb_alloc (gb_refl _ _) _⟩ ?_
  rintro W2 ⟨r0, hg⟩
  have e0 : W2.cell? ⟨b, o + i * 3, none⟩ = some (.int .i64 x.key) := hg.cell d0 (by simp)
  have e1 : W2.cell? ⟨b, o + i * 3 + 1, none⟩ = some (.slice Au q cu) := hg.cell d1 (by simp)
  have e2 : W2.cell? ⟨b, o + i * 3 + 2, none⟩ = some (.int .i64 x.tags) := hg.cell d2 (by simp)
  have HG := Lib.hid hg
  have B := Lib.hid r0
  clear d0 d1 d2 hg r0
  go_loop [5] (fun s => ∃ k : Nat, k ≤ i ∧ s = .int .i64 k) (fun s => i + 1 - (intOf s).toNat)
  case atStart => exact ⟨0, Nat.zero_le _, rfl⟩
  case round =>
    obtain ⟨k, hk, rfl⟩ := hrel
    have kn : (k : Int) < n := by omega
    have k0 : (0 : Int) ≤ k := by omega
    by_cases hki : k = i
    · subst hki
      have q0 := B.out.cell 0
      have q1 := B.out.cell 1
      have q2 := B.out.cell 2
      have qf0 := B.out.frozen 0
      have qf1 := B.out.frozen 1
      have qf2 := B.out.frozen 2
      simp only [List.getElem?_cons_zero, List.getElem?_cons_succ] at q0 q1 q2
      have hne : ¬ b = W.heap.size := by omega
      have t1 : (x.key == x.key) = true := by simp
      go_wp2_with fail
      refine bodyPost_ret (v := .agg #[.int .i64 x.key, .slice Au q cu, .int .i64 x.tags]) (by simp [results, Try.results29, go_sem, q0, q1, q2]) rfl ⟨rfl, ?_⟩
      repeat (with_reducible refine gb_setCell (p := ⟨_, _, none⟩) ?_ (.inl (by show _ ≤ W.heap.size; omega)) _)
      exact HG.out
    · have hkl : k < L.length := by have := HI.out; omega
      obtain ⟨b', o', he, hb3, hb4, hJ⟩ := HR.out.at_ (List.getElem?_eq_getElem hkl)
      simp only [Option.some.injEq, Addr.mk.injEq, and_true] at he
      obtain ⟨rfl, rfl⟩ := he
      obtain ⟨v, f0, f1, f2, hv⟩ := hJ
      have g0 : W2.cell? ⟨b, o + k * 3, none⟩ = some (.int .i64 L[k].key) := HG.out.cell (HW.out.cell f0 (by simp)) (by simp)
      have t1 : (L[k].key == x.key) = false := beq_eq_false_iff_ne.2 (HF.out k _ (by omega) (List.getElem?_eq_getElem hkl))
      generalize L[k].key = z at *
      clear f0 f1 f2 hv
      go_wp2_with fail
      go_round
      case rel => exact ⟨k + 1, by omega, by go_num⟩
      case measure => simp [intOf]; omega

end Go.Proofs.Ytamaoljjoghajaa
