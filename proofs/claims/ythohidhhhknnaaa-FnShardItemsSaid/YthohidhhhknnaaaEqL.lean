/- The walks of the laws' comparisons of items. -/
import Derived.Test.YthohidhhhknnaaaSee
namespace Go.Proofs.Ythohidhhhknnaaa
open Go.RowKit
set_option linter.unusedVariables false

def eqItemB (x y : M.Item) : Bool := x.key == y.key && x.tags == y.tags && decide (x.pos = y.pos)
theorem eqItemB_self (x : M.Item) : eqItemB x x = true := by simp [eqItemB]
theorem eqItemB_iff {x y : M.Item} : eqItemB x y = true ↔ x = y := by
  obtain ⟨a, b, c⟩ := x
  obtain ⟨d, e, f⟩ := y
  simp [eqItemB]
  exact ⟨fun ⟨⟨a, b⟩, c⟩ => ⟨a, c, b⟩, fun ⟨a, b, c⟩ => ⟨⟨a, c⟩, b⟩⟩

set_option maxHeartbeats 600000 in
theorem equalItem_any (w : World) (u v : Value) (lo hi lo' hi' : Nat) (x y : M.Item) (hl : x.pos.length ≤ 1048576) (hr : RdInts .i64 w lo hi u x.pos) (hs : RdInts .i64 w lo' hi' v y.pos) (h1 : hi ≤ w.heap.size) (h2 : hi' ≤ w.heap.size) :
    Calls Try.prog 36 #[.agg #[.int .i64 x.key, u, .int .i64 x.tags], .agg #[.int .i64 y.key, v, .int .i64 y.tags]] w fun e w' => e = .returned (.bool (eqItemB x y)) ∧ w.grownBy w' none := by
  obtain ⟨A, c, rfl, hc, hrd⟩ := hr
  obtain ⟨B, d, rfl, hd, hsd⟩ := hs
  obtain ⟨k, l, t⟩ := x
  obtain ⟨k', m, t'⟩ := y
  have HR := Lib.hid hrd
  have HS := Lib.hid hsd
  have hl' : l.length ≤ 1048576 := hl
  have HC : Hid (∀ W : World, w.grownBy W none → Calls Try.prog 30 #[.slice A l.length c, .slice B m.length d] W fun e w' => e = .returned (.bool (decide (l = m))) ∧ ∃ n, w' = W.drewN n) := Lib.hid fun W hW =>
    equalInts_any W A B c d l m lo hi lo' hi' (by omega) (HR.out.agree (fun b _ h => (Agree.of_grown hW) b (Nat.zero_le _) (by omega))) (HS.out.agree (fun b _ h => (Agree.of_grown hW) b (Nat.zero_le _) (by omega)))
  clear hrd hsd hl
  show Calls Try.prog 36 #[.agg #[.int .i64 k, .slice A l.length c, .int .i64 t], .agg #[.int .i64 k', .slice B m.length d, .int .i64 t']] w fun e w' => e = .returned (.bool (k == k' && t == t' && decide (l = m))) ∧ w.grownBy w' none
  have G2 := Lib.hid (gb_alloc (gb_alloc (gb_refl w none) (.cells #[.int .i64 k, .slice A l.length c, .int .i64 t] 49)) (.cells #[.int .i64 k', .slice B m.length d, .int .i64 t'] 49))
  by_cases hk : k = k'
  · subst hk
    have tk : (k == k) = true := by simp
    by_cases ht : t = t'
    · subst ht
      have tt : (t == t) = true := by simp
      go_enter Try.func36, Try.ntmps36
      go_wp2_with (go_at_call 30; refine (HC.out _ G2.out).mono ?_; rintro e w' ⟨rfl, q, rfl⟩)
      go_ret
      exact ⟨ret_bool (by simp), gb_drewN G2.out q⟩
    · have tt : (t == t') = false := beq_eq_false_iff_ne.2 ht
      have HT := Lib.hid tt
      go_enter Try.func36, Try.ntmps36
      go_wp2_with fail
      go_ret
      exact ⟨rfl, G2.out⟩
  · have tk : (k == k') = false := beq_eq_false_iff_ne.2 hk
    have HT := Lib.hid tk
    go_enter Try.func36, Try.ntmps36
    go_wp2_with fail
    go_ret
    exact ⟨rfl, G2.out⟩

set_option maxHeartbeats 600000 in
theorem equalItems_same (w : World) (A B : Option Addr) (c d lo hi lo' hi' : Nat) (L : List M.Item) (hl : L.length ≤ 1048576) (hp : ∀ x ∈ L, x.pos.length ≤ 1048576) (hr : RdI w lo hi A L) (hs : RdI w lo' hi' B L) (h1 : hi ≤ w.heap.size) (h2 : hi' ≤ w.heap.size) :
    Calls Try.prog 35 #[.slice A L.length c, .slice B L.length d] w fun e w' => e = .returned (.bool true) ∧ w.grownBy w' none := by
  obtain ⟨n, hn⟩ : ∃ n, n = L.length := ⟨_, rfl⟩
  rw [← hn] at hl ⊢
  have HL := Lib.hid hn
  have HR := Lib.hid hr
  have HS := Lib.hid hs
  have HP := Lib.hid hp
  have t0 : ((n : Int) != n) = false := by simp
  clear hn hr hs hp
  go_enter Try.func35, Try.ntmps35
  go_wp2_with fail
  go_loopw [5] (fun i wr => ∃ k : Nat, k ≤ n ∧ i = .int .i64 k ∧ w.grownBy wr none) (fun i _ => n - (intOf i).toNat)
  case atStart => exact ⟨0, Nat.zero_le _, rfl, gb_refl _ _⟩
  case round =>
    obtain ⟨k, hk, rfl, hg⟩ := hrel
    have HG := Lib.hid hg
    clear hg
    by_cases hlt : k < n
    · have hkl : k < L.length := by rw [← HL.out]; exact hlt
      obtain ⟨b, o, rfl, hb1, hb2, hI⟩ := HR.out.at_ (List.getElem?_eq_getElem hkl)
      obtain ⟨b', o', rfl, hb3, hb4, hJ⟩ := HS.out.at_ (List.getElem?_eq_getElem hkl)
      obtain ⟨u, c0, c1, c2, hu⟩ := hI.agree hb1 hb2 (fun b _ h => (Agree.of_grown HG.out) b (Nat.zero_le _) (by omega))
      obtain ⟨v, d0, d1, d2, hv⟩ := hJ.agree hb3 hb4 (fun b _ h => (Agree.of_grown HG.out) b (Nat.zero_le _) (by omega))
      obtain ⟨Au, cu, rfl, hcu, hru⟩ := hu
      obtain ⟨Av, cv, rfl, hcv, hrv⟩ := hv
      have hpl : L[k].pos.length ≤ 1048576 := HP.out _ (List.getElem_mem hkl)
      have HU := Lib.hid hru
      have HV := Lib.hid hrv
      clear hI hJ hcu hru hcv hrv
      generalize L[k] = y at *
      have l0 : ∀ x : Later wr, x.w.cell? ⟨b, o + k * 3, none⟩ = some (.int .i64 y.key) := fun x => x.cell c0
      have l1 : ∀ x : Later wr, x.w.cell? ⟨b, o + k * 3 + 1, none⟩ = some (.slice Au y.pos.length cu) := fun x => x.cell c1
      have l2 : ∀ x : Later wr, x.w.cell? ⟨b, o + k * 3 + 2, none⟩ = some (.int .i64 y.tags) := fun x => x.cell c2
      have m0 : ∀ x : Later wr, x.w.cell? ⟨b', o' + k * 3, none⟩ = some (.int .i64 y.key) := fun x => x.cell d0
      have m1 : ∀ x : Later wr, x.w.cell? ⟨b', o' + k * 3 + 1, none⟩ = some (.slice Av y.pos.length cv) := fun x => x.cell d1
      have m2 : ∀ x : Later wr, x.w.cell? ⟨b', o' + k * 3 + 2, none⟩ = some (.int .i64 y.tags) := fun x => x.cell d2
      have HC : Hid (∀ W : World, wr.grownBy W none → Calls Try.prog 30 #[.slice Au y.pos.length cu, .slice Av y.pos.length cv] W fun e w' => e = .returned (.bool true) ∧ W.grownBy w' none) := Lib.hid fun W hW => by
        have h := equalInts_any W _ _ cu cv _ _ lo hi lo' hi' (by omega) (HU.out.agree (fun b _ h => (Agree.of_grown hW) b (Nat.zero_le _) (by have := HG.out.size; omega))) (HV.out.agree (fun b _ h => (Agree.of_grown hW) b (Nat.zero_le _) (by have := HG.out.size; omega)))
        exact h.mono fun _ _ ⟨he, hq⟩ => ⟨by rw [he]; simp, gb_of_drewN hq⟩
      have kn : (k : Int) < n := by omega
      have k0 : (0 : Int) ≤ k := by omega
      have e0 : (y.key != y.key) = false := by simp
      have e2 : (y.tags != y.tags) = false := by simp
      clear c0 c1 c2 d0 d1 d2
      go_wp2_with fail
      refine wp_region_later (by kernel_rfl) (by kernel_rfl) ?_
      repeat (go_big_quiet_step ((go_at_call 30; exact later_call (HC.out _ (Later.h _)))))
      refine wpQuiet_nil ?_
      rintro _ ⟨x, rfl⟩
      go_wp2_with fail
      go_roundw
      case rel => exact ⟨k + 1, by omega, by go_num, gb_trans HG.out x.h⟩
      case measure => simp [intOf]; omega
    · obtain rfl : k = n := by omega
      go_wp2_with fail
      go_ret
      exact ⟨rfl, HG.out⟩
theorem eqi_same {w : World} {A B : Option Addr} {c d : Nat} {L : List M.Item} (D : SeesI w A L) (E : SeesI w B L) : Calls Try.prog 35 #[.slice A L.length c, .slice B L.length d] w fun e w' => e = .returned (.bool true) ∧ w.grownBy w' none :=
  equalItems_same w A B c d 0 w.heap.size 0 w.heap.size L D.2.1 D.2.2 D.1 E.1 (Nat.le_refl _) (Nat.le_refl _)

set_option maxHeartbeats 600000 in
theorem itemOf_at {w : World} {A : Option Addr} {c : Nat} {L : List M.Item} (D : SeesI w A L) {i : Nat} (hi : i < L.length) (hf : ∀ j (hj : j < i), (L[j]'(by omega)).key ≠ L[i].key) :
    ∃ u, RdInts .i64 w 0 w.heap.size u L[i].pos ∧ ∀ W, w.grownBy W none → Calls Try.prog 37 #[.slice A L.length c, .int .i64 L[i].key] W fun e w' => e = .returned (.agg #[.int .i64 L[i].key, u, .int .i64 L[i].tags]) ∧ W.grownBy w' none := by
  obtain ⟨b, o, rfl, hb1, hb2, hI⟩ := D.1.at_ (List.getElem?_eq_getElem hi)
  obtain ⟨u, c0, c1, c2, hu⟩ := hI
  refine ⟨u, hu, fun W hW => ?_⟩
  obtain ⟨Au, cu, rfl, hcu, hru⟩ := hu
  have hl := D.2.1
  obtain ⟨n, hn⟩ : ∃ n, n = L.length := ⟨_, rfl⟩
  rw [← hn] at hl ⊢
  have HL := Lib.hid hn
  have HR := Lib.hid D.1
  have hin : (i : Int) < n := by omega
  obtain ⟨x, hx⟩ : ∃ x, x = L[i] := ⟨_, rfl⟩
  have HF : Hid (∀ j y, j < i → L[j]? = some y → y.key ≠ x.key) := Lib.hid (fun j y hj hy => by rw [List.getElem?_eq_getElem (show j < L.length by omega)] at hy; injection hy with hy; subst hy; rw [hx]; exact hf j hj)
  rw [← hx] at c0 c1 c2 ⊢
  have HW := Lib.hid hW
  have HI := Lib.hid hi
  have d0 : W.cell? ⟨b, o + i * 3, none⟩ = some (.int .i64 x.key) := hW.cell c0 (by simp)
  have d1 : W.cell? ⟨b, o + i * 3 + 1, none⟩ = some (.slice Au x.pos.length cu) := hW.cell c1 (by simp)
  have d2 : W.cell? ⟨b, o + i * 3 + 2, none⟩ = some (.int .i64 x.tags) := hW.cell c2 (by simp)
  have hbW : b < W.heap.size := by have := hW.size; omega
  generalize x.pos.length = q at *
  clear c0 c1 c2 hn hf hW hx hcu hru D
  go_enter Try.func37, Try.ntmps37
  go_wp2_with fail
  refine wp_name (fun W2 => Row W2 W.heap.size 49 [.int .i64 0, .slice none 0 0, .int .i64 0] ∧ W.grownBy W2 none) ⟨Row.new W _ rfl, gb_alloc (gb_refl _ _) _⟩ ?_
  rintro W2 ⟨r0, hg⟩
  have e0 : W2.cell? ⟨b, o + i * 3, none⟩ = some (.int .i64 x.key) := hg.cell d0 (by simp)
  have e1 : W2.cell? ⟨b, o + i * 3 + 1, none⟩ = some (.slice Au q cu) := hg.cell d1 (by simp)
  have e2 : W2.cell? ⟨b, o + i * 3 + 2, none⟩ = some (.int .i64 x.tags) := hg.cell d2 (by simp)
  have HG := Lib.hid hg
  have B := Lib.hid r0
  clear d0 d1 d2 hg r0
  go_loop [5] (fun s => ∃ k : Nat, k ≤ i ∧ s = .int .i64 k) (fun s => i + 1 - (intOf s).toNat)
  case atStart => exact ⟨0, Nat.zero_le _, rfl⟩
  case round =>
    obtain ⟨k, hk, rfl⟩ := hrel
    have kn : (k : Int) < n := by omega
    have k0 : (0 : Int) ≤ k := by omega
    by_cases hki : k = i
    · subst hki
      have q0 := B.out.cell 0
      have q1 := B.out.cell 1
      have q2 := B.out.cell 2
      have qf0 := B.out.frozen 0
      have qf1 := B.out.frozen 1
      have qf2 := B.out.frozen 2
      simp only [List.getElem?_cons_zero, List.getElem?_cons_succ] at q0 q1 q2
      have hne : ¬ b = W.heap.size := by omega
      have t1 : (x.key == x.key) = true := by simp
      go_wp2_with fail
      refine bodyPost_ret (v := .agg #[.int .i64 x.key, .slice Au q cu, .int .i64 x.tags]) (by simp [results, Try.results37, go_sem, q0, q1, q2]) rfl ⟨rfl, ?_⟩
      repeat (with_reducible refine gb_setCell (p := ⟨_, _, none⟩) ?_ (.inl (by show _ ≤ W.heap.size; omega)) _)
      exact HG.out
    · have hkl : k < L.length := by have := HI.out; omega
      obtain ⟨b', o', he, hb3, hb4, hJ⟩ := HR.out.at_ (List.getElem?_eq_getElem hkl)
      simp only [Option.some.injEq, Addr.mk.injEq, and_true] at he
      obtain ⟨rfl, rfl⟩ := he
      obtain ⟨v, f0, f1, f2, hv⟩ := hJ
      have g0 : W2.cell? ⟨b, o + k * 3, none⟩ = some (.int .i64 L[k].key) := HG.out.cell (HW.out.cell f0 (by simp)) (by simp)
      have t1 : (L[k].key == x.key) = false := beq_eq_false_iff_ne.2 (HF.out k _ (by omega) (List.getElem?_eq_getElem hkl))
      generalize L[k].key = z at *
      clear f0 f1 f2 hv
      go_wp2_with fail
      go_round
      case rel => exact ⟨k + 1, by omega, by go_num⟩
      case measure => simp [intOf]; omega

end Go.Proofs.Ythohidhhhknnaaa
