/- The walks of distances and of the comparison of items. -/
import Derived.Test.YthoakomccjjhbaaIdxW
import Derived.Test.YthoakomccjjhbaaPure
import Derived.WalkLawsBesides
namespace Go.Proofs.Ythoakomccjjhbaa
open Go.RowKit
set_option linter.unusedVariables false
set_option maxRecDepth 100000
set_option linter.unusedSimpArgs false

theorem specSize_any (w : World) (n : Int) (h0 : -1000 ≤ n) (h1 : n ≤ 1000) :
    Calls Try.prog 111 #[.int .i64 n] w fun e w' => e = .returned (.int .i64 (M.abs n)) ∧ w = w' := by
  by_cases h : n < 0
  · go_enter Try.func111, Try.ntmps111
    go_wp2_with fail
    go_ret
    exact ⟨ret_int (by simp [M.abs, h]), rfl⟩
  · go_enter Try.func111, Try.ntmps111
    go_wp2_with fail
    go_ret
    exact ⟨ret_int (by simp [M.abs, h]; try omega), rfl⟩
theorem specToInt_any (w : World) (b : Bool) :
    Calls Try.prog 93 #[.bool b] w fun e w' => e = .returned (.int .i64 (if b then 1 else 0)) ∧ w = w' := by
  cases b
  · show Calls Try.prog 93 #[.bool false] w fun e w' => e = .returned (.int .i64 0) ∧ w = w'
    go_enter Try.func93, Try.ntmps93
    go_wp2_with fail
    go_ret
    exact ⟨rfl, rfl⟩
  · show Calls Try.prog 93 #[.bool true] w fun e w' => e = .returned (.int .i64 1) ∧ w = w'
    go_enter Try.func93, Try.ntmps93
    go_wp2_with fail
    go_ret
    exact ⟨rfl, rfl⟩
theorem getD_rng {l : List Int} (hl : ∀ x ∈ l, -100 ≤ x ∧ x ≤ 100) (k : Nat) : -100 ≤ l.getD k 0 ∧ l.getD k 0 ≤ 100 := by
  rw [List.getD_eq_getElem?_getD]
  cases h : l[k]? with
  | none => simp
  | some x => exact hl x (List.mem_of_getElem? h)
set_option maxHeartbeats 1000000 in
theorem specDist_any {w : World} {A B : Option Addr} {c d : Nat} {l m : List Int} {kind : Int} (hn : l.length ≤ 1048576) (he : l.length = m.length) (hl : ∀ x ∈ l, -100 ≤ x ∧ x ≤ 100) (hm : ∀ x ∈ m, -100 ≤ x ∧ x ≤ 100)
    (hk0 : 1 ≤ kind) (hk1 : kind ≤ 4) (hr : Rd w 0 w.heap.size A (l.map (.int .i64))) (hs : Rd w 0 w.heap.size B (m.map (.int .i64))) :
    Calls Try.prog 97 #[.int .i64 kind, .slice A l.length c, .slice B m.length d] w fun e w' => e = .returned (.int .i64 (M.dist kind l m)) ∧ ∃ n, w' = w.drewN n := by
  rw [← he]
  have HE := Lib.hid he
  have HD := Lib.hid (fun k => M.distTo_rng (kind := kind) hl hm k)
  have HL := Lib.hid (getD_rng hl)
  have HM := Lib.hid (getD_rng hm)
  have HR := Lib.hid hr
  have HS := Lib.hid hs
  obtain ⟨N, hN⟩ : ∃ n, n = l.length := ⟨_, rfl⟩
  rw [← hN] at hn ⊢
  have HN := Lib.hid hN
  clear he hl hm hr hs hN
  go_enter Try.func97, Try.ntmps97
  go_wp2_with fail
  go_loopw [7, 8] (fun s i wr => ∃ k q : Nat, k ≤ N ∧ i = .int .i64 k ∧ s = .int .i64 (M.distTo kind l m k) ∧ wr = w.drewN q) (fun s i _ => N - (intOf i).toNat)
  case atStart => exact ⟨0, 0, Nat.zero_le _, rfl, rfl, rfl⟩
  case round =>
    obtain ⟨k, q, hk, rfl, rfl, hW⟩ := hrel
    have HW := Lib.hid hW
    clear hW
    by_cases hlt : k < N
    · have hkl : k < l.length := by rw [← HN.out]; exact hlt
      have hkm : k < m.length := by rw [← HE.out]; exact hkl
      obtain ⟨b, o, rfl, _, _, c0⟩ := HR.out.at_ (j := k) (u := .int .i64 (l.getD k 0)) (by simp [hkl])
      obtain ⟨b', o', rfl, _, _, c1⟩ := HS.out.at_ (j := k) (u := .int .i64 (m.getD k 0)) (by simp [hkm])
      have hD := HD.out k
      have hD' := HD.out (k + 1)
      have h1 := HL.out k
      have h2 := HM.out k
      have HC := Lib.hid (fun W => specSize_any W (l.getD k 0 - m.getD k 0) (by omega) (by omega))
      have eD : M.distTo kind l m (k + 1) = M.dstep kind (M.distTo kind l m k) (M.abs (l.getD k 0 - m.getD k 0)) := rfl
      rw [eD] at hD'
      have HX := Lib.hid eD
      have h3 : 0 ≤ M.abs (l.getD k 0 - m.getD k 0) ∧ M.abs (l.getD k 0 - m.getD k 0) ≤ 200 := by unfold M.abs; split <;> omega
      clear eD
      generalize M.distTo kind l m k = s at *
      generalize l.getD k 0 = x at *
      generalize m.getD k 0 = y at *
      generalize hd : M.abs (x - y) = e at *
      have c0 : wr.cell? ⟨b, o + k, none⟩ = some (.int .i64 x) := by rw [HW.out]; exact (gb_drewN (gb_refl w none) q).cell c0 (by simp)
      have c1 : wr.cell? ⟨b', o' + k, none⟩ = some (.int .i64 y) := by rw [HW.out]; exact (gb_drewN (gb_refl w none) q).cell c1 (by simp)
      have hw : IntKind.i64.wrap (x - y) = x - y := IntWalk.i64_in _ (by omega)
      go_wp2_with fail
      go_quiet ((go_at_call 111; exact quiet_here (HC.out _)))
      have hW' : ∃ p, wr.drewN nq = w.drewN p := ⟨q + nq, by rw [HW.out, World.drewN_drewN]⟩
      have HW' := Lib.hid hW'
      clear hW'
      have hz := M.sq_le h3.1 h3.2
      have w1 : IntKind.i64.wrap (e * e) = e * e := IntWalk.i64_in _ (by generalize e * e = z at *; omega)
      have w2 : IntKind.i64.wrap (s + e * e) = s + e * e := IntWalk.i64_in _ (by generalize e * e = z at *; omega)
      have w3 : IntKind.i64.wrap (s + e) = s + e := IntWalk.i64_in _ (by omega)
      have w4 : IntKind.i64.wrap (s + 1) = s + 1 := IntWalk.i64_in _ (by omega)
      clear hD' hz
      rcases (show kind = 1 ∨ kind = 2 ∨ kind = 3 ∨ kind = 4 by omega) with rfl | rfl | rfl | rfl
      · go_wp2_with fail
        obtain ⟨p, hp⟩ := HW'.out
        have HP := Lib.hid hp
        clear hp
        go_roundw
        case rel => exact ⟨k + 1, p, by omega, by go_num, by rw [HX.out]; simp [M.dstep], HP.out⟩
        case measure => simp [intOf]; omega
      · by_cases hse : s < e
        · go_wp2_with fail
          obtain ⟨p, hp⟩ := HW'.out
          have HP := Lib.hid hp
          clear hp
          go_roundw
          case rel => exact ⟨k + 1, p, by omega, by go_num, by rw [HX.out]; simp [M.dstep, hse], HP.out⟩
          case measure => simp [intOf]; omega
        · go_wp2_with fail
          obtain ⟨p, hp⟩ := HW'.out
          have HP := Lib.hid hp
          clear hp
          go_roundw
          case rel => exact ⟨k + 1, p, by omega, by go_num, by rw [HX.out]; simp [M.dstep, hse], HP.out⟩
          case measure => simp [intOf]; omega
      · go_wp2_with fail
        obtain ⟨p, hp⟩ := HW'.out
        have HP := Lib.hid hp
        clear hp
        go_roundw
        case rel => exact ⟨k + 1, p, by omega, by go_num, by rw [HX.out]; simp [M.dstep], HP.out⟩
        case measure => simp [intOf]; omega
      · have HT := Lib.hid (specToInt_any)
        by_cases h0e : 0 < e
        · have t0 : decide (0 < e) = true := by simp [h0e]
          go_wp2_with (go_at_call 93; refine (HT.out _ _).mono ?_; rintro e' w' ⟨rfl, rfl⟩)
          obtain ⟨p, hp⟩ := HW'.out
          have HP := Lib.hid hp
          clear hp
          go_roundw
          case rel => exact ⟨k + 1, p, by omega, by go_num, by rw [HX.out]; simp only [M.dstep, h0e]; simp; try omega, HP.out⟩
          case measure => simp [intOf]; omega
        · have t0 : decide (0 < e) = false := by simp [h0e]
          go_wp2_with (go_at_call 93; refine (HT.out _ _).mono ?_; rintro e' w' ⟨rfl, rfl⟩)
          obtain ⟨p, hp⟩ := HW'.out
          have HP := Lib.hid hp
          clear hp
          go_roundw
          case rel => exact ⟨k + 1, p, by omega, by go_num, by rw [HX.out]; simp only [M.dstep, h0e]; simp; try omega, HP.out⟩
          case measure => simp [intOf]; omega
    · obtain rfl : k = N := by omega
      go_wp2_with fail
      go_ret
      exact ⟨ret_int (by rw [HN.out]; rfl), q, HW.out⟩

theorem sameB_comm3 {x y : M.Item} : M.sameB x y = (x.key == y.key && (x.tags == y.tags && decide (x.pos = y.pos))) := by
  unfold M.sameB
  cases x.key == y.key <;> cases x.tags == y.tags <;> cases decide (x.pos = y.pos) <;> rfl
/-- two slices of numbers are compared -/
theorem slicesEqual_i64 (w : World) (A B : Option Addr) (c d : Nat) (l m : List Int) (lo hi lo' hi' : Nat) (hl : l.length ≤ 1073741824) (hr : Rd w lo hi A (l.map (.int .i64))) (hs : Rd w lo' hi' B (m.map (.int .i64))) :
    Calls Try.prog 98 #[.slice A l.length c, .slice B m.length d] w fun e w' => e = .returned (.bool (decide (l = m))) ∧ ∃ n, w' = w.drewN n := by
  by_cases hlm : l.length = m.length
  · obtain ⟨L, hL⟩ : ∃ L, L = l.length := ⟨_, rfl⟩
    rw [← hlm, ← hL] 
    rw [← hL] at hl
    have HM := Lib.hid (hL.trans hlm)
    have HL := Lib.hid hL
    have HR := Lib.hid hr
    have HS := Lib.hid hs
    clear hL hr hs hlm
    have t0 : ((L : Int) != L) = false := by simp
    go_enter Try.func98, Try.ntmps98
    go_wp2
    go_loopw [13] (fun i wr => ∃ k : Nat, k ≤ L ∧ i = .int .i64 k ∧ l.take k = m.take k ∧ ∃ n, wr = w.drewN n) (fun i _ => L - (intOf i).toNat)
    case atStart => exact ⟨0, Nat.zero_le _, rfl, rfl, 0, rfl⟩
    case round =>
      obtain ⟨k, hk, rfl, he, q, rfl⟩ := hrel
      have HE := Lib.hid he
      clear he
      by_cases hlt : k < L
      · have hkl : k < l.length := by rw [← HL.out]; exact hlt
        have hkm : k < m.length := by rw [← HM.out]; exact hlt
        obtain ⟨b, o, rfl, _, _, hc⟩ := HR.out.at_ (j := k) (u := .int .i64 l[k]) (by simp [hkl])
        obtain ⟨b', o', rfl, _, _, hc'⟩ := HS.out.at_ (j := k) (u := .int .i64 m[k]) (by simp [hkm])
        have hi1 : (k : Int) < L := by omega
        have hi0 : (0 : Int) ≤ k := by omega
        by_cases hx : l[k] = m[k]
        · have hN : l.take (k + 1) = m.take (k + 1) := by
            rw [List.take_succ_eq_append_getElem hkl, List.take_succ_eq_append_getElem hkm, HE.out, hx]
          have HN := Lib.hid hN
          rw [hx] at hc
          generalize m[k] = x at *
          clear hN hx
          have t1 : (x != x) = false := by simp
          go_wp2
          go_quiet (fail)
          go_wp2
          go_roundw
          case rel => exact ⟨k + 1, by omega, by go_num, HN.out, _, rfl⟩
          case measure => simp [intOf]; omega
        · have hN : decide (l = m) = false := decide_eq_false (fun e => hx (by subst e; rfl))
          have HD := Lib.hid hN
          have t1 : (l[k] != m[k]) = true := by simpa using hx
          generalize m[k] = x at *
          generalize l[k] = y at *
          clear hN hx
          go_wp2
          go_quiet (fail)
          go_wp2
          go_ret
          exact ⟨ret_bool HD.out.symm, by first | exact ⟨_, rfl⟩ | exact ⟨_, World.drewN_drewN _ _ _⟩⟩
      · obtain rfl : k = L := by omega
        have hN : decide (l = m) = true := decide_eq_true (by
          have := HE.out
          rwa [List.take_of_length_le (by rw [HL.out]; exact Nat.le_refl _), List.take_of_length_le (by rw [HM.out]; exact Nat.le_refl _)] at this)
        have HD := Lib.hid hN
        clear hN
        go_wp2
        go_ret
        exact ⟨ret_bool HD.out.symm, by first | exact ⟨_, rfl⟩ | exact ⟨_, World.drewN_drewN _ _ _⟩⟩
  · have hN : decide (l = m) = false := decide_eq_false (fun e => hlm (by rw [e]))
    rw [hN]
    have t0 : ((l.length : Int) != m.length) = true := by rw [bne_iff_ne]; omega
    generalize l.length = L at *
    generalize m.length = L' at *
    clear hN hr hs hlm
    go_enter Try.func98, Try.ntmps98
    go_wp2
    go_ret
    exact ⟨rfl, 0, rfl⟩
set_option maxHeartbeats 1000000 in
theorem specSame_any (w : World) (u v : Value) (x y : M.Item) (hn : x.pos.length ≤ 1048576) (he : x.pos.length = y.pos.length) (hl : ∀ a ∈ x.pos, -100 ≤ a ∧ a ≤ 100) (hm : ∀ a ∈ y.pos, -100 ≤ a ∧ a ≤ 100)
    (hr : RdInts .i64 w 0 w.heap.size u x.pos) (hs : RdInts .i64 w 0 w.heap.size v y.pos) :
    Calls Try.prog 76 #[.agg #[.int .i64 x.key, u, .int .i64 x.tags], .agg #[.int .i64 y.key, v, .int .i64 y.tags]] w fun e w' => e = .returned (.bool (M.sameB x y)) ∧ w.grownBy w' none := by
  rw [sameB_comm3]
  obtain ⟨A, c, rfl, hc, hrd⟩ := hr
  obtain ⟨B, d, rfl, hd, hsd⟩ := hs
  obtain ⟨k, l, t⟩ := x
  obtain ⟨k', m, t'⟩ := y
  have HR := Lib.hid hrd
  have HS := Lib.hid hsd
  have HC : Hid (∀ W : World, w.grownBy W none → Calls Try.prog 97 #[.int .i64 4, .slice A l.length c, .slice B m.length d] W fun e w' => e = .returned (.int .i64 (M.dist 4 l m)) ∧ ∃ n, w' = W.drewN n) := Lib.hid fun W hW =>
    specDist_any hn he hl hm (by omega) (by omega) ((HR.out.agree (fun b _ h => (Agree.of_grown hW) b (Nat.zero_le _) (by omega))).wide (Nat.le_refl _) hW.size) ((HS.out.agree (fun b _ h => (Agree.of_grown hW) b (Nat.zero_le _) (by omega))).wide (Nat.le_refl _) hW.size)
  have HQ := Lib.hid (M.dist_count he)
  clear hrd hsd hn he hl hm
  show Calls Try.prog 76 #[.agg #[.int .i64 k, .slice A l.length c, .int .i64 t], .agg #[.int .i64 k', .slice B m.length d, .int .i64 t']] w fun e w' => e = .returned (.bool (k == k' && (t == t' && decide (l = m)))) ∧ w.grownBy w' none
  have G2 := Lib.hid (gb_alloc (gb_alloc (gb_refl w none) (.cells #[.int .i64 k, .slice A l.length c, .int .i64 t] 28)) (.cells #[.int .i64 k', .slice B m.length d, .int .i64 t'] 28))
  by_cases hk : k = k'
  · subst hk
    have tk : (k == k) = true := by simp
    by_cases ht : t = t'
    · subst ht
      have tt : (t == t) = true := by simp
      have HQ' : Hid ((M.dist 4 l m == 0) = decide (l = m)) := Lib.hid (by rw [Bool.eq_iff_iff]; simp; exact HQ.out)
      clear HQ
      generalize M.dist 4 l m = z at *
      go_enter Try.func76, Try.ntmps76
      go_wp2_with (go_at_call 97; refine (HC.out _ G2.out).mono ?_; rintro e w' ⟨rfl, q, rfl⟩)
      go_ret
      exact ⟨ret_bool (by simp [← HQ'.out]), gb_drewN G2.out q⟩
    · have tt : (t == t') = false := beq_eq_false_iff_ne.2 ht
      have HT := Lib.hid tt
      go_enter Try.func76, Try.ntmps76
      go_wp2_with fail
      go_ret
      exact ⟨rfl, G2.out⟩
  · have tk : (k == k') = false := beq_eq_false_iff_ne.2 hk
    have HT := Lib.hid tk
    go_enter Try.func76, Try.ntmps76
    go_wp2_with fail
    go_ret
    exact ⟨rfl, G2.out⟩
set_option maxHeartbeats 1000000 in
theorem implSame_any (w : World) (u v : Value) (x y : M.Item) (hn : x.pos.length ≤ 1048576)
    (hr : RdInts .i64 w 0 w.heap.size u x.pos) (hs : RdInts .i64 w 0 w.heap.size v y.pos) :
    Calls Try.prog 77 #[.agg #[.int .i64 x.key, u, .int .i64 x.tags], .agg #[.int .i64 y.key, v, .int .i64 y.tags]] w fun e w' => e = .returned (.bool (M.sameB x y)) ∧ w.grownBy w' none := by
  show Calls Try.prog 77 #[.agg #[.int .i64 x.key, u, .int .i64 x.tags], .agg #[.int .i64 y.key, v, .int .i64 y.tags]] w fun e w' => e = .returned (.bool (x.key == y.key && decide (x.pos = y.pos) && x.tags == y.tags)) ∧ w.grownBy w' none
  obtain ⟨A, c, rfl, hc, hrd⟩ := hr
  obtain ⟨B, d, rfl, hd, hsd⟩ := hs
  obtain ⟨k, l, t⟩ := x
  obtain ⟨k', m, t'⟩ := y
  have HR := Lib.hid hrd
  have HS := Lib.hid hsd
  have hn' : l.length ≤ 1048576 := hn
  have HC : Hid (∀ W : World, w.grownBy W none → Calls Try.prog 98 #[.slice A l.length c, .slice B m.length d] W fun e w' => e = .returned (.bool (decide (l = m))) ∧ ∃ n, w' = W.drewN n) := Lib.hid fun W hW =>
    slicesEqual_i64 W A B c d l m 0 w.heap.size 0 w.heap.size (by omega) (HR.out.agree (fun b _ h => (Agree.of_grown hW) b (Nat.zero_le _) (by omega))) (HS.out.agree (fun b _ h => (Agree.of_grown hW) b (Nat.zero_le _) (by omega)))
  clear hrd hsd hn hn'
  show Calls Try.prog 77 #[.agg #[.int .i64 k, .slice A l.length c, .int .i64 t], .agg #[.int .i64 k', .slice B m.length d, .int .i64 t']] w fun e w' => e = .returned (.bool (k == k' && decide (l = m) && t == t')) ∧ w.grownBy w' none
  have G2 := Lib.hid (gb_alloc (gb_alloc (gb_refl w none) (.cells #[.int .i64 k, .slice A l.length c, .int .i64 t] 28)) (.cells #[.int .i64 k', .slice B m.length d, .int .i64 t'] 28))
  by_cases hk : k = k'
  · subst hk
    have tk : (k == k) = true := by simp
    generalize hb : decide (l = m) = z at *
    have HB := Lib.hid hb
    clear hb
    cases z
    · go_enter Try.func77, Try.ntmps77
      go_wp2_with (go_at_call 98; refine (HC.out _ G2.out).mono ?_; rintro e w' ⟨rfl, q, rfl⟩)
      go_ret
      exact ⟨ret_bool (by simp), gb_drewN G2.out q⟩
    · by_cases ht : t = t'
      · subst ht
        have tt : (t == t) = true := by simp
        go_enter Try.func77, Try.ntmps77
        go_wp2_with (go_at_call 98; refine (HC.out _ G2.out).mono ?_; rintro e w' ⟨rfl, q, rfl⟩)
        go_ret
        exact ⟨ret_bool (by simp), gb_drewN G2.out q⟩
      · have tt : (t == t') = false := beq_eq_false_iff_ne.2 ht
        have HT := Lib.hid tt
        go_enter Try.func77, Try.ntmps77
        go_wp2_with (go_at_call 98; refine (HC.out _ G2.out).mono ?_; rintro e w' ⟨rfl, q, rfl⟩)
        go_ret
        exact ⟨ret_bool (by simp [HT.out]), gb_drewN G2.out q⟩
  · have tk : (k == k') = false := beq_eq_false_iff_ne.2 hk
    have HT := Lib.hid tk
    go_enter Try.func77, Try.ntmps77
    go_wp2_with fail
    go_ret
    exact ⟨rfl, G2.out⟩
end Go.Proofs.Ythoakomccjjhbaa
