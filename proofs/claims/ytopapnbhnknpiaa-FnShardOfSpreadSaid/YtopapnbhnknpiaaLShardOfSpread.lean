/- FnShardOfSpread: shards share keys: proved for every input, with no condition. -/
import Derived.Test.YtopapnbhnknpiaaLShardOf
namespace Go.Proofs.Ytopapnbhnknpiaa
open Go.ChangeShapes Go.WideShapes Go.ChangeAt Go.RowKit
set_option linter.unusedVariables false

theorem shard_thirteen {s : Int} (h1 : 2 ≤ s) (h2 : s ≤ 8) : M.shardOf 13 s = 0 := by
  unfold M.shardOf
  rw [if_pos ⟨by decide, M.inR_of (by omega) h2⟩]
  unfold M.sh
  rw [show (389 : Int) * 13 % 1009 = 12 from by decide]
  omega
theorem shard_five {s : Int} (h1 : 2 ≤ s) (h2 : s ≤ 8) : 1 ≤ M.shardOf 5 s := by
  unfold M.shardOf
  rw [if_pos ⟨by decide, M.inR_of (by omega) h2⟩]
  unfold M.sh
  rw [show (389 : Int) * 5 % 1009 = 936 from by decide]
  omega

/-- what holds of 'some' when the keys below k were asked -/
def Sp (s n : Int) (k : Nat) (b : Bool) : Prop := (5 < k → M.shardOf 5 s ≠ n → b = true) ∧ (13 < k → M.shardOf 13 s ≠ n → b = true)
theorem Sp.step {s n : Int} {k : Nat} {b : Bool} (h : Sp s n k b) : Sp s n (k + 1) (b || M.shardOf k s != n) := by
  refine ⟨fun h1 h2 => ?_, fun h1 h2 => ?_⟩
  · rcases Nat.lt_or_ge 5 k with h3 | h3
    · rw [h.1 h3 h2]; rfl
    · obtain rfl : k = 5 := by omega
      have : (M.shardOf ((5 : Nat) : Int) s != n) = true := by simpa using h2
      rw [this]; simp
  · rcases Nat.lt_or_ge 13 k with h3 | h3
    · rw [h.2 h3 h2]; rfl
    · obtain rfl : k = 13 := by omega
      have : (M.shardOf ((13 : Nat) : Int) s != n) = true := by simpa using h2
      rw [this]; simp
theorem Sp.last {s n : Int} {b : Bool} (h : Sp s n 100 b) (h1 : 2 ≤ s) (h2 : s ≤ 8) : b = true := by
  by_cases h3 : n = 0
  · exact h.1 (by omega) (by have := shard_five h1 h2; omega)
  · exact h.2 (by omega) (by rw [shard_thirteen h1 h2]; omega)

namespace fnShardOfSpread
theorem walk (w : World) (A : Option Addr) (c : Nat) (bs : List Int) (h1 : bs.length ≤ c) (h2 : ∀ x ∈ bs, 0 ≤ x ∧ x ≤ 255) (h3 : Rd w 0 w.heap.size A (bs.map (.int .u8))) :
    Calls Try.prog 7 #[.slice A bs.length c] w fun e w' => e = .returned (.bool true) ∧ w.grownBy w' none := by
  have H1 := Lib.hid h1
  have H2 := Lib.hid h2
  have H3 := Lib.hid h3
  clear h1 h2 h3
  by_cases hb : bs.length ≤ 1048576
  · go_enter Try.func7, Try.ntmps7
    go_wp2_with fail
    refine (drawShardOf_any _ A c bs H1.out hb H2.out H3.out).mono ?_
    rintro e w1 ⟨k, s, hk0, hk1, hs0, hs1, rfl, hg⟩
    have HG := Lib.hid hg
    clear hg
    by_cases hn : 0 ≤ M.shardOf k s
    · obtain ⟨a1, a2, a3, a4, -, a5⟩ := shardOf_range hn
      generalize hm : M.shardOf k s = m at *
      have t : (m != m) = false := by simp
      have t' : (m == m) = true := by simp
      by_cases hs : 2 ≤ s
      · have HM := Lib.hid hm
        clear hm
        go_wp2_with (first | (go_at_call 12; refine (ShardOf_impl _ _ _).mono ?_; rintro e w' ⟨rfl, rfl⟩; rw [HM.out]) | (go_at_call 11; refine (ShardOf_spec _ _ _).mono ?_; rintro e w' ⟨rfl, rfl⟩; rw [HM.out]))
        go_loop [6, 7] (fun b i => ∃ (k : Nat) (x : Bool), 1 ≤ k ∧ k ≤ 100 ∧ i = .int .i64 k ∧ b = .bool x ∧ Sp s m k x) (fun _ i => 100 - (intOf i).toNat)
        case atStart => exact ⟨1, false, by omega, by omega, rfl, rfl, fun h => by omega, fun h => by omega⟩
        case round =>
          obtain ⟨j, x, hj1, hj2, rfl, rfl, hsp⟩ := hrel
          have HS := Lib.hid hsp
          clear hsp
          by_cases hlt : j ≤ 99
          · cases x
            · have HN := Lib.hid HS.out.step
              generalize hy : M.shardOf (j : Int) s = y at *
              have HY := Lib.hid hy
              clear hy
              go_wp2_with (go_at_call 12; refine (ShardOf_impl _ _ _).mono ?_; rintro e w' ⟨rfl, rfl⟩; rw [HY.out])
              go_round
              case rel => exact ⟨j + 1, _, by omega, by omega, by go_num, rfl, HN.out⟩
              case measure => simp [intOf]; omega
            · have HN := Lib.hid HS.out.step
              go_wp2_with fail
              go_round
              case rel => exact ⟨j + 1, _, by omega, by omega, by go_num, rfl, HN.out⟩
              case measure => simp [intOf]; omega
          · obtain rfl : j = 100 := by omega
            have hx := HS.out.last hs a4
            subst hx
            go_wp2_with fail
            go_ret
            exact ⟨rfl, HG.out⟩
      · go_wp2_with (first | (go_at_call 12; refine (ShardOf_impl _ _ _).mono ?_; rintro e w' ⟨rfl, rfl⟩) | (go_at_call 11; refine (ShardOf_spec _ _ _).mono ?_; rintro e w' ⟨rfl, rfl⟩))
        go_ret
        exact ⟨rfl, HG.out⟩
    · generalize hm : M.shardOf k s = m at *
      have t : (m != m) = false := by simp
      have t' : (m == m) = true := by simp
      go_wp2_with (first | (go_at_call 12; refine (ShardOf_impl _ _ _).mono ?_; rintro e w' ⟨rfl, rfl⟩) | (go_at_call 11; refine (ShardOf_spec _ _ _).mono ?_; rintro e w' ⟨rfl, rfl⟩))
      go_ret
      exact ⟨rfl, HG.out⟩
  · have hb' : (1048576 : Int) < bs.length := by omega
    generalize bs.length = L at *
    go_enter Try.func7, Try.ntmps7
    go_wp2
    go_ret
    exact ⟨rfl, gb_refl _ _⟩
end fnShardOfSpread
/-! the row's step -/
namespace fnShardOfSpread
set_option maxRecDepth 100000 in
theorem lifted (os : Os) (started : os.Started) (H : Type) (enc : TypeId × Value → H) :
    ReturnsInHanded {} Try.checked os 7 .any (Rows.fnShardOfSpreadSpec.pre6 enc Try.prog Try.f7 Rows.fnShardOfSpreadRow.domain false) (Rows.fnShardOfSpreadSpec.post enc Try.prog Try.f7 false true false false) := by
  refine returnsInHanded_of_change (C := Try.checked) own started (by kernel_rfl) Try.func7
    (ChangeSpec.witness6 (enc := enc) (C := Try.checked) false ⟨#[], #[.slice none 0 0], []⟩ 8 (by kernel_rfl) (by kernel_rfl) (by kernel_rfl) (by kernel_rfl)) ?_
  intro W base args ds gs before hval0 hW hcnd _
  have hval : ∀ (j : Nat) t v, Try.f7.params[j]? = some t → args[j]? = some v → Value.okWide Try.prog W .any base t v := hval0
  have hW' := hW
  obtain ⟨p, q, hA0, hV, rfl, hfz, hnd⟩ := hW
  have hA : DataW.TrodAll enc Try.prog W 0 (fun _ => true) true Try.f7.params.toList args.toList ds p := hA0
  rw [Try.params7] at hA hval
  obtain ⟨v0, vs0, d0, ds0, p0, q0, hargs, rfl, rfl, h0, r0⟩ := trodAll_cons hA
  obtain ⟨rfl, rfl, rfl⟩ := trodAll_nil r0
  obtain rfl : args = #[v0] := by cases args; simp_all
  obtain ⟨rfl, rfl⟩ := trodVars_none hV
  obtain ⟨a0, len0, cap0, rfl⟩ := okWide_slice Try.underlying24 (hval 0 24 v0 rfl rfl)
  have k0 := h0
  have lt0 : ∀ x ∈ p0, x.block < W.heap.size := by obtain ⟨m, hm⟩ := k0; exact DataW.trod_lt m _ _ _ hm
  obtain ⟨bs, rfl, b1, b2, b3⟩ := code_row h0
  clear hA0 hval0
  refine (walk W a0 cap0 bs b1 b2 b3).mono fun e W' ⟨he, bel0⟩ => ?_
  have bel := gb_below bel0
  subst he
  exact ⟨_, rfl, _, _, _, [], _, [], hW', trodAll_mk1 (shut_bool Try.underlying4 _), (trodAll_cons_mk (Below.trod laidOut (by kernel_rfl) (of_decide_eq_true (by kernel_rfl)) k0 bel lt0) trodAll_mk0), rfl, bel.frame _, fun h => by cases h⟩
set_option maxRecDepth 100000 in
theorem over : Rows.fnShardOfSpreadRow.holds Try.pinned (OpenSpec.ofChange Rows.fnShardOfSpreadSpec) :=
  OpenClaim.holds_of_wide 7 Try.f7 rfl rfl rfl rfl rfl rfl rfl ⟨rfl, rfl, rfl, rfl, rfl⟩ rfl rfl rfl rfl rfl (by kernel_rfl) Try.func7 (by kernel_rfl)
    (of_decide_eq_true (by kernel_rfl)) (by unfold Func.isWrapper; first | (rw [if_pos (by decide +kernel)]; kernel_rfl) | (rw [if_neg (by decide +kernel)]; exact ⟨rfl, rfl⟩))
    (fun os started H enc _ => lifted os started H enc)
theorem proved : Rows.FnShardOfSpreadSaid := over
end fnShardOfSpread
end Go.Proofs.Ytopapnbhnknpiaa
