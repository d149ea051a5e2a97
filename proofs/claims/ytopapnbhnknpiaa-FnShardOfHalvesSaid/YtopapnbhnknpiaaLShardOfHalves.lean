/- FnShardOfHalves: shards are split in two: proved for every input, with no condition. -/
import Derived.Test.YtopapnbhnknpiaaLShardOf
namespace Go.Proofs.Ytopapnbhnknpiaa
open Go.ChangeShapes Go.WideShapes Go.ChangeAt Go.RowKit
set_option linter.unusedVariables false

theorem shardOf_twice {k s : Int} (h1 : 1 ≤ k) (h2 : k ≤ 99) (h3 : 1 ≤ s) (h4 : 2 * s ≤ 8) : M.shardOf k (2 * s) = 2 * M.shardOf k s ∨ M.shardOf k (2 * s) = 2 * M.shardOf k s + 1 := by
  unfold M.shardOf
  rw [if_pos ⟨M.inR_of h1 h2, M.inR_of (by omega) h4⟩, if_pos ⟨M.inR_of h1 h2, M.inR_of h3 (by omega)⟩]
  unfold M.sh
  generalize 389 * k % 1009 = x
  rw [show x * (2 * s) = 2 * (x * s) from by rw [← Int.mul_assoc, Int.mul_comm x 2, Int.mul_assoc]]
  generalize x * s = y
  omega

namespace fnShardOfHalves
theorem walk (w : World) (A : Option Addr) (c : Nat) (bs : List Int) (h1 : bs.length ≤ c) (h2 : ∀ x ∈ bs, 0 ≤ x ∧ x ≤ 255) (h3 : Rd w 0 w.heap.size A (bs.map (.int .u8))) :
    Calls Try.prog 6 #[.slice A bs.length c] w fun e w' => e = .returned (.bool true) ∧ w.grownBy w' none := by
  have H1 := Lib.hid h1
  have H2 := Lib.hid h2
  have H3 := Lib.hid h3
  clear h1 h2 h3
  by_cases hb : bs.length ≤ 1048576
  · go_enter Try.func6, Try.ntmps6
    go_wp2_with fail
    refine (drawShardOf_any _ A c bs H1.out hb H2.out H3.out).mono ?_
    rintro e w1 ⟨k, s, hk0, hk1, hs0, hs1, rfl, hg⟩
    have HG := Lib.hid hg
    clear hg
    by_cases hn : 0 ≤ M.shardOf k s
    · obtain ⟨a1, a2, a3, a4, -, a5⟩ := shardOf_range hn
      by_cases h8 : 2 * s ≤ 8
      · have h2n := shardOf_twice a1 a2 a3 h8
        generalize hm : M.shardOf k s = m at *
        generalize hz : M.shardOf k (2 * s) = z at *
        have t : (m != m) = false := by simp
        rcases h2n with h2n | h2n
        · have t1 : (z == 2 * m) = true := by simp [h2n]
          have HZ := Lib.hid h2n
          clear h2n
          go_wp2_with (first | (go_at_call 12; refine (ShardOf_impl _ _ _).mono ?_; rintro e w' ⟨rfl, rfl⟩) | (go_at_call 11; refine (ShardOf_spec _ _ _).mono ?_; rintro e w' ⟨rfl, rfl⟩))
          go_ret
          exact ⟨rfl, HG.out⟩
        · have t1 : (z == 2 * m) = false := beq_eq_false_iff_ne.2 (by omega)
          have t2 : (z == 2 * m + 1) = true := by simp [h2n]
          have HZ := Lib.hid h2n
          clear h2n
          go_wp2_with (first | (go_at_call 12; refine (ShardOf_impl _ _ _).mono ?_; rintro e w' ⟨rfl, rfl⟩) | (go_at_call 11; refine (ShardOf_spec _ _ _).mono ?_; rintro e w' ⟨rfl, rfl⟩))
          go_ret
          exact ⟨rfl, HG.out⟩
      · generalize hm : M.shardOf k s = m at *
        have t : (m != m) = false := by simp
        have t' : (m == m) = true := by simp
        go_wp2_with (first | (go_at_call 12; refine (ShardOf_impl _ _ _).mono ?_; rintro e w' ⟨rfl, rfl⟩) | (go_at_call 11; refine (ShardOf_spec _ _ _).mono ?_; rintro e w' ⟨rfl, rfl⟩))
        go_ret
        exact ⟨rfl, HG.out⟩
    · generalize hm : M.shardOf k s = m at *
      have t : (m != m) = false := by simp
      have t' : (m == m) = true := by simp
      go_wp2_with (first | (go_at_call 12; refine (ShardOf_impl _ _ _).mono ?_; rintro e w' ⟨rfl, rfl⟩) | (go_at_call 11; refine (ShardOf_spec _ _ _).mono ?_; rintro e w' ⟨rfl, rfl⟩))
      go_ret
      exact ⟨rfl, HG.out⟩
  · have hb' : (1048576 : Int) < bs.length := by omega
    generalize bs.length = L at *
    go_enter Try.func6, Try.ntmps6
    go_wp2
    go_ret
    exact ⟨rfl, gb_refl _ _⟩
end fnShardOfHalves
/-! the row's step -/
namespace fnShardOfHalves
set_option maxRecDepth 100000 in
theorem lifted (os : Os) (started : os.Started) (H : Type) (enc : TypeId × Value → H) :
    ReturnsInHanded {} Try.checked os 6 .any (Rows.fnShardOfHalvesSpec.pre6 enc Try.prog Try.f6 Rows.fnShardOfHalvesRow.domain false) (Rows.fnShardOfHalvesSpec.post enc Try.prog Try.f6 false true false false) := by
  refine returnsInHanded_of_change (C := Try.checked) own started (by kernel_rfl) Try.func6
    (ChangeSpec.witness6 (enc := enc) (C := Try.checked) false ⟨#[], #[.slice none 0 0], []⟩ 8 (by kernel_rfl) (by kernel_rfl) (by kernel_rfl) (by kernel_rfl)) ?_
  intro W base args ds gs before hval0 hW hcnd _
  have hval : ∀ (j : Nat) t v, Try.f6.params[j]? = some t → args[j]? = some v → Value.okWide Try.prog W .any base t v := hval0
  have hW' := hW
  obtain ⟨p, q, hA0, hV, rfl, hfz, hnd⟩ := hW
  have hA : DataW.TrodAll enc Try.prog W 0 (fun _ => true) true Try.f6.params.toList args.toList ds p := hA0
  rw [Try.params6] at hA hval
  obtain ⟨v0, vs0, d0, ds0, p0, q0, hargs, rfl, rfl, h0, r0⟩ := trodAll_cons hA
  obtain ⟨rfl, rfl, rfl⟩ := trodAll_nil r0
  obtain rfl : args = #[v0] := by cases args; simp_all
  obtain ⟨rfl, rfl⟩ := trodVars_none hV
  obtain ⟨a0, len0, cap0, rfl⟩ := okWide_slice Try.underlying24 (hval 0 24 v0 rfl rfl)
  have k0 := h0
  have lt0 : ∀ x ∈ p0, x.block < W.heap.size := by obtain ⟨m, hm⟩ := k0; exact DataW.trod_lt m _ _ _ hm
  obtain ⟨bs, rfl, b1, b2, b3⟩ := code_row h0
  clear hA0 hval0
  refine (walk W a0 cap0 bs b1 b2 b3).mono fun e W' ⟨he, bel0⟩ => ?_
  have bel := gb_below bel0
  subst he
  exact ⟨_, rfl, _, _, _, [], _, [], hW', trodAll_mk1 (shut_bool Try.underlying4 _), (trodAll_cons_mk (Below.trod laidOut (by kernel_rfl) (of_decide_eq_true (by kernel_rfl)) k0 bel lt0) trodAll_mk0), rfl, bel.frame _, fun h => by cases h⟩
set_option maxRecDepth 100000 in
theorem over : Rows.fnShardOfHalvesRow.holds Try.pinned (OpenSpec.ofChange Rows.fnShardOfHalvesSpec) :=
  OpenClaim.holds_of_wide 6 Try.f6 rfl rfl rfl rfl rfl rfl rfl ⟨rfl, rfl, rfl, rfl, rfl⟩ rfl rfl rfl rfl rfl (by kernel_rfl) Try.func6 (by kernel_rfl)
    (of_decide_eq_true (by kernel_rfl)) (by unfold Func.isWrapper; first | (rw [if_pos (by decide +kernel)]; kernel_rfl) | (rw [if_neg (by decide +kernel)]; exact ⟨rfl, rfl⟩))
    (fun os started H enc _ => lifted os started H enc)
theorem proved : Rows.FnShardOfHalvesSaid := over
end fnShardOfHalves
end Go.Proofs.Ytopapnbhnknpiaa
