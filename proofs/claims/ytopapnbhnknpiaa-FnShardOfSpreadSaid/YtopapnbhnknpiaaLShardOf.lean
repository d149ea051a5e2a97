/- FnShardOf: keys have shards: proved for every input, with no condition. -/
import Derived.Test.YtopapnbhnknpiaaFrame
import Derived.Test.YtopapnbhnknpiaaShardW
import Derived.Test.YtopapnbhnknpiaaDrawKW
namespace Go.Proofs.Ytopapnbhnknpiaa
open Go.ChangeShapes Go.WideShapes Go.ChangeAt Go.RowKit
set_option linter.unusedVariables false

theorem shardOf_range {k s : Int} (h : 0 ≤ M.shardOf k s) : 1 ≤ k ∧ k ≤ 99 ∧ 1 ≤ s ∧ s ≤ 8 ∧ M.shardOf k s = M.sh k s ∧ M.shardOf k s < s := by
  unfold M.shardOf at h ⊢
  by_cases hc : M.inR k 1 99 = true ∧ M.inR s 1 8 = true
  · rw [if_pos hc]
    have a1 := M.inR_true hc.1
    have a2 := M.inR_true hc.2
    refine ⟨a1.1, a1.2, a2.1, a2.2, rfl, ?_⟩
    unfold M.sh
    have b1 : 0 ≤ 389 * k % 1009 := by omega
    have b2 : 389 * k % 1009 ≤ 1008 := by omega
    generalize 389 * k % 1009 = x at *
    have b3 : x * s ≤ 1008 * s := Int.mul_le_mul_of_nonneg_right b2 (by omega)
    omega
  · rw [if_neg hc] at h
    omega
theorem shardOf_one {k : Int} (h1 : 1 ≤ k) (h2 : k ≤ 99) : M.shardOf k 1 = 0 := by
  unfold M.shardOf M.sh
  rw [if_pos ⟨M.inR_of h1 h2, by decide⟩]
  omega

namespace fnShardOf
theorem walk (w : World) (A : Option Addr) (c : Nat) (bs : List Int) (h1 : bs.length ≤ c) (h2 : ∀ x ∈ bs, 0 ≤ x ∧ x ≤ 255) (h3 : Rd w 0 w.heap.size A (bs.map (.int .u8))) :
    Calls Try.prog 5 #[.slice A bs.length c] w fun e w' => e = .returned (.bool true) ∧ w.grownBy w' none := by
  have H1 := Lib.hid h1
  have H2 := Lib.hid h2
  have H3 := Lib.hid h3
  clear h1 h2 h3
  by_cases hb : bs.length ≤ 1048576
  · go_enter Try.func5, Try.ntmps5
    go_wp2_with fail
    refine (drawShardOf_any _ A c bs H1.out hb H2.out H3.out).mono ?_
    rintro e w1 ⟨k, s, hk0, hk1, hs0, hs1, rfl, hg⟩
    have HG := Lib.hid hg
    clear hg
    by_cases hn : 0 ≤ M.shardOf k s
    · obtain ⟨a1, a2, a3, a4, -, a5⟩ := shardOf_range hn
      have h0 := shardOf_one a1 a2
      generalize hm : M.shardOf k s = m at *
      have t : (m != m) = false := by simp
      have t' : (m == m) = true := by simp
      go_wp2_with (first | (go_at_call 12; refine (ShardOf_impl _ _ _).mono ?_; rintro e w' ⟨rfl, rfl⟩) | (go_at_call 11; refine (ShardOf_spec _ _ _).mono ?_; rintro e w' ⟨rfl, rfl⟩))
      go_ret
      exact ⟨rfl, HG.out⟩
    · generalize hm : M.shardOf k s = m at *
      go_wp2_with (first | (go_at_call 12; refine (ShardOf_impl _ _ _).mono ?_; rintro e w' ⟨rfl, rfl⟩) | (go_at_call 11; refine (ShardOf_spec _ _ _).mono ?_; rintro e w' ⟨rfl, rfl⟩))
      go_ret
      exact ⟨rfl, HG.out⟩
  · have hb' : (1048576 : Int) < bs.length := by omega
    generalize bs.length = L at *
    go_enter Try.func5, Try.ntmps5
    go_wp2
    go_ret
    exact ⟨rfl, gb_refl _ _⟩
end fnShardOf
/-! the row's step -/
namespace fnShardOf
set_option maxRecDepth 100000 in
theorem lifted (os : Os) (started : os.Started) (H : Type) (enc : TypeId × Value → H) :
    ReturnsInHanded {} Try.checked os 5 .any (Rows.fnShardOfSpec.pre6 enc Try.prog Try.f5 Rows.fnShardOfRow.domain false) (Rows.fnShardOfSpec.post enc Try.prog Try.f5 false true false false) := by
  refine returnsInHanded_of_change (C := Try.checked) own started (by kernel_rfl) Try.func5
    (ChangeSpec.witness6 (enc := enc) (C := Try.checked) false ⟨#[], #[.slice none 0 0], []⟩ 8 (by kernel_rfl) (by kernel_rfl) (by kernel_rfl) (by kernel_rfl)) ?_
  intro W base args ds gs before hval0 hW hcnd _
  have hval : ∀ (j : Nat) t v, Try.f5.params[j]? = some t → args[j]? = some v → Value.okWide Try.prog W .any base t v := hval0
  have hW' := hW
  obtain ⟨p, q, hA0, hV, rfl, hfz, hnd⟩ := hW
  have hA : DataW.TrodAll enc Try.prog W 0 (fun _ => true) true Try.f5.params.toList args.toList ds p := hA0
  rw [Try.params5] at hA hval
  obtain ⟨v0, vs0, d0, ds0, p0, q0, hargs, rfl, rfl, h0, r0⟩ := trodAll_cons hA
  obtain ⟨rfl, rfl, rfl⟩ := trodAll_nil r0
  obtain rfl : args = #[v0] := by cases args; simp_all
  obtain ⟨rfl, rfl⟩ := trodVars_none hV
  obtain ⟨a0, len0, cap0, rfl⟩ := okWide_slice Try.underlying24 (hval 0 24 v0 rfl rfl)
  have k0 := h0
  have lt0 : ∀ x ∈ p0, x.block < W.heap.size := by obtain ⟨m, hm⟩ := k0; exact DataW.trod_lt m _ _ _ hm
  obtain ⟨bs, rfl, b1, b2, b3⟩ := code_row h0
  clear hA0 hval0
  refine (walk W a0 cap0 bs b1 b2 b3).mono fun e W' ⟨he, bel0⟩ => ?_
  have bel := gb_below bel0
  subst he
  exact ⟨_, rfl, _, _, _, [], _, [], hW', trodAll_mk1 (shut_bool Try.underlying4 _), (trodAll_cons_mk (Below.trod laidOut (by kernel_rfl) (of_decide_eq_true (by kernel_rfl)) k0 bel lt0) trodAll_mk0), rfl, bel.frame _, fun h => by cases h⟩
set_option maxRecDepth 100000 in
theorem over : Rows.fnShardOfRow.holds Try.pinned (OpenSpec.ofChange Rows.fnShardOfSpec) :=
  OpenClaim.holds_of_wide 5 Try.f5 rfl rfl rfl rfl rfl rfl rfl ⟨rfl, rfl, rfl, rfl, rfl⟩ rfl rfl rfl rfl rfl (by kernel_rfl) Try.func5 (by kernel_rfl)
    (of_decide_eq_true (by kernel_rfl)) (by unfold Func.isWrapper; first | (rw [if_pos (by decide +kernel)]; kernel_rfl) | (rw [if_neg (by decide +kernel)]; exact ⟨rfl, rfl⟩))
    (fun os started H enc _ => lifted os started H enc)
theorem proved : Rows.FnShardOfSaid := over
end fnShardOf
end Go.Proofs.Ytopapnbhnknpiaa
