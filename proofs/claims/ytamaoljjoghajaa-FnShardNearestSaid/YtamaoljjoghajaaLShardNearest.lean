/- FnShardNearest: shards find the nearest together: proved for every input, with no condition. -/
import Derived.Test.YtamaoljjoghajaaFrame
import Derived.Test.YtamaoljjoghajaaDrawN
namespace Go.Proofs.Ytamaoljjoghajaa
open Go.ChangeShapes Go.WideShapes Go.ChangeAt Go.RowKit
set_option linter.unusedVariables false
set_option linter.unusedSimpArgs false
namespace fnShardNearest
set_option maxRecDepth 100000 in
set_option maxHeartbeats 2000000 in
theorem walk (w : World) (A : Option Addr) (c : Nat) (bs : List Int) (h2 : bs.length ≤ c) (h3 : ∀ x ∈ bs, 0 ≤ x ∧ x ≤ 255) (h4 : Rd w 0 w.heap.size A (bs.map (.int .u8))) :
    Calls Try.prog 4 #[.slice A bs.length c] w fun e w' => e = .returned (.bool true) ∧ w.grownBy w' none := by
  have H2 := Lib.hid h2
  have H3 := Lib.hid h3
  have H4 := Lib.hid h4
  clear h2 h3 h4
  by_cases hb : bs.length ≤ 1048576
  rotate_left
  · have hb' : (1048576 : Int) < bs.length := by omega
    generalize bs.length = L at *
    go_enter Try.func4, Try.ntmps4
    go_wp2
    go_ret
    exact ⟨rfl, gb_refl _ _⟩
  have hb' : (bs.length : Int) ≤ 1048576 := by omega
  go_enter Try.func4, Try.ntmps4
  go_wp2_with fail
  refine (drawShardNearest_any w A c bs H2.out hb H3.out H4.out).mono ?_
  rintro e W ⟨A1, c1, L, s, kind, B1, d1, m, k, rfl, hc, hs, hn, hg⟩
  have D := Lib.hid hs
  have N := Lib.hid hn
  have G := Lib.hid hg
  clear hs hn hg hc
  obtain ⟨K, hK⟩ : ∃ K, K = M.ShardNearest L s kind m k := ⟨_, rfl⟩
  have HK := Lib.hid hK
  have HI : Hid (∀ W, SeesI W A1 L → SeesN .i64 W B1 m → Calls Try.prog 11 #[.slice A1 L.length c1, .int .i64 s, .int .i64 kind, .slice B1 m.length d1, .int .i64 k] W (GotX W K)) := Lib.hid fun W h h' => by rw [hK]; exact (ShardNearest_impl h h').mono fun _ _ => gotX_of (sn_le _ _ _ _ _)
  have HS : Hid (∀ W, SeesI W A1 L → SeesN .i64 W B1 m → Calls Try.prog 8 #[.slice A1 L.length c1, .int .i64 s, .int .i64 kind, .slice B1 m.length d1, .int .i64 k] W (GotX W K)) := Lib.hid fun W h h' => by rw [hK]; exact (ShardNearest_spec h h').mono fun _ _ => gotX_of (sn_le _ _ _ _ _)
  clear hK
  go_wp2_with fail
  refine (HI.out _ D.out N.out).mono ?_
  rintro e W ⟨A2, c2, rfl, hc2, hs, hg⟩
  replace D := Lib.hid (D.out.on hg)
  replace N := Lib.hid (N.out.on hg)
  replace G := Lib.hid (gb_trans G.out hg)
  clear hg
  have F := Lib.hid hs
  clear hs
  go_wp2_with fail
  refine (HS.out _ D.out N.out).mono ?_
  rintro e W ⟨A3, c3, rfl, hc3, hs, hg⟩
  replace D := Lib.hid (D.out.on hg)
  replace N := Lib.hid (N.out.on hg)
  replace F := Lib.hid (F.out.on hg)
  replace G := Lib.hid (gb_trans G.out hg)
  clear hg
  have F3 := Lib.hid hs
  clear hs
  go_wp2_with fail
  refine (equalHits_same F.out F3.out).mono ?_
  rintro e W ⟨rfl, hg⟩
  replace D := Lib.hid (D.out.on hg)
  replace N := Lib.hid (N.out.on hg)
  replace F := Lib.hid (F.out.on hg)
  replace G := Lib.hid (gb_trans G.out hg)
  clear hg
  by_cases s1 : s < 1
  · go_wp2_with fail
    refine (HS.out _ D.out N.out).mono ?_
    rintro e W ⟨A4, c4, rfl, hc4, hs, hg⟩
    replace D := Lib.hid (D.out.on hg)
    replace F := Lib.hid (F.out.on hg)
    replace G := Lib.hid (gb_trans G.out hg)
    clear hg
    have F4 := Lib.hid hs
    clear hs
    go_wp2_with fail
    refine (equalHits_same F.out F4.out).mono ?_
    rintro e W ⟨rfl, hg⟩
    replace D := Lib.hid (D.out.on hg)
    replace G := Lib.hid (gb_trans G.out hg)
    clear hg
    go_wp2_with fail
    go_ret
    exact ⟨rfl, G.out⟩
  by_cases s2 : s > 8
  · go_wp2_with fail
    refine (HS.out _ D.out N.out).mono ?_
    rintro e W ⟨A4, c4, rfl, hc4, hs, hg⟩
    replace D := Lib.hid (D.out.on hg)
    replace F := Lib.hid (F.out.on hg)
    replace G := Lib.hid (gb_trans G.out hg)
    clear hg
    have F4 := Lib.hid hs
    clear hs
    go_wp2_with fail
    refine (equalHits_same F.out F4.out).mono ?_
    rintro e W ⟨rfl, hg⟩
    replace D := Lib.hid (D.out.on hg)
    replace G := Lib.hid (gb_trans G.out hg)
    clear hg
    go_wp2_with fail
    go_ret
    exact ⟨rfl, G.out⟩
  have HN : Hid (∀ W, SeesI W A1 L → SeesN .i64 W B1 m → Calls Try.prog 21 #[.slice A1 L.length c1, .int .i64 kind, .slice B1 m.length d1, .int .i64 k] W (GotX W K)) := Lib.hid fun W h h' => by
    have e : K = M.Nearest L kind m k := by
      rw [HK.out]
      unfold M.ShardNearest M.Nearest
      have : M.inR s 1 8 = true := M.inR_of (by omega) (by omega)
      simp [this]
    rw [e]
    exact (Nearest_impl h h').mono fun _ _ => gotX_of (ne_le _ _ _ _)
  go_wp2_with fail
  refine (HN.out _ D.out N.out).mono ?_
  rintro e W ⟨A4, c4, rfl, hc4, hs, hg⟩
  replace F := Lib.hid (F.out.on hg)
  replace G := Lib.hid (gb_trans G.out hg)
  clear hg
  have F4 := Lib.hid hs
  clear hs
  go_wp2_with fail
  refine (equalHits_same F4.out F.out).mono ?_
  rintro e W ⟨rfl, hg⟩
  replace G := Lib.hid (gb_trans G.out hg)
  clear hg
  go_wp2_with fail
  go_ret
  exact ⟨rfl, G.out⟩
end fnShardNearest
/-! the row's step -/
namespace fnShardNearest
set_option maxRecDepth 100000 in
theorem lifted (os : Os) (started : os.Started) (H : Type) (enc : TypeId × Value → H) :
    ReturnsInHanded {} Try.checked os 4 .any (Rows.fnShardNearestSpec.pre6 enc Try.prog Try.f4 Rows.fnShardNearestRow.domain false) (Rows.fnShardNearestSpec.post enc Try.prog Try.f4 false true false false) := by
  refine returnsInHanded_of_change (C := Try.checked) own started (by kernel_rfl) Try.func4
    (ChangeSpec.witness6 (enc := enc) (C := Try.checked) false ⟨#[], #[.slice none 0 0], []⟩ 8 (by kernel_rfl) (by kernel_rfl) (by kernel_rfl) (by kernel_rfl)) ?_
  intro W base args ds gs before hval0 hW hcnd _
  have hval : ∀ (j : Nat) t v, Try.f4.params[j]? = some t → args[j]? = some v → Value.okWide Try.prog W .any base t v := hval0
  have hW' := hW
  obtain ⟨p, q, hA0, hV, rfl, hfz, hnd⟩ := hW
  have hA : DataW.TrodAll enc Try.prog W 0 (fun _ => true) true Try.f4.params.toList args.toList ds p := hA0
  rw [Try.params4] at hA hval
  obtain ⟨v0, vs0, d0, ds0, p0, q0, hargs, rfl, rfl, h0, r0⟩ := trodAll_cons hA
  obtain ⟨rfl, rfl, rfl⟩ := trodAll_nil r0
  obtain rfl : args = #[v0] := by cases args; simp_all
  obtain ⟨rfl, rfl⟩ := trodVars_none hV
  obtain ⟨a0, len0, cap0, rfl⟩ := okWide_slice Try.underlying37 (hval 0 37 v0 rfl rfl)
  have k0 := h0
  have lt0 : ∀ x ∈ p0, x.block < W.heap.size := by obtain ⟨m, hm⟩ := k0; exact DataW.trod_lt m _ _ _ hm
  obtain ⟨L0, rfl, b00, b01, b02⟩ := code_row h0
  clear hA0 hval0
  refine (walk W a0 cap0 L0 b00 b01 b02).mono fun e W' ⟨he, bel0⟩ => ?_
  have bel := gb_below bel0
  subst he
  exact ⟨_, rfl, _, _, _, [], _, [], hW', trodAll_mk1 (shut_bool Try.underlying4 _), (trodAll_cons_mk (Below.trod laidOut (by kernel_rfl) (of_decide_eq_true (by kernel_rfl)) k0 bel lt0) trodAll_mk0), rfl, bel.frame _, fun h => by cases h⟩
set_option maxRecDepth 100000 in
theorem over : Rows.fnShardNearestRow.holds Try.pinned (OpenSpec.ofChange Rows.fnShardNearestSpec) :=
  OpenClaim.holds_of_wide 4 Try.f4 rfl rfl rfl rfl rfl rfl rfl ⟨rfl, rfl, rfl, rfl, rfl⟩ rfl rfl rfl rfl rfl (by kernel_rfl) Try.func4 (by kernel_rfl)
    (of_decide_eq_true (by kernel_rfl)) (by unfold Func.isWrapper; first | (rw [if_pos (by decide +kernel)]; kernel_rfl) | (rw [if_neg (by decide +kernel)]; exact ⟨rfl, rfl⟩))
    (fun os started H enc _ => lifted os started H enc)
theorem proved : Rows.FnShardNearestSaid := over
end fnShardNearest
end Go.Proofs.Ytamaoljjoghajaa
