/- FnCheckOf: checksums go byte by byte: proved for every input, with no condition. -/
import Derived.Test.YtopapnbhnknpiaaFrame
import Derived.Test.YtopapnbhnknpiaaCheckW
import Derived.Test.YtopapnbhnknpiaaDrawCW
import Derived.Deep.QuietTactic
import Derived.BigQuiet
namespace Go.Proofs.Ytopapnbhnknpiaa
open Go.ChangeShapes Go.WideShapes Go.ChangeAt Go.RowKit
set_option linter.unusedVariables false
namespace fnCheckOf
set_option maxHeartbeats 1000000 in
theorem walk (w : World) (A : Option Addr) (c : Nat) (bs : List Int) (h1 : bs.length ≤ c) (h2 : ∀ x ∈ bs, 0 ≤ x ∧ x ≤ 255) (h3 : Rd w 0 w.heap.size A (bs.map (.int .u8))) :
    Calls Try.prog 8 #[.slice A bs.length c] w fun e w' => e = .returned (.bool true) ∧ w.grownBy w' none := by
  have H1 := Lib.hid h1
  have H2 := Lib.hid h2
  have H3 := Lib.hid h3
  clear h1 h2 h3
  by_cases hb : bs.length ≤ 1048576
  · go_enter Try.func8, Try.ntmps8
    go_wp2_with fail
    refine (drawCheckOf_any _ A c bs H1.out hb H2.out H3.out).mono ?_
    rintro e w1 ⟨v, l, rfl, ho, hl, hby, hg⟩
    have hor := ho.rd
    obtain ⟨A1, c1, rfl, hc1, hr1⟩ := hor
    have G := Lib.hid hg
    have R := Lib.hid hr1
    have B := Lib.hid hby
    have O := Lib.hid ho
    have H1B := Lib.hid hb
    clear hg hr1 hby ho hb
    obtain ⟨m1, m2, m3⟩ := checkOf_range l
    obtain ⟨m, hm⟩ : ∃ m, M.checkOf l = m := ⟨_, rfl⟩
    have HM := Lib.hid hm
    rw [hm] at m1 m2 m3
    have t : (m != m) = false := by simp
    have t' : (m == m) = true := by simp
    by_cases hn : 0 ≤ m
    · have h2 : l.length ≤ 200 := m2.1 hn
      have h3 := Lib.hid (m3 h2)
      clear m2 m3 hm
      by_cases hz : l.length = 0
      · have hz' : ((l.length : Int) == 0) = true := by rw [hz]; rfl
        have HZ := Lib.hid hz
        clear hz
        go_wp2_with (first | (go_at_call 15; refine (CheckOf_impl _ A1 c1 _ _ l (by omega) B.out R.out).mono ?_; rintro e w' ⟨rfl, rfl⟩; rw [HM.out]) | (go_at_call 13; refine (CheckOf_spec _ A1 c1 _ _ l (by omega) B.out R.out).mono ?_; rintro e w' ⟨rfl, rfl⟩; rw [HM.out]))
        go_ret
        exact ⟨rfl, G.out⟩
      · obtain ⟨k, hk⟩ : ∃ k, l.length = k + 1 := ⟨l.length - 1, by omega⟩
        have hkl : k < l.length := by omega
        have e1 : l = l.take (k + 1) := by rw [List.take_of_length_le (by omega)]
        have hs : m = (31 * M.chk (l.take k) + l[k]) % 251 := by rw [h3.out, ← chk_take hkl, ← e1]
        obtain ⟨b, o, rfl, _, _, hc⟩ := R.out.at_ (j := k) (u := .int .u8 l[k]) (by simp [hkl])
        have hx := B.out l[k] (List.getElem_mem hkl)
        have hr := chk_range (l.take k)
        have hchk : M.checkOf (l.take k) = M.chk (l.take k) := by unfold M.checkOf; rw [if_pos (by simp; omega)]
        have Hc : ∀ wx : World, Rd wx w.heap.size w1.heap.size (some ⟨b, o, none⟩) (l.map (.int .u8)) → Calls Try.prog 15 #[.slice (some ⟨b, o, none⟩) k c1] wx fun e w' => e = .returned (.int .i64 (M.chk (l.take k))) ∧ wx = w' := fun wx hw => by
          rw [← hchk]
          exact CheckOf_impl_n wx _ k c1 _ _ (l.take k) (by simp; omega) (by simp; omega) (fun x hx => B.out x (List.mem_of_mem_take hx)) (by rw [List.map_take]; exact hw.take k)
        have Hn : ∀ w, Calls Try.prog 15 #[.slice none 0 0] w fun e w' => e = .returned (.int .i64 1) ∧ w = w' := fun w' => CheckOf_impl_n w' none 0 0 0 0 [] rfl (by simp) (by simp) (Rd.nil_ _ _ _ _)
        have HC := Lib.hid Hc
        have HN := Lib.hid Hn
        have RL := Lib.hid hk
        rw [hk] at hc1 ⊢
        generalize M.chk (l.take k) = n at *
        generalize l[k] = x at *
        have s1 : (m == (31 * n + x) % 251) = true := by simp [hs]
        have HS := Lib.hid hs
        have w1' : IntKind.i64.wrap (31 * n) = 31 * n := IntWalk.i64_in _ (by omega)
        have w2' : IntKind.i64.wrap (31 * n + x) = 31 * n + x := IntWalk.i64_in _ (by omega)
        have w3' : Int.tmod (31 * n + x) 251 = (31 * n + x) % 251 := Int.tmod_eq_emod_of_nonneg (by omega)
        have k1 : (k : Int) < ((k + 1 : Nat) : Int) := by omega
        have k2 : (0 : Int) ≤ k := by omega
        have k3 : ((((k + 1 : Nat) : Int)) == 0) = false := beq_eq_false_iff_ne.2 (by omega)
        have k5 : (((k : Int) + 1) == 0) = false := beq_eq_false_iff_ne.2 (by omega)
        have k6 : (k : Int) < (k : Int) + 1 := by omega
        have k4 : k ≤ 200 := by omega
        clear Hc Hn hs hz hk hkl e1 hchk h2
        go_wp2_with (first | (go_at_call 15; refine (CheckOf_impl_n _ _ (k + 1) c1 _ _ l RL.out.symm (by rw [RL.out]; omega) B.out R.out).mono ?_; rintro e w' ⟨rfl, rfl⟩; rw [HM.out]) | (go_at_call 13; refine (CheckOf_spec_n _ _ (k + 1) c1 _ _ l RL.out.symm (by rw [RL.out]; omega) B.out R.out).mono ?_; rintro e w' ⟨rfl, rfl⟩; rw [HM.out]))
        go_quiet ((first | (go_at_call 15; exact quiet_here (HC.out _ R.out)) | (go_at_call 15; exact quiet_here (HN.out _))))
        go_wp2
        go_ret
        exact ⟨rfl, gb_drewN G.out _⟩
    · have hz : ((l.length : Int) == 0) = false := beq_eq_false_iff_ne.2 (fun h => hn (m2.2 (by omega)))
      clear m2 m3 hm
      go_wp2_with (first | (go_at_call 15; refine (CheckOf_impl _ A1 c1 _ _ l (by omega) B.out R.out).mono ?_; rintro e w' ⟨rfl, rfl⟩; rw [HM.out]) | (go_at_call 13; refine (CheckOf_spec _ A1 c1 _ _ l (by omega) B.out R.out).mono ?_; rintro e w' ⟨rfl, rfl⟩; rw [HM.out]))
      go_ret
      exact ⟨rfl, G.out⟩
  · have hb' : (1048576 : Int) < bs.length := by omega
    generalize bs.length = L at *
    go_enter Try.func8, Try.ntmps8
    go_wp2
    go_ret
    exact ⟨rfl, gb_refl _ _⟩
end fnCheckOf
/-! the row's step -/
namespace fnCheckOf
set_option maxRecDepth 100000 in
theorem lifted (os : Os) (started : os.Started) (H : Type) (enc : TypeId × Value → H) :
    ReturnsInHanded {} Try.checked os 8 .any (Rows.fnCheckOfSpec.pre6 enc Try.prog Try.f8 Rows.fnCheckOfRow.domain false) (Rows.fnCheckOfSpec.post enc Try.prog Try.f8 false true false false) := by
  refine returnsInHanded_of_change (C := Try.checked) own started (by kernel_rfl) Try.func8
    (ChangeSpec.witness6 (enc := enc) (C := Try.checked) false ⟨#[], #[.slice none 0 0], []⟩ 8 (by kernel_rfl) (by kernel_rfl) (by kernel_rfl) (by kernel_rfl)) ?_
  intro W base args ds gs before hval0 hW hcnd _
  have hval : ∀ (j : Nat) t v, Try.f8.params[j]? = some t → args[j]? = some v → Value.okWide Try.prog W .any base t v := hval0
  have hW' := hW
  obtain ⟨p, q, hA0, hV, rfl, hfz, hnd⟩ := hW
  have hA : DataW.TrodAll enc Try.prog W 0 (fun _ => true) true Try.f8.params.toList args.toList ds p := hA0
  rw [Try.params8] at hA hval
  obtain ⟨v0, vs0, d0, ds0, p0, q0, hargs, rfl, rfl, h0, r0⟩ := trodAll_cons hA
  obtain ⟨rfl, rfl, rfl⟩ := trodAll_nil r0
  obtain rfl : args = #[v0] := by cases args; simp_all
  obtain ⟨rfl, rfl⟩ := trodVars_none hV
  obtain ⟨a0, len0, cap0, rfl⟩ := okWide_slice Try.underlying24 (hval 0 24 v0 rfl rfl)
  have k0 := h0
  have lt0 : ∀ x ∈ p0, x.block < W.heap.size := by obtain ⟨m, hm⟩ := k0; exact DataW.trod_lt m _ _ _ hm
  obtain ⟨bs, rfl, b1, b2, b3⟩ := code_row h0
  clear hA0 hval0
  refine (walk W a0 cap0 bs b1 b2 b3).mono fun e W' ⟨he, bel0⟩ => ?_
  have bel := gb_below bel0
  subst he
  exact ⟨_, rfl, _, _, _, [], _, [], hW', trodAll_mk1 (shut_bool Try.underlying4 _), (trodAll_cons_mk (Below.trod laidOut (by kernel_rfl) (of_decide_eq_true (by kernel_rfl)) k0 bel lt0) trodAll_mk0), rfl, bel.frame _, fun h => by cases h⟩
set_option maxRecDepth 100000 in
theorem over : Rows.fnCheckOfRow.holds Try.pinned (OpenSpec.ofChange Rows.fnCheckOfSpec) :=
  OpenClaim.holds_of_wide 8 Try.f8 rfl rfl rfl rfl rfl rfl rfl ⟨rfl, rfl, rfl, rfl, rfl⟩ rfl rfl rfl rfl rfl (by kernel_rfl) Try.func8 (by kernel_rfl)
    (of_decide_eq_true (by kernel_rfl)) (by unfold Func.isWrapper; first | (rw [if_pos (by decide +kernel)]; kernel_rfl) | (rw [if_neg (by decide +kernel)]; exact ⟨rfl, rfl⟩))
    (fun os started H enc _ => lifted os started H enc)
theorem proved : Rows.FnCheckOfSaid := over
end fnCheckOf
end Go.Proofs.Ytopapnbhnknpiaa
