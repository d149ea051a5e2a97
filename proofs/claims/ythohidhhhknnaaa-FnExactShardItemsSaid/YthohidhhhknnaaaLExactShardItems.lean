/- FnExactShardItems: the program's ShardItems is the reference's: proved for every input, with no condition. -/
import Derived.Test.YthohidhhhknnaaaFrameI
import Derived.Test.YthohidhhhknnaaaKeep
import Derived.Test.YthohidhhhknnaaaEqW
import Derived.Test.YthohidhhhknnaaaShardIW
namespace Go.Proofs.Ythohidhhhknnaaa
open Go.ChangeShapes Go.WideShapes Go.ChangeAt Go.RowKit
set_option linter.unusedVariables false
theorem ShardItems_sub {L : List M.Item} {s n : Int} {x : M.Item} (h : x ∈ M.ShardItems L s n) : x ∈ L := by
  unfold M.ShardItems at h
  split at h
  · exact (List.mem_filter.1 h).1
  · simp at h
theorem ShardItems_le (L : List M.Item) (s n : Int) : (M.ShardItems L s n).length ≤ L.length := by
  unfold M.ShardItems
  split
  · exact shardItems_le L s n
  · exact Nat.zero_le _
namespace fnExactShardItems
set_option maxHeartbeats 1000000 in
theorem walk (w : World) (A : Option Addr) (c : Nat) (L : List M.Item) (f t : Int) (hl : L.length ≤ maxLen) (hp : ∀ x ∈ L, x.pos.length ≤ maxLen) (hr : RdI w 0 w.heap.size A L) :
    Calls Try.prog 6 #[.slice A L.length c, .int .i64 f, .int .i64 t] w fun e w' => e = .returned (.bool true) ∧ w.grownBy w' none := by
  have HR := Lib.hid hr
  have HP := Lib.hid hp
  clear hr hp
  go_enter Try.func6, Try.ntmps6
  go_wp2_with fail
  refine (szItemS_any w A c _ _ L 1048576 hl HP.out HR.out (Nat.le_refl _) (by omega) (by omega)).mono ?_
  rintro e w1 ⟨r, rfl, hr1, hr2, hg1⟩
  have G1 := Lib.hid hg1
  have HZ := Lib.hid hr2
  clear hg1 hr2
  by_cases hr0 : r < 0
  · go_wp2_with fail
    go_ret
    exact ⟨rfl, G1.out⟩
  · have hL : L.length ≤ 1048576 := (HZ.out (by omega)).1
    have HLP := Lib.hid (HZ.out (by omega)).2
    obtain ⟨K, hK⟩ : ∃ K, K = M.ShardItems L f t := ⟨_, rfl⟩
    have hKl : K.length ≤ 1048576 := by have := ShardItems_le L f t; rw [← hK] at this; omega
    have HK := Lib.hid hK
    have HKP : Hid (∀ x ∈ K, x.pos.length ≤ 1048576) := Lib.hid fun x hx => HLP.out x (ShardItems_sub (by rw [← hK]; exact hx))
    clear hK hl
    go_wp2_with fail
    refine (toItemS_any w1 A c 0 w.heap.size L hL HLP.out (HR.out.keep G1.out (Nat.le_refl _)) G1.out.size).mono ?_
    rintro e w2 ⟨v1, rfl, ho1, hg2⟩
    obtain ⟨A1, c1, rfl, hc1, hd1⟩ := ho1.rd
    have G2 := Lib.hid (gb_trans G1.out hg2)
    have D1 := Lib.hid hd1
    clear ho1 hg2 hd1
    go_wp2_with fail
    refine (ShardItems_spec w2 A1 c1 _ _ L f t hL HLP.out D1.out (Nat.le_refl _)).mono ?_
    rintro e w3 ⟨v2, rfl, ho2, hg3⟩
    rw [← HK.out] at ho2
    obtain ⟨A2, c2, rfl, hc2, hd2⟩ := ho2.rd
    have G3 := Lib.hid (gb_trans G2.out hg3)
    have D2 := Lib.hid hd2
    clear ho2 hg3 hd2
    go_wp2_with fail
    refine (toItemS_any w3 A c 0 w.heap.size L hL HLP.out (HR.out.keep G3.out (Nat.le_refl _)) G3.out.size).mono ?_
    rintro e w4 ⟨v3, rfl, ho3, hg4⟩
    obtain ⟨A3, c3, rfl, hc3, hd3⟩ := ho3.rd
    have G4 := Lib.hid (gb_trans G3.out hg4)
    have D3 := Lib.hid hd3
    have O3 := Lib.hid ho3
    have D2b := Lib.hid (D2.out.keep hg4 (Nat.le_refl _))
    have S4 := Lib.hid hg4.size
    clear ho3 hg4 hd3
    go_wp2_with fail
    refine (ShardItems_impl w4 A3 c3 _ _ L f t hL HLP.out D3.out (Nat.le_refl _)).mono ?_
    rintro e w5 ⟨v4, rfl, ho4, hg5⟩
    rw [← HK.out] at ho4
    obtain ⟨A4, c4, rfl, hc4, hd4⟩ := ho4.rd
    have G5 := Lib.hid (gb_trans G4.out hg5)
    have D4 := Lib.hid hd4
    have O4 := Lib.hid ho4
    have D2c := Lib.hid (D2b.out.keep hg5 S4.out)
    have D3b := Lib.hid (D3.out.keep hg5 (Nat.le_refl _))
    have O3b := Lib.hid (OwnItems.grown O3.out hg5 (by simp))
    have S5 := Lib.hid hg5.size
    have Y5 := Lib.hid hg5
    clear ho4 hg5 hd4
    go_wp2_with fail
    refine (eqItemS_same w5 A4 A2 c4 c2 _ _ _ _ K hKl HKP.out D4.out D2c.out (Nat.le_refl _) (by have := S4.out; have := S5.out; omega)).mono ?_
    rintro e w6 ⟨rfl, hg6⟩
    have G6 := Lib.hid (gb_trans G5.out hg6)
    have D3c := Lib.hid (D3b.out.keep hg6 S5.out)
    have X6 := Lib.hid hg6
    clear hg6
    go_wp2_with fail
    refine (toItemS_any w6 A c 0 w.heap.size L hL HLP.out (HR.out.keep G6.out (Nat.le_refl _)) G6.out.size).mono ?_
    rintro e w7 ⟨v5, rfl, ho5, hg7⟩
    obtain ⟨A5, c5, rfl, hc5, hd5⟩ := ho5.rd
    have G7 := Lib.hid (gb_trans G6.out hg7)
    have D5 := Lib.hid hd5
    have D3d := Lib.hid (D3c.out.keep hg7 (by have := S5.out; have := X6.out.size; omega))
    have X7 := Lib.hid (gb_trans X6.out hg7)
    clear ho5 hg7 hd5
    go_wp2_with fail
    refine (eqItemS_same w7 A3 A5 c3 c5 _ _ _ _ L hL HLP.out D3d.out D5.out (by have := S5.out; have := X7.out.size; omega) (Nat.le_refl _)).mono ?_
    rintro e w8 ⟨rfl, hg8⟩
    have G8 := Lib.hid (gb_trans G7.out hg8)
    have X8 := Lib.hid (gb_trans X7.out hg8)
    clear hg8
    go_wp2_with fail
    obtain ⟨LV, hLV, hlv⟩ := OwnItems.lv O3.out
    have hlen : L.length = LV.length := by rw [← hLV, List.length_map]
    have hlv8 := Lib.hid (hlv.agree (fun b _ h => (Agree.of_grown (gb_trans Y5.out X8.out)) b (Nat.zero_le _) h))
    have hpos : ∀ p ∈ LV, p.1.pos.length ≤ 1048576 := fun p hp => HLP.out p.1 (by rw [← hLV]; exact List.mem_map_of_mem hp)
    have HPOS := Lib.hid hpos
    have HLV := Lib.hid hLV
    clear hlv hpos hLV
    have hmark := Lib.hid (markItemS_any w8 A3 c3 w3.heap.size w4.heap.size LV 1 (by omega) HPOS.out (by rw [← hlen]; exact hlv8.out) (by omega) (by omega))
    rw [← hlen] at hmark
    have HLEN := Lib.hid hlen
    clear hlen
    refine hmark.out.mono ?_
    rintro e w9 ⟨rfl, _, hw9⟩
    have hk0 : 0 ≤ (1 : Int) + szI LV := by omega
    have S8 := Lib.hid (show w5.heap.size ≤ w8.heap.size from X8.out.size)
    have Z9 := Lib.hid hw9
    have G9 := Lib.hid (Wrote.gb G8.out hw9 G3.out.size)
    have hsb : szI LV ≤ 1099513724928 := by have := szI_le LV HPOS.out; have := HLEN.out; omega
    have D4b := Lib.hid ((D4.out.keep X8.out (Nat.le_refl _)).agree (fun b h1 h2 => hw9.above b h1 (by have := S8.out; omega)))
    have D2d := Lib.hid ((D2c.out.keep X8.out (by have := S4.out; have := S5.out; omega)).agree (fun b h1 h2 => hw9.under (m := w3.heap.size) (Nat.le_refl _) (by have := S4.out; have := S5.out; have := S8.out; omega) b (Nat.zero_le _) h2))
    obtain ⟨LG, hLG, hlg⟩ := OwnItems.lv O4.out
    have O4b := Lib.hid (hlg.agree (fun b h1 h2 => (hw9.above b h1 (by have := S8.out; omega)).trans ((Agree.of_grown X8.out) b (Nat.zero_le _) h2)))
    have HLG := Lib.hid hLG
    have HGL : Hid (K.length = LG.length) := Lib.hid (by rw [← hLG, List.length_map])
    have HGP : Hid (∀ p ∈ LG, p.1.pos.length ≤ 1048576) := Lib.hid fun p hp => HKP.out p.1 (by rw [← hLG]; exact List.mem_map_of_mem hp)
    have hsg : szI LG ≤ 1099513724928 := by have := szI_le LG HGP.out; have := HGL.out; omega
    clear hLG hlg
    clear hw9
    obtain ⟨q, hq⟩ : ∃ q, q = (1 : Int) + szI LV := ⟨_, rfl⟩
    rw [← hq] at hk0 ⊢
    clear hq
    go_wp2_with fail
    refine (eqItemS_same w9 A4 A2 c4 c2 _ _ _ _ K hKl HKP.out D4b.out D2d.out (by have := S8.out; have := Z9.out.size; omega) (by have := S4.out; have := S5.out; have := S8.out; have := Z9.out.size; omega)).mono ?_
    rintro e w10 ⟨rfl, hg10⟩
    have G10 := Lib.hid (gb_trans G9.out hg10)
    have O4c := Lib.hid (O4b.out.agree (fun b _ h2 => (Agree.of_grown hg10) b (Nat.zero_le _) (by have := S8.out; have := Z9.out.size; omega)))
    have S9 := Lib.hid (show w8.heap.size ≤ w10.heap.size by have := Z9.out.size; have := hg10.size; omega)
    have D2e := Lib.hid (D2d.out.keep hg10 (by have := S4.out; have := S5.out; have := S8.out; have := Z9.out.size; omega))
    clear hg10
    go_wp2_with fail
    have hmark2 := Lib.hid (markItemS_any w10 A4 c4 w4.heap.size w5.heap.size LG 1 (by have := HGL.out; omega) HGP.out (by rw [← HGL.out]; exact O4c.out) (by omega) (by omega))
    rw [← HGL.out] at hmark2
    refine hmark2.out.mono ?_
    rintro e w11 ⟨rfl, ho11, hw11⟩
    have G11 := Lib.hid (Wrote.gb G10.out hw11 G4.out.size)
    have D2f := Lib.hid (D2e.out.agree (fun b h1 h2 => hw11.block b (by have := S4.out; have := S5.out; have := S8.out; have := S9.out; omega) (.inl (by have := S4.out; omega))))
    have S10 := Lib.hid hw11.size
    obtain ⟨A6, c6, e6, hc6, hd6⟩ := ho11.items.rd
    injection e6 with e7 e8 e9
    subst e7 e9
    have D4e := Lib.hid hd6
    obtain ⟨q2, hq2⟩ : ∃ q2, q2 = (1 : Int) + szI LG := ⟨_, rfl⟩
    have HQ2 := Lib.hid hq2
    have hq20 : 0 ≤ q2 := by omega
    have hheld : Hid (∀ W lo hi, RdI W lo hi A4 ((renLV 1 LG).map (·.1)) → Calls Try.prog 28 #[.slice A4 K.length c4, .int .i64 1] W fun e w' => e = .returned (.int .i64 q2) ∧ W = w') := Lib.hid fun W lo hi h => by
      have := heldItemS_any W A4 c4 lo hi LG 1 (by have := HGL.out; omega) HGP.out h (by omega) (by omega)
      rw [← HGL.out, ← HQ2.out] at this
      exact this
    rw [← hq2]
    clear ho11 hw11 hd6 e8 hmark2 hq2
    go_wp2_with fail
    refine (hheld.out w11 _ _ D4e.out).mono ?_
    rintro e w' ⟨rfl, rfl⟩
    have tq : (q2 != q2) = false := by simp
    go_wp2_with fail
    refine (toItemS_any w11 A c 0 w.heap.size L (by omega) HLP.out (HR.out.keep G11.out (Nat.le_refl _)) G11.out.size).mono ?_
    rintro e w12 ⟨v6, rfl, ho6, hg12⟩
    obtain ⟨A7, c7, rfl, hc7, hd7⟩ := ho6.rd
    have G12 := Lib.hid (gb_trans G11.out hg12)
    have D7 := Lib.hid hd7
    have D2g := Lib.hid (D2f.out.keep hg12 (by have := S4.out; have := S5.out; have := S8.out; have := S9.out; have := S10.out; omega))
    have D4f := Lib.hid (D4e.out.keep hg12 (Nat.le_refl _))
    have S12 := Lib.hid hg12.size
    clear ho6 hg12 hd7
    go_wp2_with fail
    refine (ShardItems_impl w12 A7 c7 _ _ L f t (by omega) HLP.out D7.out (Nat.le_refl _)).mono ?_
    rintro e w13 ⟨v7, rfl, ho7, hg13⟩
    rw [← HK.out] at ho7
    obtain ⟨A8, c8, rfl, hc8, hd8⟩ := ho7.rd
    have G13 := Lib.hid (gb_trans G12.out hg13)
    have D8 := Lib.hid hd8
    have D2h := Lib.hid (D2g.out.keep hg13 (by have := S4.out; have := S5.out; have := S8.out; have := S9.out; have := S10.out; have := S12.out; omega))
    have D4g := Lib.hid (D4f.out.keep hg13 S12.out)
    have S13 := Lib.hid hg13.size
    clear ho7 hg13 hd8
    go_wp2_with fail
    refine (eqItemS_same w13 A8 A2 c8 c2 _ _ _ _ K hKl HKP.out D8.out D2h.out (Nat.le_refl _) (by have := S4.out; have := S5.out; have := S8.out; have := S9.out; have := S10.out; have := S12.out; have := S13.out; omega)).mono ?_
    rintro e w14 ⟨rfl, hg14⟩
    have G14 := Lib.hid (gb_trans G13.out hg14)
    have D4h := Lib.hid (D4g.out.keep hg14 (by have := S12.out; have := S13.out; omega))
    clear hg14
    go_wp2_with fail
    refine (hheld.out w14 _ _ D4h.out).mono ?_
    rintro e w' ⟨rfl, rfl⟩
    go_wp2_with fail
    go_ret
    exact ⟨rfl, G14.out⟩
end fnExactShardItems
/-! the row's step -/
namespace fnExactShardItems
set_option maxRecDepth 100000 in
theorem lifted (os : Os) (started : os.Started) (H : Type) (enc : TypeId × Value → H) :
    ReturnsInHanded {} Try.checked os 6 .any (Rows.fnExactShardItemsSpec.pre6 enc Try.prog Try.f6 Rows.fnExactShardItemsRow.domain false) (Rows.fnExactShardItemsSpec.post enc Try.prog Try.f6 false true false false) := by
  refine returnsInHanded_of_change (C := Try.checked) own started (by kernel_rfl) Try.func6
    (ChangeSpec.witness6 (enc := enc) (C := Try.checked) false ⟨#[], #[.slice none 0 0, .int .i64 0, .int .i64 0], []⟩ 8 (by kernel_rfl) (by kernel_rfl) (by kernel_rfl) (by kernel_rfl)) ?_
  intro W base args ds gs before hval0 hW hcnd _
  have hval : ∀ (j : Nat) t v, Try.f6.params[j]? = some t → args[j]? = some v → Value.okWide Try.prog W .any base t v := hval0
  have hW' := hW
  obtain ⟨p, q, hA0, hV, rfl, hfz, hnd⟩ := hW
  have hA : DataW.TrodAll enc Try.prog W 0 (fun _ => true) true Try.f6.params.toList args.toList ds p := hA0
  rw [Try.params6] at hA hval
  obtain ⟨v0, vs0, d0, ds0, p0, q0, hargs, rfl, rfl, h0, r0⟩ := trodAll_cons hA
  obtain ⟨v1, vs1, d1, ds1, p1, q1, rfl, rfl, rfl, h1, r1⟩ := trodAll_cons r0
  obtain ⟨v2, vs2, d2, ds2, p2, q2, rfl, rfl, rfl, h2, r2⟩ := trodAll_cons r1
  obtain ⟨rfl, rfl, rfl⟩ := trodAll_nil r2
  obtain rfl : args = #[v0, v1, v2] := by cases args; simp_all
  obtain ⟨rfl, rfl⟩ := trodVars_none hV
  obtain ⟨a0, len0, cap0, rfl⟩ := okWide_slice Try.underlying32 (hval 0 32 v0 rfl rfl)
  have k0 := h0
  have lt0 : ∀ x ∈ p0, x.block < W.heap.size := by obtain ⟨m, hm⟩ := k0; exact DataW.trod_lt m _ _ _ hm
  obtain ⟨L, rfl, b1, b2, b3, b4⟩ := items_row h0
  obtain ⟨a1, rfl, rfl, rfl, w1⟩ := open_int Try.underlying3 (hval 1 3 v1 rfl rfl) h1
  obtain ⟨a2, rfl, rfl, rfl, w2⟩ := open_int Try.underlying3 (hval 2 3 v2 rfl rfl) h2
  clear hA0 hval0
  refine (walk W a0 cap0 L a1 a2 b2 b3 b4).mono fun e W' ⟨he, bel0⟩ => ?_
  have bel := gb_below bel0
  subst he
  exact ⟨_, rfl, _, _, _, [], _, [], hW', trodAll_mk1 (shut_bool Try.underlying4 _), (trodAll_cons_mk (Below.trod laidOut (by kernel_rfl) (of_decide_eq_true (by kernel_rfl)) k0 bel lt0) (trodAll_cons_mk (shut_int Try.underlying3 w1) (trodAll_cons_mk (shut_int Try.underlying3 w2) trodAll_mk0))), rfl, bel.frame _, fun h => by cases h⟩
set_option maxRecDepth 100000 in
theorem over : Rows.fnExactShardItemsRow.holds Try.pinned (OpenSpec.ofChange Rows.fnExactShardItemsSpec) :=
  OpenClaim.holds_of_wide 6 Try.f6 rfl rfl rfl rfl rfl rfl rfl ⟨rfl, rfl, rfl, rfl, rfl⟩ rfl rfl rfl rfl rfl (by kernel_rfl) Try.func6 (by kernel_rfl)
    (of_decide_eq_true (by kernel_rfl)) (by unfold Func.isWrapper; first | (rw [if_pos (by decide +kernel)]; kernel_rfl) | (rw [if_neg (by decide +kernel)]; exact ⟨rfl, rfl⟩))
    (fun os started H enc _ => lifted os started H enc)
theorem proved : Rows.FnExactShardItemsSaid := over
end fnExactShardItems
end Go.Proofs.Ythohidhhhknnaaa
