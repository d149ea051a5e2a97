/- FnShardNearestFilter: shards and drops do not depend on each other: proved for every input, with no condition. -/
import Derived.Test.YtamaoljjoghajaaFrame
import Derived.Deep.RegionHeld3
import Derived.Test.YtamaoljjoghajaaDrawN
import Derived.Test.YtamaoljjoghajaaRepW
namespace Go.Proofs.Ytamaoljjoghajaa
open Go.ChangeShapes Go.WideShapes Go.ChangeAt Go.RowKit
set_option linter.unusedVariables false
set_option linter.unusedSimpArgs false
theorem info_intK : (Try.prog.info? 3).map (fun i => (i.zero, i.size, i.bytes)) = some (some (.int .i64 0), 1, 8) := by kernel_rfl
set_option maxHeartbeats 1000000 in
theorem keys_any {w : World} {A : Option Addr} {c : Nat} {l : List M.Hit} (D : SeesX w A l) (hl : l.length ≤ 1000) :
    Calls Try.prog 24 #[.slice A l.length c] w (GotN .i64 w (l.map M.Hit.key)) := by
  obtain ⟨i0, hi0, hz0, hz1, hz2⟩ := info_parts info_intK
  obtain ⟨n, hn⟩ : ∃ n, n = l.length := ⟨_, rfl⟩
  rw [← hn] at hl ⊢
  have HL := Lib.hid hn
  have HD := Lib.hid D
  clear hn D
  go_enter Try.func24, Try.ntmps24
  go_wp2_with fail
  go_loopw [3, 4] (fun v i wr => ∃ j : Nat, j ≤ n ∧ i = .int .i64 j ∧ wr.ownsRow w.heap.size 3 1 v j (((l.take j).map M.Hit.key).map (.int .i64)) ∧ w.grownBy wr none) (fun _ i _ => n - (intOf i).toNat)
  case atStart => exact ⟨0, Nat.zero_le _, rfl, World.ownsRow_made (e := 3) (size := 1) w #[] 0 (Nat.le_refl _) (by decide) rfl, gb_alloc (gb_refl _ _) _⟩
  case round =>
    obtain ⟨j, hj, rfl, hown, hg⟩ := hrel
    have G1 := Lib.hid hg
    have O := Lib.hid hown
    have hszw := hg.size
    have hlm : ((l.take j).map M.Hit.key).length = j := by rw [List.length_map, List.length_take, ← HL.out]; omega
    obtain ⟨Av, cv, hvv, hcv, hrv⟩ := OwnInts.rd (k := .i64) (t := 3) (lo := w.heap.size) (w := wr) (v := u3) (l := (l.take j).map M.Hit.key) (by unfold OwnInts; rw [hlm]; exact hown)
    rw [hlm] at hvv hcv
    subst hvv
    have HRV := Lib.hid hrv
    have HLM := Lib.hid hlm
    clear hg hown hrv hlm
    by_cases hlt : j < n
    · have hjl : j < l.length := by rw [← HL.out]; exact hlt
      obtain ⟨b, o, rfl, _, _, c0, c1⟩ := (HD.out.on G1.out).1.hit (List.getElem?_eq_getElem hjl)
      have HTK : Hid ((l.take (j + 1)).map M.Hit.key = (l.take j).map M.Hit.key ++ [l[j].key]) := Lib.hid (by rw [List.take_succ_eq_append_getElem hjl, List.map_append]; rfl)
      have kn : (j : Int) < n := by omega
      have k0 : (0 : Int) ≤ j := by omega
      generalize l[j].key = y at *
      clear c1
      go_wp2_with (at_builtin; refine wpList_append_own _ rfl (.tmp 12) (.tmp 18) 23 rfl w.heap.size 3 i0 (.int .i64 0) 1 8 Try.underlying23 hi0 hz0 hz1 hz2 rfl (by decide) _ j (((l.take j).map M.Hit.key).map (.int .i64)) rfl (O.out.alloc _) ⟨wr.heap.size, 0, none⟩ 1 1 [.int .i64 y] rfl rfl one_cell_new (one_cells rfl) (by unfold maxLen; omega) (by omega) (by simp; omega) ?_; intro v' w4 hown' hgrow _; have T1 := Lib.hid hown'; have T2 := Lib.hid hgrow; clear hown' hgrow)
      go_roundw
      case rel =>
        refine ⟨j + 1, by omega, by go_num, ?_, gb_new (gb_alloc G1.out (.cells #[.int .i64 y] 3)) T2.out (fun b hb => .inl (O.out.lt b hb).1)⟩
        rw [HTK.out, List.map_append]
        exact T1.out
      case measure => simp [intOf]; omega
    · obtain rfl : j = n := by omega
      have HALL : Hid (l.take j = l) := Lib.hid (List.take_of_length_le (by rw [← HL.out]; exact Nat.le_refl _))
      rw [HALL.out] at HRV HLM
      go_wp2_with fail
      go_ret
      refine ⟨Av, cv, ?_, by rw [HLM.out]; exact hcv, ⟨HRV.out.wide (Nat.zero_le _) (Nat.le_refl _), by rw [HLM.out]; omega⟩, G1.out⟩
      rw [HLM.out]
      rfl
theorem keyAt_has {L : List M.Item} {k : Int} (h : k ∈ L.map M.Item.key) : 0 ≤ M.keyAt L k := by
  obtain ⟨x, hx, rfl⟩ := List.mem_map.1 h
  unfold M.keyAt
  cases hf : L.findIdx? (fun y => decide (y.key = x.key)) with
  | none =>
    rw [List.findIdx?_eq_none_iff] at hf
    have := hf x hx
    simp at this
  | some i => simp
/-- what is left without the nearest one -/
theorem filter_pure {L : List M.Item} {s kind k : Int} {m : List Int} {h : M.Hit} {P : List M.Hit} (e : M.ShardNearest L s kind m k = h :: P) :
    ∃ X, M.DropItem L h.key = some (M.dropKey L h.key) ∧ M.ShardNearest (M.dropKey L h.key) s kind m k = X ∧ X.take P.length = P ∧ P.length ≤ X.length ∧ (∀ x ∈ X, x.key ≠ h.key) := by
  have hc : M.canFind L kind m k = true ∧ M.inR s 1 8 = true := by
    unfold M.ShardNearest at e
    split at e
    · assumption
    · cases e
  obtain ⟨h1, h2, h3, h4, h5⟩ := M.canFind_of hc.1
  have e1 : M.nearest L kind m k.toNat = h :: P := by
    unfold M.ShardNearest at e
    rwa [if_pos hc] at e
  unfold M.nearest at e1
  cases hs : M.sortH (M.nears L kind m) with
  | nil => rw [hs, List.take_nil] at e1; cases e1
  | cons a T9 =>
    obtain ⟨q, hq⟩ : ∃ q, k.toNat = q + 1 := ⟨k.toNat - 1, by omega⟩
    rw [hs, hq, List.take_succ_cons] at e1
    injection e1 with e2 e3
    subst e2
    obtain ⟨t1, t2, t3⟩ := M.nearest_tail (k := 0) h1 hs
    have hv : M.validStore (M.dropKey L a.key) = true := M.valid_filter h1 _
    refine ⟨T9.take k.toNat, ?_, ?_, ?_, ?_, fun x hx => t2 x (List.mem_of_mem_take hx)⟩
    · unfold M.DropItem
      rw [if_pos ⟨h1, keyAt_has t3⟩]
    · have hc2 : M.canFind (M.dropKey L a.key) kind m k = true := by
        have h0 := hc.1
        unfold M.canFind at h0 ⊢
        rw [h1] at h0
        rw [hv]
        exact h0
      unfold M.ShardNearest
      rw [if_pos ⟨hc2, hc.2⟩]
      unfold M.nearest
      rw [t1]
    · rw [← e3, hq, List.take_take, List.length_take]
      by_cases hle : q ≤ T9.length
      · rw [show min (min q T9.length) (q + 1) = q by omega]
      · rw [show min (min q T9.length) (q + 1) = T9.length by omega, List.take_of_length_le (Nat.le_refl _), List.take_of_length_le (by omega)]
    · rw [← e3, hq, List.length_take, List.length_take]
      omega
theorem SeesX.takeP {w : World} {A : Option Addr} {l p : List M.Hit} (h : SeesX w A l) (e : l.take p.length = p) : SeesX w A p := by
  refine ⟨?_, ?_⟩
  · have := h.1.take (p.length * 2)
    rwa [cellsX_take, e] at this
  · have := h.2
    have h9 : p.length ≤ l.length := by rw [← e, List.length_take]; omega
    omega
theorem SeesX.tail1 {w : World} {b o : Nat} {h : M.Hit} {p : List M.Hit} (D : SeesX w (some ⟨b, o, none⟩) (h :: p)) : SeesX w (some ⟨b, o + 2, none⟩) p := by
  refine ⟨fun hn => ?_, by have := D.2; rw [List.length_cons] at this; omega⟩
  obtain ⟨b', o', e, h1, h2, hc⟩ := D.1 (by rw [cellsX_cons]; simp)
  injection e with e
  injection e with e1 e2 _
  subst e1 e2
  refine ⟨b, o + 2, rfl, h1, h2, fun j u hu => ?_⟩
  have := hc (j + 2) u (by rw [cellsX_cons]; simpa using hu)
  rwa [show o + (j + 2) = o + 2 + j by omega] at this
namespace fnShardNearestFilter
set_option maxRecDepth 100000 in
set_option maxHeartbeats 2000000 in
theorem walk (w : World) (A : Option Addr) (c : Nat) (bs : List Int) (h2 : bs.length ≤ c) (h3 : ∀ x ∈ bs, 0 ≤ x ∧ x ≤ 255) (h4 : Rd w 0 w.heap.size A (bs.map (.int .u8))) :
    Calls Try.prog 5 #[.slice A bs.length c] w fun e w' => e = .returned (.bool true) ∧ w.grownBy w' none := by
  have H2 := Lib.hid h2
  have H3 := Lib.hid h3
  have H4 := Lib.hid h4
  clear h2 h3 h4
  by_cases hb : bs.length ≤ 1048576
  rotate_left
  · have hb' : (1048576 : Int) < bs.length := by omega
    generalize bs.length = L at *
    go_enter Try.func5, Try.ntmps5
    go_wp2
    go_ret
    exact ⟨rfl, gb_refl _ _⟩
  have hb' : (bs.length : Int) ≤ 1048576 := by omega
  go_enter Try.func5, Try.ntmps5
  go_wp2_with fail
  refine (drawShardNearest_any w A c bs H2.out hb H3.out H4.out).mono ?_
  rintro e W ⟨A1, c1, L, s, kind, B1, d1, m, k, rfl, hc, hs, hn, hg⟩
  have D := Lib.hid hs
  have N := Lib.hid hn
  have G := Lib.hid hg
  clear hs hn hg hc
  obtain ⟨K, hK⟩ : ∃ K, K = M.ShardNearest L s kind m k := ⟨_, rfl⟩
  have HK := Lib.hid hK
  have hK16 : K.length ≤ 16 := by rw [hK]; exact sn_le _ _ _ _ _
  have HI : Hid (∀ W, SeesI W A1 L → SeesN .i64 W B1 m → Calls Try.prog 11 #[.slice A1 L.length c1, .int .i64 s, .int .i64 kind, .slice B1 m.length d1, .int .i64 k] W (GotX W K)) := Lib.hid fun W h h' => by rw [hK]; exact (ShardNearest_impl h h').mono fun _ _ => gotX_of (sn_le _ _ _ _ _)
  have HS : Hid (∀ W, SeesI W A1 L → SeesN .i64 W B1 m → Calls Try.prog 8 #[.slice A1 L.length c1, .int .i64 s, .int .i64 kind, .slice B1 m.length d1, .int .i64 k] W (GotX W K)) := Lib.hid fun W h h' => by rw [hK]; exact (ShardNearest_spec h h').mono fun _ _ => gotX_of (sn_le _ _ _ _ _)
  clear hK
  go_wp2_with fail
  refine (HI.out _ D.out N.out).mono ?_
  rintro e W ⟨A2, c2, rfl, hc2, hs, hg⟩
  replace D := Lib.hid (D.out.on hg)
  replace N := Lib.hid (N.out.on hg)
  replace G := Lib.hid (gb_trans G.out hg)
  clear hg
  have F := Lib.hid hs
  clear hs
  go_wp2_with fail
  refine (HS.out _ D.out N.out).mono ?_
  rintro e W ⟨A3, c3, rfl, hc3, hs, hg⟩
  replace D := Lib.hid (D.out.on hg)
  replace N := Lib.hid (N.out.on hg)
  replace F := Lib.hid (F.out.on hg)
  replace G := Lib.hid (gb_trans G.out hg)
  clear hg
  have F3 := Lib.hid hs
  clear hs
  go_wp2_with fail
  refine (equalHits_same F.out F3.out).mono ?_
  rintro e W ⟨rfl, hg⟩
  replace D := Lib.hid (D.out.on hg)
  replace N := Lib.hid (N.out.on hg)
  replace F := Lib.hid (F.out.on hg)
  replace G := Lib.hid (gb_trans G.out hg)
  clear hg
  cases K with
  | nil =>
    have t0 : ((([] : List M.Hit).length : Int) == 0) = true := by rfl
    go_wp2_with fail
    refine (HS.out _ D.out N.out).mono ?_
    rintro e W ⟨A4, c4, rfl, hc4, hs, hg⟩
    replace D := Lib.hid (D.out.on hg)
    replace F := Lib.hid (F.out.on hg)
    replace G := Lib.hid (gb_trans G.out hg)
    clear hg
    have F4 := Lib.hid hs
    clear hs
    go_wp2_with fail
    refine (equalHits_same F.out F4.out).mono ?_
    rintro e W ⟨rfl, hg⟩
    replace D := Lib.hid (D.out.on hg)
    replace G := Lib.hid (gb_trans G.out hg)
    clear hg
    go_wp2_with fail
    go_ret
    exact ⟨rfl, G.out⟩
  | cons h P =>
    obtain ⟨X, p1, p2, p3, p4, p5⟩ := filter_pure HK.out.symm
    have HDI : Hid (∀ W, SeesI W A1 L → Calls Try.prog 22 #[.slice A1 L.length c1, .int .i64 h.key] W fun e w' => ∃ A c, e = .returned (.tuple #[.slice A (M.dropKey L h.key).length c, .bool true]) ∧ SeesI w' A (M.dropKey L h.key) ∧ W.grownBy w' none) := Lib.hid fun W x => by
      have e := DropItem_impl (c := c1) (q := h.key) x
      rw [p1] at e
      refine e.mono fun e w' ⟨vs, he, ⟨v, hv, ho⟩, hg⟩ => ?_
      subst hv
      obtain ⟨A, c, rfl, hc, hr⟩ := ho.rd
      have hsm : Small (M.dropKey L h.key) := x.2.filter _
      exact ⟨A, c, he, ⟨hr.wide (Nat.zero_le _) (Nat.le_refl _), hsm⟩, hg⟩
    have HNX : Hid (∀ W A c, SeesI W A (M.dropKey L h.key) → SeesN .i64 W B1 m → Calls Try.prog 11 #[.slice A (M.dropKey L h.key).length c, .int .i64 s, .int .i64 kind, .slice B1 m.length d1, .int .i64 k] W (GotX W X)) := Lib.hid fun W A c y y' => by rw [← p2]; exact (ShardNearest_impl y y').mono fun _ _ => gotX_of (sn_le _ _ _ _ _)
    have hX16 : X.length ≤ 16 := by rw [← p2]; exact sn_le _ _ _ _ _
    have HKY : Hid (∀ W A c, SeesX W A X → Calls Try.prog 24 #[.slice A X.length c] W (GotN .i64 W (X.map M.Hit.key))) := Lib.hid fun W A c y => keys_any y (by omega)
    have HIN : Hid (∀ W A c, SeesN .i64 W A (X.map M.Hit.key) → Calls Try.prog 23 #[.slice A (X.map M.Hit.key).length c, .int .i64 h.key] W fun e w' => e = .returned (.bool false) ∧ W.grownBy w' none) := Lib.hid fun W A c y => by
      have e := isIn_any (c := c) (n := h.key) y
      rwa [decide_eq_false (fun hm => by obtain ⟨z, hz, he⟩ := List.mem_map.1 hm; exact p5 z hz he)] at e
    obtain ⟨b, o, rfl, _, _, x0, _⟩ := F.out.1.hit (j := 0) (x := h) rfl
    rw [Nat.zero_mul, Nat.add_zero] at x0
    have HY0 : Hid (∀ W, SeesX W (some ⟨b, o, none⟩) (h :: P) → W.cell? ⟨b, o, none⟩ = some (.int .i64 h.key)) := Lib.hid fun W x => by
      obtain ⟨b', o', e, _, _, y0, _⟩ := x.1.hit (j := 0) (x := h) rfl
      injection e with e
      injection e with e1 e2 _
      subst e1 e2
      rwa [Nat.zero_mul, Nat.add_zero] at y0
    have HEQ : Hid (∀ W A c c', SeesX W A X → SeesX W (some ⟨b, o, none⟩) (h :: P) → Calls Try.prog 20 #[.slice A P.length c, .slice (if c2 = 1 then some ⟨b, o, none⟩ else some ⟨b, o + 2, none⟩) P.length c'] W fun e w' => e = .returned (.bool true) ∧ W.grownBy w' none) := Lib.hid fun W A c c' y y' => equalHits_same (y.takeP p3) (by
      split
      · have : P = [] := List.eq_nil_of_length_eq_zero (by rw [List.length_cons] at hc2; omega)
        rw [this]
        exact SeesX.nil_ _ _
      · exact y'.tail1)
    rw [List.length_cons] at hK16 hc2 ⊢
    generalize hnk : (X.map M.Hit.key).length = nk at *
    have HKL := Lib.hid hnk
    clear hnk
    generalize hnx : X.length = nx at *
    have HXL := Lib.hid hnx
    clear hnx
    generalize P.length = t at *
    have t0 : (((t + 1 : Nat) : Int) == 0) = false := by rw [beq_eq_false_iff_ne]; omega
    have t1 : (((t : Int) + 1) == 0) = false := by rw [beq_eq_false_iff_ne]; omega
    have t2 : IntKind.i64.wrap ((t : Int) + 1 - 1) = t := by rw [Int.add_sub_cancel]; exact IntWalk.i64_in _ (by omega)
    have t3 : ((t : Int) ≤ nx) := by omega
    have t4 : decide ((nx : Int) ≥ t) = true := by simp; omega
    clear HK HI HS F3 p1 p2 p3 p5
    generalize M.dropKey L h.key = L2 at *
    generalize h.key = hk at *
    go_wp2_with fail
    refine (HDI.out _ D.out).mono ?_
    rintro e W ⟨A5, c5, rfl, hs, hg⟩
    replace D := Lib.hid (D.out.on hg)
    replace N := Lib.hid (N.out.on hg)
    replace F := Lib.hid (F.out.on hg)
    replace G := Lib.hid (gb_trans G.out hg)
    clear hg
    have D5 := Lib.hid hs
    clear hs
    go_wp2_with fail
    refine (HNX.out _ _ c5 D5.out N.out).mono ?_
    rintro e W ⟨A6, c6, rfl, hc6, hs, hg⟩
    replace F := Lib.hid (F.out.on hg)
    replace G := Lib.hid (gb_trans G.out hg)
    clear hg
    have F6 := Lib.hid hs
    clear hs
    rw [HXL.out] at hc6 ⊢
    have u1 : (t : Int) ≤ c6 := by omega
    have u2 : (0 : Int) ≤ t := by omega
    have u3 : (1 : Int) ≤ (t : Int) + 1 := by omega
    have u4 : (t : Int) + 1 ≤ c2 := by omega
    have u5 : IntKind.i64.wrap (t : Int) = t := IntWalk.i64_in _ (by omega)
    have u6 : t ≤ nx := p4
    have y0 : W.cell? ⟨b, o, none⟩ = some (.int .i64 hk) := HY0.out _ F.out
    have HCE : Hid (∀ V, W.grownBy V none → V.cell? ⟨b, o, none⟩ = some (.int .i64 hk)) := Lib.hid fun V hV => hV.cell y0 (by simp)
    obtain ⟨AD, hAD⟩ : ∃ AD, (if c2 = 1 then some (⟨b, o, none⟩ : Addr) else some ⟨b, o + 2, none⟩) = AD := ⟨_, rfl⟩
    simp only [hAD] at HEQ
    go_wp2_with fail
    go_region_held3 (fun V => V.cell? ⟨b, o, none⟩ = some (.int .i64 hk))
      (first | exact HCE.out _ S9.out | exact HCE.out _ S8.out | exact HCE.out _ S7.out | exact HCE.out _ (gb_drew (gb_refl _ _)))
      (first
        | (go_at_call 20; refine (HEQ.out _ A6 c6 _ (F6.out.on S8.out) (F.out.on S8.out)).mono ?_; rintro e w9 ⟨rfl, hg⟩; have S9 : Hid (W.grownBy w9 none) := Lib.hid (gb_trans S8.out hg); clear hg)
        | (go_at_call 23; refine (HIN.out _ _ c7 N7.out).mono ?_; rintro e w8 ⟨rfl, hg⟩; have S8 : Hid (W.grownBy w8 none) := Lib.hid (gb_trans S7.out hg); clear hg)
        | (go_at_call 24; refine (HKY.out W.drew A6 c6 (F6.out.on (gb_drew (gb_refl _ _)))).mono ?_; rintro e w7 ⟨A7, c7, rfl, hc7, hs, hg⟩; rw [HKL.out]; have N7 := Lib.hid hs; have S7 : Hid (W.grownBy w7 none) := Lib.hid (gb_trans (gb_drew (gb_refl _ none)) hg); clear hc7 hs hg)
        | fail)
    go_wp2_with fail
    go_ret
    exact ⟨rfl, gb_trans G.out S9.out⟩
end fnShardNearestFilter
/-! the row's step -/
namespace fnShardNearestFilter
set_option maxRecDepth 100000 in
theorem lifted (os : Os) (started : os.Started) (H : Type) (enc : TypeId × Value → H) :
    ReturnsInHanded {} Try.checked os 5 .any (Rows.fnShardNearestFilterSpec.pre6 enc Try.prog Try.f5 Rows.fnShardNearestFilterRow.domain false) (Rows.fnShardNearestFilterSpec.post enc Try.prog Try.f5 false true false false) := by
  refine returnsInHanded_of_change (C := Try.checked) own started (by kernel_rfl) Try.func5
    (ChangeSpec.witness6 (enc := enc) (C := Try.checked) false ⟨#[], #[.slice none 0 0], []⟩ 8 (by kernel_rfl) (by kernel_rfl) (by kernel_rfl) (by kernel_rfl)) ?_
  intro W base args ds gs before hval0 hW hcnd _
  have hval : ∀ (j : Nat) t v, Try.f5.params[j]? = some t → args[j]? = some v → Value.okWide Try.prog W .any base t v := hval0
  have hW' := hW
  obtain ⟨p, q, hA0, hV, rfl, hfz, hnd⟩ := hW
  have hA : DataW.TrodAll enc Try.prog W 0 (fun _ => true) true Try.f5.params.toList args.toList ds p := hA0
  rw [Try.params5] at hA hval
  obtain ⟨v0, vs0, d0, ds0, p0, q0, hargs, rfl, rfl, h0, r0⟩ := trodAll_cons hA
  obtain ⟨rfl, rfl, rfl⟩ := trodAll_nil r0
  obtain rfl : args = #[v0] := by cases args; simp_all
  obtain ⟨rfl, rfl⟩ := trodVars_none hV
  obtain ⟨a0, len0, cap0, rfl⟩ := okWide_slice Try.underlying37 (hval 0 37 v0 rfl rfl)
  have k0 := h0
  have lt0 : ∀ x ∈ p0, x.block < W.heap.size := by obtain ⟨m, hm⟩ := k0; exact DataW.trod_lt m _ _ _ hm
  obtain ⟨L0, rfl, b00, b01, b02⟩ := code_row h0
  clear hA0 hval0
  refine (walk W a0 cap0 L0 b00 b01 b02).mono fun e W' ⟨he, bel0⟩ => ?_
  have bel := gb_below bel0
  subst he
  exact ⟨_, rfl, _, _, _, [], _, [], hW', trodAll_mk1 (shut_bool Try.underlying4 _), (trodAll_cons_mk (Below.trod laidOut (by kernel_rfl) (of_decide_eq_true (by kernel_rfl)) k0 bel lt0) trodAll_mk0), rfl, bel.frame _, fun h => by cases h⟩
set_option maxRecDepth 100000 in
theorem over : Rows.fnShardNearestFilterRow.holds Try.pinned (OpenSpec.ofChange Rows.fnShardNearestFilterSpec) :=
  OpenClaim.holds_of_wide 5 Try.f5 rfl rfl rfl rfl rfl rfl rfl ⟨rfl, rfl, rfl, rfl, rfl⟩ rfl rfl rfl rfl rfl (by kernel_rfl) Try.func5 (by kernel_rfl)
    (of_decide_eq_true (by kernel_rfl)) (by unfold Func.isWrapper; first | (rw [if_pos (by decide +kernel)]; kernel_rfl) | (rw [if_neg (by decide +kernel)]; exact ⟨rfl, rfl⟩))
    (fun os started H enc _ => lifted os started H enc)
theorem proved : Rows.FnShardNearestFilterSaid := over
end fnShardNearestFilter
end Go.Proofs.Ytamaoljjoghajaa
