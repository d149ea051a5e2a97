/- FnExactShardNearest: the program's ShardNearest is the reference's: proved for every input, with no condition. -/
import Derived.Test.YtamaoljjoghajaaFrame
import Derived.Test.YtamaoljjoghajaaShNI
import Derived.Test.YtamaoljjoghajaaShNS
namespace Go.Proofs.Ytamaoljjoghajaa
open Go.ChangeShapes Go.WideShapes Go.ChangeAt Go.RowKit
set_option linter.unusedVariables false
theorem ints_row {H : Type} {enc : TypeId × Value → H} {W : World} {x : DataW H} {p : List MemPlace} {a0 : Option Addr} {len cap : Nat}
    (h : DataW.Trod enc Try.prog W 0 (fun _ => true) true 23 (.slice a0 len cap) x p) :
    ∃ l : List Int, len = l.length ∧ l.length ≤ maxLen ∧ Rd W 0 W.heap.size a0 (l.map (.int .i64)) := by
  obtain ⟨fuel, hf⟩ := h
  rcases open_ints Try.underlying23 Try.underlying3 (by kernel_rfl) hf with ⟨hcs, _⟩ | ⟨x, l, c, zs, hcs, _, hl, hm, hz, _, hcell, hwz⟩
  · simp [Value.cells] at hcs
    obtain ⟨rfl, rfl, rfl⟩ := hcs
    exact ⟨[], rfl, Nat.zero_le _, Rd.nil_ _ _ _ _⟩
  · simp [Value.cells] at hcs
    obtain ⟨rfl, rfl, rfl⟩ := hcs
    have hz' : zs.length = cap := by simpa using hz
    refine ⟨zs.take len, by simp; omega, by simp; omega, fun hn => ?_⟩
    obtain ⟨b, o, sp⟩ := x
    have hpos : 0 < zs.length := by
      rcases Nat.eq_zero_or_pos zs.length with h0 | h0
      · exact absurd (by rw [List.eq_nil_of_length_eq_zero h0]; simp) hn
      · exact h0
    have hc0 := hcell 0 hpos
    have hsp : sp = none := by simpa [Addr.add] using World.cell?_spot hc0
    subst hsp
    have hb : b < W.heap.size := World.block_lt_of_cell? W _ hc0
    refine ⟨b, o, rfl, Nat.zero_le _, hb, fun j u hu => ?_⟩
    rw [List.getElem?_map, List.getElem?_take] at hu
    split at hu
    · rename_i hj
      have hjz : j < zs.length := by omega
      have := hcell j hjz
      rw [show (⟨b, o, none⟩ : Addr).add j = ⟨b, o + j, none⟩ from Addr.add_lit _ _ _] at this
      rw [this]
      simp [hjz] at hu
      simp [hjz, hu]
    · simp at hu
/-- hits are handed back, their block from lo on, below hi -/
def MadeX (w : World) (l : List M.Hit) (e : Ending) (w' : World) : Prop :=
  ∃ (A : Option Addr) (c lo hi : Nat), e = .returned (.slice A l.length c) ∧ w.heap.size ≤ lo ∧ lo ≤ hi ∧ hi ≤ w'.heap.size ∧ OwnX w' lo (.slice A l.length c) l ∧ (∀ b, Value.ownBlock (.slice A l.length c) = some b → b < hi) ∧ w.grownBy w' none
theorem madeX_of {w w' : World} {e : Ending} {l : List M.Hit} (h : HitsMade w l e w') : MadeX w l e w' := by
  obtain ⟨A, c, rfl, hc, ho, hg⟩ := h
  exact ⟨A, c, _, _, rfl, Nat.le_refl _, hg.size, Nat.le_refl _, ho, fun b hb => (World.ownsRow.lt ho b hb).2, hg⟩
theorem OwnX.agree {w w' : World} {lo hi : Nat} {v : Value} {l : List M.Hit} (h : OwnX w lo v l) (hb : ∀ b, v.ownBlock = some b → b < hi) (ha : Agree lo hi w w') : OwnX w' lo v l := own_agree h hb ha
theorem sn_len (L : List M.Item) (s kind : Int) (m : List Int) (k : Int) : (M.ShardNearest L s kind m k).length ≤ 16 := by
  unfold M.ShardNearest
  split
  · rename_i h
    exact Nat.le_trans (M.nearest_len _ _ _ _) (M.validStore_of (M.canFind_of h.1).1).1
  · exact Nat.zero_le _
namespace fnExactShardNearest
set_option maxRecDepth 100000 in
set_option maxHeartbeats 4000000 in
theorem walk (w : World) (A : Option Addr) (c : Nat) (a : List M.Item) (s kind : Int) (B : Option Addr) (d : Nat) (m : List Int) (k : Int) (hl : a.length ≤ maxLen) (hp : ∀ x ∈ a, x.pos.length ≤ maxLen) (hr : RdI w 0 w.heap.size A a) (hl' : m.length ≤ maxLen) (hr' : Rd w 0 w.heap.size B (m.map (.int .i64))) :
    Calls Try.prog 3 #[.slice A a.length c, .int .i64 s, .int .i64 kind, .slice B m.length d, .int .i64 k] w fun e w' => e = .returned (.bool true) ∧ w.grownBy w' none := by
  have HR := Lib.hid hr
  have HP := Lib.hid hp
  have HR' := Lib.hid hr'
  clear hr hp hr'
  by_cases hm9 : m.length ≤ 1048576
  rotate_left
  · have h9 : (m.length : Int) > 1048576 := by omega
    go_enter Try.func3, Try.ntmps3
    go_wp2_with fail
    go_ret
    exact ⟨rfl, gb_refl _ _⟩
  have h9 : ¬ (m.length : Int) > 1048576 := by omega
  go_enter Try.func3, Try.ntmps3
  go_wp2_with fail
  refine (szItemS_any w A c _ _ a 1048576 hl HP.out HR.out (Nat.le_refl _) (by omega) (by omega)).mono ?_
  rintro e W ⟨r, rfl, hr1, hr2, hg⟩
  have G := Lib.hid hg
  have HZ := Lib.hid hr2
  by_cases hr0 : r < 0
  · go_wp2_with fail
    go_ret
    exact ⟨rfl, G.out⟩
  · have HS := Lib.hid (show Small a from hr2 (by omega))
    have KA := Lib.hid (Held.on (Held.now (lo := 0) (Nat.le_refl w.heap.size)) hg)
    have hsz := hg.size
    clear hg hr2 hl HZ hl'
    have HRd : Hid (∀ W, Held 0 w.heap.size w W → RdI W 0 W.heap.size A a) := Lib.hid fun W h => (HR.out.agree h.1).wide (Nat.le_refl _) h.2
    have HTN : Hid (∀ W, Held 0 w.heap.size w W → Calls Try.prog 10 #[.slice B m.length d] W (MadeN .i64 3 W m)) := Lib.hid fun W h => (toIntS_any W B d m hm9 ((HR'.out.agree h.1).wide (Nat.le_refl _) h.2)).mono fun _ _ h => madeN_own h
    have hL1 := HS.out.1
    obtain ⟨K, hK⟩ : ∃ K, K = M.ShardNearest a s kind m k := ⟨_, rfl⟩
    have hK16 : K.length ≤ 16 := by rw [hK]; exact sn_len _ _ _ _ _
    have HCS : Hid (∀ W A' B' c' d', SeesI W A' a → SeesN .i64 W B' m → Calls Try.prog 8 #[.slice A' a.length c', .int .i64 s, .int .i64 kind, .slice B' m.length d', .int .i64 k] W (MadeX W K)) := Lib.hid fun W A' B' c' d' x y => by rw [hK]; exact (ShardNearest_spec x y).mono fun _ _ h => madeX_of h
    have HCI : Hid (∀ W A' B' c' d', SeesI W A' a → SeesN .i64 W B' m → Calls Try.prog 11 #[.slice A' a.length c', .int .i64 s, .int .i64 kind, .slice B' m.length d', .int .i64 k] W (MadeX W K)) := Lib.hid fun W A' B' c' d' x y => by rw [hK]; exact (ShardNearest_impl x y).mono fun _ _ h => madeX_of h
    clear hK
    -- the reference's answer
    go_wp2_with fail
    refine (tis_any (HRd.out _ KA.out) HS.out).mono ?_
    rintro e W ⟨A1, c1, LV1, lo1, hi1, rfl, hm1, a1, a2, a3, ho, hg⟩
    replace KA := Lib.hid (KA.out.on hg)
    replace G := Lib.hid (gb_trans G.out hg)
    have hz := hg.size
    clear hg
    have R1 := Lib.hid (show SeesI _ A1 a from ⟨hm1 ▸ ho.rdI.wide (Nat.zero_le _) (Nat.le_refl _), HS.out⟩)
    clear ho hm1
    go_wp2_with fail
    refine (HTN.out _ KA.out).mono ?_
    rintro e W ⟨B1, d1, mo1, mi1, rfl, hq1, p1, p2, p3, ho, hg⟩
    replace KA := Lib.hid (KA.out.on hg)
    replace R1 := Lib.hid (R1.out.on hg)
    replace G := Lib.hid (gb_trans G.out hg)
    have hz := hg.size
    clear hg
    have Q1 := Lib.hid (show SeesN .i64 _ B1 m from ⟨ho.rd.wide (Nat.zero_le _) (Nat.le_refl _), hm9⟩)
    clear ho
    go_wp2_with fail
    refine (HCS.out _ _ _ c1 d1 R1.out Q1.out).mono ?_
    rintro e W ⟨A2, c2, lo2, hi2, rfl, b1, b2, b3, ho, hb, hg⟩
    replace KA := Lib.hid (KA.out.on hg)
    replace G := Lib.hid (gb_trans G.out hg)
    have hz := hg.size
    clear hg
    have OW := Lib.hid ho
    have HBW := Lib.hid hb
    have KW := Lib.hid (Held.now (lo := lo2) b3)
    clear ho hb R1 Q1
    -- the arguments
    go_wp2_with fail
    refine (tis_any (HRd.out _ KA.out) HS.out).mono ?_
    rintro e W ⟨A3, c3, LV, lo3, hi3, rfl, hm3, d1', d2, d3, ho, hg⟩
    replace KA := Lib.hid (KA.out.on hg)
    replace KW := Lib.hid (KW.out.on hg)
    replace G := Lib.hid (gb_trans G.out hg)
    have hz := hg.size
    clear hg
    have OX := Lib.hid ho
    have KX := Lib.hid (Held.now (lo := lo3) d3)
    have HM := Lib.hid hm3
    have R1 := Lib.hid (show SeesI _ A3 a from ⟨hm3 ▸ ho.rdI.wide (Nat.zero_le _) (Nat.le_refl _), HS.out⟩)
    clear ho hm3
    go_wp2_with fail
    refine (HTN.out _ KA.out).mono ?_
    rintro e W ⟨B3, d3', mo3, mi3, rfl, hq3, q1, q2, q3, ho, hg⟩
    replace KA := Lib.hid (KA.out.on hg)
    replace KW := Lib.hid (KW.out.on hg)
    replace KX := Lib.hid (KX.out.on hg)
    replace R1 := Lib.hid (R1.out.on hg)
    replace G := Lib.hid (gb_trans G.out hg)
    have hz := hg.size
    clear hg
    have OY := Lib.hid ho
    have KY := Lib.hid (Held.now (lo := mo3) q3)
    have Q1 := Lib.hid (show SeesN .i64 _ B3 m from ⟨ho.rd.wide (Nat.zero_le _) (Nat.le_refl _), hm9⟩)
    clear ho
    -- the answer
    go_wp2_with fail
    refine (HCI.out _ _ _ c3 d3' R1.out Q1.out).mono ?_
    rintro e W ⟨A4, c4, lo4, hi4, rfl, e1, e2, e3, ho, hb, hg⟩
    replace KA := Lib.hid (KA.out.on hg)
    replace KW := Lib.hid (KW.out.on hg)
    replace KX := Lib.hid (KX.out.on hg)
    replace KY := Lib.hid (KY.out.on hg)
    replace G := Lib.hid (gb_trans G.out hg)
    have hz := hg.size
    clear hg
    have OG := Lib.hid ho
    have HBG := Lib.hid hb
    have KG := Lib.hid (Held.now (lo := lo4) e3)
    clear ho hb R1 Q1
    have HEQ : Hid (∀ W, Held lo4 hi4 _ W → Held lo2 hi2 _ W → Calls Try.prog 12 #[.slice A4 K.length c4, .slice A2 K.length c2] W fun e w' => e = .returned (.bool true) ∧ W.grownBy w' none) := Lib.hid fun W h h' =>
      eqHitS_same ((OG.out.agree HBG.out h.1).sees (by omega)) ((OW.out.agree HBW.out h'.1).sees (by omega))
    go_wp2_with fail
    refine (HEQ.out _ KG.out KW.out).mono ?_
    rintro e W ⟨rfl, hg⟩
    replace KA := Lib.hid (KA.out.on hg)
    replace KW := Lib.hid (KW.out.on hg)
    replace KX := Lib.hid (KX.out.on hg)
    replace KY := Lib.hid (KY.out.on hg)
    replace KG := Lib.hid (KG.out.on hg)
    replace G := Lib.hid (gb_trans G.out hg)
    have hz := hg.size
    clear hg
    go_wp2_with fail
    refine (tis_any (HRd.out _ KA.out) HS.out).mono ?_
    rintro e W ⟨A5, c5, LV5, lo5, hi5, rfl, hm5, f1, f2, f3, ho, hg⟩
    replace KA := Lib.hid (KA.out.on hg)
    replace KW := Lib.hid (KW.out.on hg)
    replace KX := Lib.hid (KX.out.on hg)
    replace KY := Lib.hid (KY.out.on hg)
    replace KG := Lib.hid (KG.out.on hg)
    replace G := Lib.hid (gb_trans G.out hg)
    have hz := hg.size
    clear hg
    have R5 := Lib.hid (hm5 ▸ ho.rdI)
    have R3 := Lib.hid (HM.out ▸ (OX.out.agree KX.out.1).rdI)
    clear ho hm5
    go_wp2_with fail
    refine (eqItemS_same _ A3 A5 c3 c5 _ _ _ _ a HS.out.1 HS.out.2 R3.out R5.out (Nat.le_refl _) (Nat.le_refl _)).mono ?_
    rintro e W ⟨rfl, hg⟩
    replace KA := Lib.hid (KA.out.on hg)
    replace KW := Lib.hid (KW.out.on hg)
    replace KX := Lib.hid (KX.out.on hg)
    replace KY := Lib.hid (KY.out.on hg)
    replace KG := Lib.hid (KG.out.on hg)
    replace G := Lib.hid (gb_trans G.out hg)
    have hz := hg.size
    clear hg
    clear R3 R5
    go_wp2_with fail
    refine (HTN.out _ KA.out).mono ?_
    rintro e W ⟨A6, c6, lo6, hi6, rfl, hq6, f4, f5, f6, ho, hg⟩
    replace KA := Lib.hid (KA.out.on hg)
    replace KW := Lib.hid (KW.out.on hg)
    replace KX := Lib.hid (KX.out.on hg)
    replace KY := Lib.hid (KY.out.on hg)
    replace KG := Lib.hid (KG.out.on hg)
    replace G := Lib.hid (gb_trans G.out hg)
    have hz := hg.size
    clear hg
    have R5 := Lib.hid ho.rd
    have R3 := Lib.hid (OY.out.agree KY.out.1).rd
    have HEN := Lib.hid (eis_any (c := d3') (d := c6) (by omega) R3.out R5.out)
    rw [decide_eq_true rfl] at HEN
    clear ho R3 R5
    go_wp2_with fail
    refine (HEN.out).mono ?_
    rintro e W ⟨rfl, hg⟩
    replace KA := Lib.hid (KA.out.on hg)
    replace KW := Lib.hid (KW.out.on hg)
    replace KX := Lib.hid (KX.out.on hg)
    replace KY := Lib.hid (KY.out.on hg)
    replace KG := Lib.hid (KG.out.on hg)
    replace G := Lib.hid (gb_trans G.out hg)
    have hz := hg.size
    clear hg
    clear HEN
    -- the arguments are marked
    have HN : Hid (a.length = LV.length) := Lib.hid (by rw [← HM.out, List.length_map])
    have HSV : Hid (Small (LV.map (·.1))) := Lib.hid (by rw [HM.out]; exact HS.out)
    have hsb := szI_small HSV.out
    go_wp2_with fail
    refine (mis_any HN.out HSV.out (OX.out.agree KX.out.1) (by omega) (by omega)).mono ?_
    rintro e W ⟨rfl, _, hw⟩
    replace KA := Lib.hid (KA.out.wrote hw (by omega))
    replace KW := Lib.hid (KW.out.wrote hw (by omega))
    replace KG := Lib.hid (KG.out.wrote hw (by omega))
    replace KY := Lib.hid (KY.out.wrote hw (by omega))
    replace G := Lib.hid (Wrote.gb G.out hw (by omega))
    have hz := hw.size
    clear hw
    obtain ⟨q, hq⟩ : ∃ q, q = (1 : Int) + szI LV := ⟨_, rfl⟩
    have hq0 : 1 ≤ q ∧ q ≤ 1099513724929 := by omega
    rw [← hq]
    clear hq KX OX
    have HOY := Lib.hid (OY.out.agree KY.out.1)
    have HMN := Lib.hid (markIntS_any _ B3 d3' mo3 m q hm9 HOY.out.1 (by omega) (by omega))
    go_wp2_with fail
    refine HMN.out.mono ?_
    rintro e W ⟨rfl, _, hg9⟩
    have hw : Wrote mo3 mi3 _ W := (Wrote.refl mo3 mi3 _).grown hg9 (fun g e => ⟨(World.ownsRow.lt HOY.out.1 g e).1, HOY.out.2 g e⟩)
    replace KA := Lib.hid (KA.out.wrote hw (by omega))
    replace KW := Lib.hid (KW.out.wrote hw (by omega))
    replace KG := Lib.hid (KG.out.wrote hw (by omega))
    replace G := Lib.hid (Wrote.gb G.out hw (by omega))
    have hz := hw.size
    clear hw hg9 HMN HOY
    obtain ⟨q', hq⟩ : ∃ q', q' = (q : Int) + m.length := ⟨_, rfl⟩
    have hq0' : 0 ≤ q' := by omega
    rw [← hq]
    clear hq KY OY
    go_wp2_with fail
    refine (HEQ.out _ KG.out KW.out).mono ?_
    rintro e W ⟨rfl, hg⟩
    replace KA := Lib.hid (KA.out.on hg)
    replace KW := Lib.hid (KW.out.on hg)
    replace KG := Lib.hid (KG.out.on hg)
    replace G := Lib.hid (gb_trans G.out hg)
    have hz := hg.size
    clear hg
    -- the answer is marked
    have HOG := Lib.hid (OG.out.agree HBG.out KG.out.1)
    have HMX := Lib.hid (markHitS_any _ A4 c4 lo4 K 1 (by omega) HOG.out (by omega) (by omega))
    go_wp2_with fail
    refine HMX.out.mono ?_
    rintro e W ⟨rfl, ho, hg9⟩
    have hw : Wrote lo4 hi4 _ W := (Wrote.refl lo4 hi4 _).grown hg9 (fun g e => ⟨(World.ownsRow.lt HOG.out g e).1, HBG.out g e⟩)
    replace KA := Lib.hid (KA.out.wrote hw (by omega))
    replace KW := Lib.hid (KW.out.wrote hw (by omega))
    replace G := Lib.hid (Wrote.gb G.out hw (by omega))
    have hz := hw.size
    have OM : Hid (W.ownsRow lo4 45 2 (.slice A4 K.length c4) K.length (cellsX (renX 1 K.length))) := Lib.hid (by
      have h := ho
      unfold OwnX at h
      rwa [renX_length] at h)
    have KM := Lib.hid (Held.now (lo := lo4) (show hi4 ≤ W.heap.size by omega))
    clear hw hg9 ho HMX HOG
    obtain ⟨q2, hq2⟩ : ∃ q2, q2 = (1 : Int) + 2 * K.length := ⟨_, rfl⟩
    have hq20 : 0 ≤ q2 := by omega
    rw [← hq2]
    have HH : Hid (∀ W, Held lo4 hi4 _ W → Calls Try.prog 18 #[.slice A4 K.length c4, .int .i64 1] W fun e w' => e = .returned (.int .i64 q2) ∧ W = w') := Lib.hid fun W h => by
      rw [hq2]
      exact heldHitS_any W A4 c4 _ _ K.length 1 (by omega) (rd_of_owns (own_agree OM.out HBG.out h.1)) (by omega) (by omega)
    have tq : (q2 != q2) = false := by simp
    clear KG OG hq2
    go_wp2_with fail
    refine (HH.out _ KM.out).mono ?_
    rintro e w' ⟨rfl, rfl⟩
    -- another call leaves it as it is
    go_wp2_with fail
    refine (tis_any (HRd.out _ KA.out) HS.out).mono ?_
    rintro e W ⟨A7, c7, LV7, lo7, hi7, rfl, hm7, g1, g2, g3, ho, hg⟩
    replace KA := Lib.hid (KA.out.on hg)
    replace KW := Lib.hid (KW.out.on hg)
    replace KM := Lib.hid (KM.out.on hg)
    replace G := Lib.hid (gb_trans G.out hg)
    have hz := hg.size
    clear hg
    have R7 := Lib.hid (show SeesI _ A7 a from ⟨hm7 ▸ ho.rdI.wide (Nat.zero_le _) (Nat.le_refl _), HS.out⟩)
    clear ho hm7
    go_wp2_with fail
    refine (HTN.out _ KA.out).mono ?_
    rintro e W ⟨B7, d7, mo7, mi7, rfl, hq7, g4, g5, g6, ho, hg⟩
    replace KA := Lib.hid (KA.out.on hg)
    replace KW := Lib.hid (KW.out.on hg)
    replace KM := Lib.hid (KM.out.on hg)
    replace R7 := Lib.hid (R7.out.on hg)
    replace G := Lib.hid (gb_trans G.out hg)
    have hz := hg.size
    clear hg
    have Q7 := Lib.hid (show SeesN .i64 _ B7 m from ⟨ho.rd.wide (Nat.zero_le _) (Nat.le_refl _), hm9⟩)
    clear ho
    go_wp2_with fail
    refine (HCI.out _ _ _ c7 d7 R7.out Q7.out).mono ?_
    rintro e W ⟨A8, c8, lo8, hi8, rfl, i1, i2, i3, ho, hb, hg⟩
    replace KA := Lib.hid (KA.out.on hg)
    replace KW := Lib.hid (KW.out.on hg)
    replace KM := Lib.hid (KM.out.on hg)
    replace G := Lib.hid (gb_trans G.out hg)
    have hz := hg.size
    clear hg
    have R8 := Lib.hid (ho.sees (by omega))
    clear ho hb R7 Q7
    go_wp2_with fail
    refine (eqHitS_same R8.out ((OW.out.agree HBW.out KW.out.1).sees (by omega))).mono ?_
    rintro e W ⟨rfl, hg⟩
    replace KM := Lib.hid (KM.out.on hg)
    replace G := Lib.hid (gb_trans G.out hg)
    have hz := hg.size
    clear hg
    go_wp2_with fail
    refine (HH.out _ KM.out).mono ?_
    rintro e w' ⟨rfl, rfl⟩
    go_wp2_with fail
    go_ret
    exact ⟨rfl, G.out⟩
end fnExactShardNearest
/-! the row's step -/
namespace fnExactShardNearest
set_option maxRecDepth 100000 in
theorem lifted (os : Os) (started : os.Started) (H : Type) (enc : TypeId × Value → H) :
    ReturnsInHanded {} Try.checked os 3 .any (Rows.fnExactShardNearestSpec.pre6 enc Try.prog Try.f3 Rows.fnExactShardNearestRow.domain false) (Rows.fnExactShardNearestSpec.post enc Try.prog Try.f3 false true false false) := by
  refine returnsInHanded_of_change (C := Try.checked) own started (by kernel_rfl) Try.func3
    (ChangeSpec.witness6 (enc := enc) (C := Try.checked) false ⟨#[], #[.slice none 0 0, .int .i64 0, .int .i64 0, .slice none 0 0, .int .i64 0], []⟩ 8 (by kernel_rfl) (by kernel_rfl) (by kernel_rfl) (by kernel_rfl)) ?_
  intro W base args ds gs before hval0 hW hcnd _
  have hval : ∀ (j : Nat) t v, Try.f3.params[j]? = some t → args[j]? = some v → Value.okWide Try.prog W .any base t v := hval0
  have hW' := hW
  obtain ⟨p, q, hA0, hV, rfl, hfz, hnd⟩ := hW
  have hA : DataW.TrodAll enc Try.prog W 0 (fun _ => true) true Try.f3.params.toList args.toList ds p := hA0
  rw [Try.params3] at hA hval
  obtain ⟨v0, vs0, d0, ds0, p0, q0, hargs, rfl, rfl, h0, r0⟩ := trodAll_cons hA
  obtain ⟨v1, vs1, d1, ds1, p1, q1, rfl, rfl, rfl, h1, r1⟩ := trodAll_cons r0
  obtain ⟨v2, vs2, d2, ds2, p2, q2, rfl, rfl, rfl, h2, r2⟩ := trodAll_cons r1
  obtain ⟨v3, vs3, d3, ds3, p3, q3, rfl, rfl, rfl, h3, r3⟩ := trodAll_cons r2
  obtain ⟨v4, vs4, d4, ds4, p4, q4, rfl, rfl, rfl, h4, r4⟩ := trodAll_cons r3
  obtain ⟨rfl, rfl, rfl⟩ := trodAll_nil r4
  obtain rfl : args = #[v0, v1, v2, v3, v4] := by cases args; simp_all
  obtain ⟨rfl, rfl⟩ := trodVars_none hV
  obtain ⟨a0, len0, cap0, rfl⟩ := okWide_slice Try.underlying22 (hval 0 22 v0 rfl rfl)
  have k0 := h0
  have lt0 : ∀ x ∈ p0, x.block < W.heap.size := by obtain ⟨m, hm⟩ := k0; exact DataW.trod_lt m _ _ _ hm
  obtain ⟨L0, rfl, b00, b01, b02, b03⟩ := items_row h0
  obtain ⟨a1, rfl, rfl, rfl, w1⟩ := open_int Try.underlying3 (hval 1 3 v1 rfl rfl) h1
  obtain ⟨a2, rfl, rfl, rfl, w2⟩ := open_int Try.underlying3 (hval 2 3 v2 rfl rfl) h2
  obtain ⟨a3, len3, cap3, rfl⟩ := okWide_slice Try.underlying23 (hval 3 23 v3 rfl rfl)
  have k3 := h3
  have lt3 : ∀ x ∈ p3, x.block < W.heap.size := by obtain ⟨m, hm⟩ := k3; exact DataW.trod_lt m _ _ _ hm
  obtain ⟨L3, rfl, b30, b31⟩ := ints_row h3
  obtain ⟨a4, rfl, rfl, rfl, w4⟩ := open_int Try.underlying3 (hval 4 3 v4 rfl rfl) h4
  clear hA0 hval0
  refine (walk W a0 cap0 L0 a1 a2 a3 cap3 L3 a4 b01 b02 b03 b30 b31).mono fun e W' ⟨he, bel0⟩ => ?_
  have bel := gb_below bel0
  subst he
  exact ⟨_, rfl, _, _, _, [], _, [], hW', trodAll_mk1 (shut_bool Try.underlying4 _), (trodAll_cons_mk (Below.trod laidOut (by kernel_rfl) (of_decide_eq_true (by kernel_rfl)) k0 bel lt0) (trodAll_cons_mk (shut_int Try.underlying3 w1) (trodAll_cons_mk (shut_int Try.underlying3 w2) (trodAll_cons_mk (Below.trod laidOut (by kernel_rfl) (of_decide_eq_true (by kernel_rfl)) k3 bel lt3) (trodAll_cons_mk (shut_int Try.underlying3 w4) trodAll_mk0))))), rfl, bel.frame _, fun h => by cases h⟩
set_option maxRecDepth 100000 in
theorem over : Rows.fnExactShardNearestRow.holds Try.pinned (OpenSpec.ofChange Rows.fnExactShardNearestSpec) :=
  OpenClaim.holds_of_wide 3 Try.f3 rfl rfl rfl rfl rfl rfl rfl ⟨rfl, rfl, rfl, rfl, rfl⟩ rfl rfl rfl rfl rfl (by kernel_rfl) Try.func3 (by kernel_rfl)
    (of_decide_eq_true (by kernel_rfl)) (by unfold Func.isWrapper; first | (rw [if_pos (by decide +kernel)]; kernel_rfl) | (rw [if_neg (by decide +kernel)]; exact ⟨rfl, rfl⟩))
    (fun os started H enc _ => lifted os started H enc)
theorem proved : Rows.FnExactShardNearestSaid := over
end fnExactShardNearest
end Go.Proofs.Ytamaoljjoghajaa
