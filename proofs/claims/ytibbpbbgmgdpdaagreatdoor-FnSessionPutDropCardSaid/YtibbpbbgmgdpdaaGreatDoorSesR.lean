/- The walks of the program's readers of words: readNumber, numberOf, readVector. The walks of the reference's readers and writers of words: decimal, splitAt, parseInt, numberOf, vectorOf, hitsText. The walks of the reference's readers of words: parseInt, numberOf, vectorOf. The walk of the reference's text of hits. -/
import Derived.Test.YtibbpbbgmgdpdaaGreatDoorTxt
import Derived.Test.YtibbpbbgmgdpdaaGreatDoorCopyW
import Derived.Test.YtibbpbbgmgdpdaaGreatDoorParseW
import Derived.Lib.AtoiBound
import Derived.Test.YtibbpbbgmgdpdaaGreatDoorHitB
import Derived.Laws.IdiomStrings
import Derived.Deep.RegionHeld3
import Derived.Deep.RegionLaw
namespace Go.Proofs.YtibbpbbgmgdpdaaGreatDoor
open Go.RowKit
set_option linter.unusedVariables false
set_option linter.unusedSimpArgs false
set_option maxRecDepth 100000

theorem tb_toList (l : List UInt8) : (tb l).toList = l := by rw [Lib.toList_data, tb_list]
/-- what readNumber answers -/
def NumGot (w : World) (l : List UInt8) (e : Ending) (w' : World) : Prop := ∃ n b, e = .returned (.tuple #[.int .i64 n, .bool b]) ∧ b = (M.num l).isSome ∧ (∀ v, M.num l = some v → n = v) ∧ w.grownBy w' none
theorem NumGot.none_ {w w' : World} {l : List UInt8} {n : Int} (h : M.num l = none) (hg : w.grownBy w' none) : NumGot w l (.returned (.tuple #[.int .i64 n, .bool false])) w' :=
  ⟨n, false, rfl, by rw [h]; rfl, (fun v hv => by rw [h] at hv; cases hv), hg⟩
theorem NumGot.some_ {w w' : World} {l : List UInt8} {n : Int} (h : M.num l = some n) (hg : w.grownBy w' none) : NumGot w l (.returned (.tuple #[.int .i64 n, .bool true])) w' :=
  ⟨n, true, rfl, by rw [h]; rfl, (fun v hv => by rw [h] at hv; injection hv), hg⟩
theorem num_long {l : List UInt8} (h : ¬ l.length ≤ 4) : M.num l = none := by
  unfold M.num
  split
  · rw [if_neg (fun hh => h hh.1)]
  · rfl
theorem num_bad {l : List UInt8} (h : ∀ v, Lib.atoiAll l ≠ .ok v) : M.num l = none := by
  by_cases hl : l.length ≤ 4
  · unfold M.num
    have e := Lib.atoiAll_short l (by omega)
    split
    · rename_i n hn
      rw [hn] at e
      exact absurd e (h n)
    · rfl
  · exact num_long hl
theorem num_ok {l : List UInt8} {v : Int} (h : Lib.atoiAll l = .ok v) (hl : l.length ≤ 4) : M.num l = if Lib.itoa v = l then some v else none := by
  have e := Lib.atoiAll_short l (by omega)
  rw [h] at e
  unfold M.num
  cases ha : Lib.atoi l with
  | none => rw [ha] at e; cases e
  | some n =>
    rw [ha] at e
    injection e with e
    subst e
    by_cases h2 : Lib.itoa v = l
    · rw [if_pos h2]; simp [hl, h2]
    · rw [if_neg h2]; simp [h2]
theorem readNumber_impl {w : World} (hl : LibOk w) (l : List UInt8) (hs : l.length ≤ 1048576) : Calls Tryz.prog 49 #[.string (tb l)] w (NumGot w l) := by
  have HL := Lib.hid hl
  have hsz := tb_size l
  by_cases h : ∃ v, Lib.atoiAll l = .ok v
  · obtain ⟨v, hv⟩ := h
    have HA := Lib.hid (fun W => atoi_ok (w := W) l hs hv)
    have hb := Lib.atoiAll_bounds hv
    by_cases h4 : l.length ≤ 4
    · have HI : Hid (∀ W, w.grownBy W none → Calls Tryz.prog 35 #[.int .i64 v] W fun e w' => e = .returned (.string (tb (Lib.itoa v))) ∧ W.grownBy w' none) := Lib.hid fun W hW => itoa_any (HL.out.on hW) v hb.1 hb.2
      have hn := num_ok hv h4
      have h4' : (l.length : Int) ≤ 4 := by omega
      by_cases he : Lib.itoa v = l
      · rw [if_pos he] at hn
        have HN := Lib.hid hn
        rw [he] at HI
        clear hn hl hv he hb
        generalize l.length = n at *
        generalize tb l = S at *
        go_enter Tryz.func49, Tryz.ntmps49
        go_wp2_with fail
        refine (HA.out _).mono ?_
        rintro e w1 ⟨rfl, hg⟩
        have G := Lib.hid hg
        clear hg
        go_wp2_with fail
        refine (HI.out _ G.out).mono ?_
        rintro e w2 ⟨rfl, hg⟩
        have G2 := Lib.hid (gb_trans G.out hg)
        clear hg
        go_wp2_with fail
        go_ret2
        exact NumGot.some_ HN.out G2.out
      · rw [if_neg he] at hn
        have HN := Lib.hid hn
        have t1 : ((tb (Lib.itoa v)).toList == (tb l).toList) = false := by rw [tb_toList, tb_toList]; exact beq_eq_false_iff_ne.2 he
        clear hn hl hv he hb
        generalize l.length = n at *
        generalize tb l = S at *
        generalize tb (Lib.itoa v) = S2 at *
        go_enter Tryz.func49, Tryz.ntmps49
        go_wp2_with fail
        refine (HA.out _).mono ?_
        rintro e w1 ⟨rfl, hg⟩
        have G := Lib.hid hg
        clear hg
        go_wp2_with fail
        refine (HI.out _ G.out).mono ?_
        rintro e w2 ⟨rfl, hg⟩
        have G2 := Lib.hid (gb_trans G.out hg)
        clear hg
        go_wp2_with fail
        go_ret2
        exact NumGot.none_ HN.out G2.out
    · have HN := Lib.hid (num_long h4)
      have h4' : (4 : Int) < l.length := by omega
      clear hl hv hb
      generalize l.length = n at *
      generalize tb l = S at *
      go_enter Tryz.func49, Tryz.ntmps49
      go_wp2_with fail
      refine (HA.out _).mono ?_
      rintro e w1 ⟨rfl, hg⟩
      have G := Lib.hid hg
      clear hg
      go_wp2_with fail
      go_ret2
      exact NumGot.none_ HN.out G.out
  · have hbad : ∀ v, Lib.atoiAll l ≠ .ok v := fun v hv => h ⟨v, hv⟩
    have HA := Lib.hid (atoi_bad hl l hs hbad)
    have HN := Lib.hid (num_bad hbad)
    clear hl h hbad
    generalize l.length = n at *
    generalize tb l = S at *
    go_enter Tryz.func49, Tryz.ntmps49
    go_wp2_with fail
    refine HA.out.mono ?_
    rintro e w1 ⟨n1, N, rfl, hg⟩
    have G := Lib.hid hg
    clear hg
    go_wp2_with fail
    go_ret2
    exact NumGot.none_ HN.out G.out
theorem numberOf_impl {w : World} (hl : LibOk w) (l : List UInt8) (hs : l.length ≤ 1048576) : Calls Tryz.prog 31 #[.string (tb l)] w fun e w' => e = .returned (.int .i64 (M.numOr l)) ∧ w.grownBy w' none := by
  have HR := Lib.hid (readNumber_impl hl l hs)
  have HO : M.numOr l = (M.num l).getD (-1) := rfl
  clear hl
  obtain ⟨r, hr⟩ : ∃ r, M.numOr l = r := ⟨_, rfl⟩
  rw [hr] at HO ⊢
  cases hn : M.num l with
  | none =>
    have HN := Lib.hid hn
    rw [hn] at HO
    have hr' : r = -1 := HO
    subst hr'
    clear hn HO hr
    generalize tb l = S at *
    go_enter Tryz.func31, Tryz.ntmps31
    go_wp2_with fail
    refine HR.out.mono ?_
    rintro e w1 ⟨n, b, rfl, hb, hv, hg⟩
    rw [HN.out] at hb
    replace hb : b = false := hb
    subst hb
    have G := Lib.hid hg
    clear hg hv
    go_wp2_with fail
    go_ret
    exact ⟨rfl, G.out⟩
  | some v =>
    have HN := Lib.hid hn
    rw [hn] at HO
    have hr' : r = v := HO
    subst hr'
    clear hn HO hr
    generalize tb l = S at *
    go_enter Tryz.func31, Tryz.ntmps31
    go_wp2_with fail
    refine HR.out.mono ?_
    rintro e w1 ⟨n, b, rfl, hb, hv, hg⟩
    rw [HN.out] at hb
    replace hb : b = true := hb
    subst hb
    obtain rfl := hv _ HN.out
    have G := Lib.hid hg
    clear hg hv
    go_wp2_with fail
    go_ret
    exact ⟨rfl, G.out⟩

/-- a vector is handed back, and whether it is valid -/
def VecGot (w : World) (l : List UInt8) (e : Ending) (w' : World) : Prop := ∃ A c b, e = .returned (.tuple #[.slice A (M.vec l).length c, .bool b]) ∧ b = M.isVec (M.vec l) ∧ (M.vec l).length ≤ c ∧ SeesN .i64 w' A (M.vec l) ∧ w.grownBy w' none
theorem VecGot.none_ {w w' : World} {l : List UInt8} (h : M.nums (M.cut 44 l) = none) (hg : w.grownBy w' none) : VecGot w l (.returned (.tuple #[.slice none 0 0, .bool false])) w' := by
  have e : M.vec l = [] := by unfold M.vec; rw [h]; rfl
  refine ⟨none, 0, false, by rw [e]; rfl, by rw [e]; rfl, by rw [e]; exact Nat.le_refl _, ?_, hg⟩
  rw [e]
  exact ⟨Rd.nil_ _ _ _ _, by simp⟩
set_option maxHeartbeats 1000000 in
theorem readVector_impl {w : World} (hl : LibOk w) (l : List UInt8) (hs : l.length ≤ 1048575) : Calls Tryz.prog 29 #[.string (tb l)] w (VecGot w l) := by
  obtain ⟨i0, hi0, hz0, hz1, hz2⟩ := info_parts info_int'
  have hlib := hl
  have HL := Lib.hid hl
  have HW := Lib.hid (split_any (hl.on (World.grownBy_alloc w (.cells #[] 3) none)) l 44 (by omega))
  have hwl := M.cut_len 44 l
  have HM := Lib.hid (fun x (hx : x ∈ M.cut 44 l) => M.cut_mem hx)
  have HV : Hid (∀ out, M.nums (M.cut 44 l) = some out → M.vec l = out) := Lib.hid fun out h => by unfold M.vec; rw [h]; rfl
  have HN : Hid (∀ w', M.nums (M.cut 44 l) = none → w.grownBy w' none → VecGot w l (.returned (.tuple #[.slice none 0 0, .bool false])) w') := Lib.hid fun w' h hg => VecGot.none_ h hg
  clear hl hlib
  generalize M.cut 44 l = ws at *
  obtain ⟨n, hn⟩ : ∃ n, n = ws.length := ⟨_, rfl⟩
  rw [← hn] at hwl
  have HNN := Lib.hid hn
  have HB : Hid (∀ x ∈ ws, x.length ≤ 1048576) := Lib.hid fun x hx => by have := HM.out x hx; have : 1 ≤ ws.length := List.length_pos_of_mem hx; omega
  clear hn HM
  obtain ⟨S, hS⟩ : ∃ S, S = tb l := ⟨_, rfl⟩
  rw [← hS] at HW ⊢
  clear hS
  go_enter Tryz.func29, Tryz.ntmps29
  go_wp2_with fail
  refine HW.out.mono ?_
  rintro e w1 ⟨A, c, rfl, hc, ha, hg⟩
  rw [← HNN.out] at hc ha ⊢
  have DA := Lib.hid ha
  have G1 := Lib.hid (gb_trans (World.grownBy_alloc w (.cells #[] 3) none) hg)
  have O1 : Hid (OwnInts .i64 3 w1 w.heap.size (.slice (some ⟨w.heap.size, 0, none⟩) 0 0) []) := Lib.hid (OwnInts.grown (World.ownsRow_made (base := w.heap.size) (e := 3) (size := 1) w #[] 0 (Nat.le_refl _) (by decide) rfl) hg (by simp))
  clear ha hg HW
  go_wp2_with fail
  go_loopw [4, 13] (fun v i wr => ∃ (k : Nat) (out : List Int), k ≤ n ∧ i = .int .i64 k ∧ out.length ≤ k ∧ Hid (M.nums ws = (M.nums (ws.drop k)).map (out ++ ·)) ∧ OwnInts .i64 3 wr w.heap.size v out ∧ OwnT wr w.heap.size (.slice A n c) ws ∧ w.grownBy wr none) (fun _ i _ => n - (intOf i).toNat)
  case atStart => exact ⟨0, [], Nat.zero_le _, rfl, Nat.le_refl _, Lib.hid (by simp), O1.out, DA.out.wide (by simp), G1.out⟩
  case round =>
    obtain ⟨k, out, hk, rfl, hol, HX, ho, hw, hg⟩ := hrel
    have HO := Lib.hid ho
    have HW := Lib.hid hw
    have G := Lib.hid hg
    clear ho hw hg O1 DA G1
    by_cases hlt : k < n
    · have hkl : k < ws.length := by rw [← HNN.out]; exact hlt
      obtain ⟨b, o, rfl, hb, hC⟩ := HW.out.sees.at_ hkl
      have HR := Lib.hid (readNumber_impl (HL.out.on G.out) ws[k] (HB.out _ (List.getElem_mem hkl)))
      have HXS := Lib.hid (fun m (hm : M.num ws[k] = some m) => M.nums_drop hkl HX.out hm)
      have HXN := Lib.hid (fun (hm : M.num ws[k] = none) => M.nums_fail hkl HX.out hm)
      obtain ⟨Av, cv, rfl, hcv, _⟩ := HO.out.rd
      generalize ws[k] = x at *
      have kn : (k : Int) < n := by omega
      have k0 : (0 : Int) ≤ k := by omega
      cases hm : M.num x with
      | none =>
        have HE := Lib.hid (HXN.out hm)
        have HQ := Lib.hid hm
        clear hm
        generalize tb x = X at *
        go_wp2_with fail
        refine HR.out.mono ?_
        rintro e w2 ⟨m, bb, rfl, hbb, hmv, hg⟩
        rw [HQ.out] at hbb
        replace hbb : bb = false := hbb
        subst hbb
        have G2 := Lib.hid (gb_trans G.out hg)
        clear hg hmv
        go_wp2_with fail
        go_ret2
        exact HN.out _ HE.out G2.out
      | some m =>
        have HE := Lib.hid (HXS.out m hm)
        have HQ := Lib.hid hm
        clear hm
        generalize tb x = X at *
        go_wp2_with fail
        refine HR.out.mono ?_
        rintro e w2 ⟨m', bb, rfl, hbb, hmv, hg⟩
        rw [HQ.out] at hbb
        replace hbb : bb = true := hbb
        subst hbb
        obtain rfl := hmv _ HQ.out
        have G2 := Lib.hid (gb_trans G.out hg)
        have hs2 := G2.out.size
        have O2 : Hid (w2.ownsRow w.heap.size 3 1 (.slice Av out.length cv) out.length (out.map (.int .i64))) := Lib.hid (HO.out.kept hg (own_ge HO.out (by simp)))
        have W2 := Lib.hid (HW.out.on hg)
        have HNE := Lib.hid (own_types_ne W2.out O2.out (by decide))
        clear hg hmv
        go_wp2_with (at_builtin; refine wpList_append_own _ rfl (.tmp 24) (.tmp 26) 34 rfl w.heap.size 3 i0 (.int .i64 0) 1 8 Tryz.underlying34 hi0 hz0 hz1 hz2 rfl (by decide) _ out.length (out.map (.int .i64)) rfl (O2.out.alloc _) ⟨w2.heap.size, 0, none⟩ 1 1 [.int .i64 m'] rfl rfl one_cell_new (one_cells rfl) (by unfold maxLen; omega) (by omega) (by simp; omega) ?_; intro v' w6 hown' hgrow _; have T1 := Lib.hid hown'; have T2 := Lib.hid hgrow; clear hown' hgrow)
        go_roundw
        case rel =>
          refine ⟨k + 1, out ++ [m'], by omega, by go_num, by simp; omega, HE, ?_, OwnT.grown (W2.out.on (World.grownBy_alloc _ _ none)) T2.out HNE.out, gb_new (gb_alloc G2.out (.cells #[.int .i64 m'] 3)) T2.out (fun b hb => .inl (O2.out.lt b hb).1)⟩
          unfold OwnInts
          rw [List.map_append, List.length_append]
          exact T1.out
        case measure => simp [intOf]; omega
    · obtain rfl : k = n := by omega
      have HE := Lib.hid (HV.out out (by rw [HX.out, List.drop_of_length_le (by rw [← HNN.out]; exact Nat.le_refl _)]; simp [M.nums]))
      obtain ⟨Av, cv, rfl, hcv, hrv⟩ := HO.out.rd
      have hol2 : out.length ≤ 1048576 := by omega
      have HI := Lib.hid (isVector_impl wr Av cv w.heap.size wr.heap.size out (by omega) hrv)
      have HS : Hid (SeesN .i64 wr Av out) := Lib.hid ⟨hrv.wide (Nat.zero_le _) (Nat.le_refl _), hol2⟩
      have HQ : Hid (∀ b w', b = M.isVec out → wr.grownBy w' none → VecGot w l (.returned (.tuple #[.slice Av out.length cv, .bool b])) w') := Lib.hid fun b w' hb hg => ⟨Av, cv, b, by rw [HE.out], by rw [HE.out]; exact hb, by rw [HE.out]; exact hcv, by rw [HE.out]; exact HS.out.on hg, gb_trans G.out hg⟩
      clear hrv HX HN
      generalize out.length = m at *
      go_wp2_with (go_at_call 50; refine HI.out.mono ?_; rintro e w' ⟨rfl, rfl⟩)
      go_ret2
      exact HQ.out _ _ rfl (gb_refl _ _)
end Go.Proofs.YtibbpbbgmgdpdaaGreatDoor

namespace Go.Proofs.YtibbpbbgmgdpdaaGreatDoor
open Go.RowKit
set_option linter.unusedVariables false
set_option linter.unusedSimpArgs false
set_option maxRecDepth 100000

theorem dig_small {m : Nat} (h : m < 10) : Lib.decDigits m = [UInt8.ofNat (48 + m)] := Lib.decDigits_one h
theorem dig_big {m : Nat} (h : ¬ m < 10) : Lib.decDigits m = Lib.decDigits (m / 10) ++ [UInt8.ofNat (48 + m % 10)] := by rw [Lib.decDigits, dif_neg h]
theorem one_byte_text (w : World) (x : Nat) (hx : x < 256) (g cap : Nat) (hc : w.cell? ⟨g, 0, none⟩ = some (.int .u8 (x : Int))) :
    (convert 22 9 (.slice (some ⟨g, 0, none⟩) 1 cap)).run Tryz.prog w = .ok (.string (tb [UInt8.ofNat x])) w := by
  refine run_convert_bytes_back _ 22 9 5 ⟨g, 0, none⟩ cap [UInt8.ofNat x] Tryz.underlying22 Tryz.underlying5 Tryz.underlying9 ?_
  intro j hj
  obtain rfl : j = 0 := by simpa using hj
  rw [show (⟨g, 0, none⟩ : Addr).add 0 = ⟨g, 0, none⟩ from by simp [Addr.add], hc]
  simp [Nat.mod_eq_of_lt hx]
/-- string([]byte{x}) in a region that draws its order -/
theorem step_text (w : World) {ops : Array Oper} {o : Oper} {a : Act} {K : Act → World → Prop} {Q : Exit → Act → World → Prop} {E : Prop} (hgd : o.guard = none) (x : Operand)
    (ho : o.op = .convert 22 9 x) (n : Nat) (hn : n < 256) (g cap : Nat) (hx : a.eval x = .slice (some ⟨g, 0, none⟩) 1 cap) (hc : w.cell? ⟨g, 0, none⟩ = some (.int .u8 (n : Int)))
    (h : K (a.put o.dst (.string (tb [UInt8.ofNat n]))) w) : if Region.wanted o (yielded ops a.tmps) = true then Oper.wp Tryz.prog o a w K Q else E := by
  have hw : Region.wanted o (yielded ops a.tmps) = true := by simp [Region.wanted, hgd]
  rw [if_pos hw]
  have hrun := one_byte_text w n hn g cap hc
  unfold Oper.wp execOp
  simp only [ho, Sem.run_bind, Sem.run_pure, hx, hrun, Result.andThen_ok]
  exact h
theorem decimal_nat : ∀ (m : Nat), m ≤ 1000000000 → ∀ w, Calls Tryz.prog 18 #[.int .i64 (m : Int)] w fun e w' => e = .returned (.string (tb (Lib.decDigits m))) ∧ w.grownBy w' none := by
  intro m
  induction m using Nat.strongRecOn with
  | _ m ih =>
    intro hm w
    by_cases h : m < 10
    · have HD := Lib.hid (dig_small h)
      have h0 : ¬ (m : Int) < 0 := by omega
      have h10 : (m : Int) < 10 := by omega
      have hc := one_byte_text (w.alloc (.cells #[.int .u8 (48 + (m : Int))] 5)) (48 + m) (by omega) w.heap.size 1 (by rw [cell_of_row _ _ _ #[.int .u8 (48 + (m : Int))] 5 (0, 0) (heap_alloc_new w _)]; simp)
      rw [← HD.out] at hc
      clear ih
      generalize tb (Lib.decDigits m) = Y at *
      go_enter Tryz.func18, Tryz.ntmps18
      go_wp2_with fail
      go_ret
      exact ⟨rfl, World.grownBy_alloc w _ none⟩
    · have HD := Lib.hid (dig_big h)
      have HI := Lib.hid (fun W => ih (m / 10) (by omega) (by omega) W)
      have h0 : ¬ (m : Int) < 0 := by omega
      have h10 : ¬ (m : Int) < 10 := by omega
      have hq : Int.tdiv (m : Int) 10 = ((m / 10 : Nat) : Int) := by rw [Int.tdiv_eq_ediv_of_nonneg (by omega)]; omega
      have hr : Int.tmod (m : Int) 10 = ((m % 10 : Nat) : Int) := by rw [Int.tmod_eq_emod_of_nonneg (by omega)]; omega
      have hadd := fun W => tb_add Tryz.prog W (Lib.decDigits (m / 10)) [UInt8.ofNat (48 + m % 10)] (by
        have := Lib.itoa_length_le ((m / 10 : Nat) : Int) (by omega) (by omega)
        rw [Lib.itoa_nonneg] at this
        simp only [List.length_cons, List.length_nil]
        omega)
      rw [← HD.out] at hadd
      have hd : m % 10 < 10 := Nat.mod_lt _ (by omega)
      have hq2 : m / 10 ≤ 1000000000 := by omega
      clear ih
      have hq3 : (m : Int) / 10 = ((m / 10 : Nat) : Int) := by omega
      have hr3 : (m : Int) % 10 = ((m % 10 : Nat) : Int) := by omega
      generalize m % 10 = r at *
      generalize m / 10 = q at *
      have HM : Hid (48 + m % 10 < 256) := Lib.hid (by omega)
      have wq : IntKind.i64.wrap (q : Int) = q := IntWalk.i64_in _ (by omega)
      have wr : IntKind.i64.wrap (48 + (r : Int)) = 48 + r := IntWalk.i64_in _ (by omega)
      have wu : IntKind.u8.wrap (48 + (r : Int)) = 48 + r := IntWalk.u8_in _ (by omega)
      have hz : ((48 + r : Nat) : Int) = 48 + (r : Int) := by omega
      have HZ := Lib.hid hz
      have hr9 : 48 + r < 256 := by omega
      clear hz
      generalize tb (Lib.decDigits m) = Y at *
      generalize Lib.decDigits q = D at *
      generalize tb D = X at *
      go_enter Tryz.func18, Tryz.ntmps18
      go_wp2_with fail
      have HC : Hid (∀ W V : World, (W.alloc (.cells #[.int .u8 (48 + (r : Int))] 5)).grownBy V none → V.cell? ⟨W.heap.size, 0, none⟩ = some (.int .u8 ((48 + r : Nat) : Int))) := Lib.hid fun W V hV => by
        rw [HZ.out]
        exact (World.grownBy.cell (a := ⟨W.heap.size, 0, none⟩) hV (v := .int .u8 (48 + (r : Int))) (by rw [cell_of_row _ _ _ #[.int .u8 (48 + (r : Int))] 5 (0, 0) (heap_alloc_new W _)]; simp) (by simp))
      have HF : Hid (∀ V, (w.alloc (.cells #[.int .u8 (48 + (r : Int))] 5)).grownBy V none → (convert 22 9 (.slice (some ⟨w.heap.size, 0, none⟩) 1 1)).run Tryz.prog V = .ok (.string (tb [UInt8.ofNat (48 + r)])) V) := Lib.hid fun V hV => one_byte_text V (48 + r) hr9 w.heap.size 1 (HC.out w _ hV)
      have hA := fun W : World => one_byte_text (W.alloc (.cells #[.int .u8 (48 + (r : Int))] 5)) (48 + r) hr9 W.heap.size 1 (HC.out W _ (gb_refl _ _))
      have hB := fun W : World => one_byte_text (W.alloc (.cells #[.int .u8 (48 + (r : Int))] 5)).drew (48 + r) hr9 W.heap.size 1 (HC.out W _ (gb_drew (gb_refl _ _)))
      generalize tb [UInt8.ofNat (48 + r)] = R at *
      go_region_law
        (first
          | (go_simp; go_at_call 18; refine Calls.mono (HI.out w.drew) ?_; rintro e w5 ⟨rfl, hg⟩; have G1 : Hid (w.grownBy w5 none) := Lib.hid (gb_trans (gb_drew (gb_refl w none)) hg); clear hg)
          | (go_simp; go_at_call 18; refine Calls.mono (HI.out (w.alloc (.cells #[.int .u8 (48 + (r : Int))] 5)).drew) ?_; rintro e w5 ⟨rfl, hg⟩; have G1 : Hid (w.grownBy w5 none) := Lib.hid (gb_trans (gb_drew (gb_alloc (gb_refl w none) _)) hg); have hF := HF.out w5 (gb_trans (gb_drew (gb_refl _ none)) hg); clear hg)
          | fail)
      all_goals
        go_wp2_with fail
        go_ret
        exact ⟨rfl, (by first | exact G1.out | exact gb_alloc G1.out _)⟩
theorem decimal_any (n : Int) (h : -1000000000 ≤ n ∧ n ≤ 1000000000) (w : World) : Calls Tryz.prog 18 #[.int .i64 n] w fun e w' => e = .returned (.string (tb (Lib.itoa n))) ∧ w.grownBy w' none := by
  by_cases h0 : n < 0
  · obtain ⟨m, hm⟩ : ∃ m : Nat, -n = m := ⟨(-n).toNat, by omega⟩
    have HI := Lib.hid (fun W => decimal_nat m (by omega) W)
    have hi : Lib.itoa n = 45 :: Lib.decDigits m := by
      rw [show n = -(m : Int) by omega, Lib.itoa_neg m (by omega)]
    have hadd := fun W => tb_add Tryz.prog W [45] (Lib.decDigits m) (by
        have := Lib.itoa_length_le (m : Int) (by omega) (by omega)
        rw [Lib.itoa_nonneg] at this
        simp only [List.length_cons, List.length_nil]
        omega)
    rw [show [45] ++ Lib.decDigits m = 45 :: Lib.decDigits m from rfl, ← hi] at hadd
    have h45 : tb [45] = (⟨#[45]⟩ : ByteArray) := rfl
    rw [h45] at hadd
    have hne : (n == (m : Int)) = false := beq_eq_false_iff_ne.2 (by omega)
    have hw : IntKind.i64.wrap (-n) = m := by rw [hm]; exact IntWalk.i64_in _ (by omega)
    clear hi h45
    generalize tb (Lib.itoa n) = Y at *
    generalize tb (Lib.decDigits m) = X at *
    go_enter Tryz.func18, Tryz.ntmps18
    go_wp2_with fail
    refine (HI.out _).mono ?_
    rintro e w5 ⟨rfl, hg⟩
    have G := Lib.hid hg
    clear hg
    go_wp2_with fail
    go_ret
    exact ⟨rfl, G.out⟩
  · obtain ⟨m, rfl⟩ : ∃ m : Nat, n = m := ⟨n.toNat, by omega⟩
    rw [Lib.itoa_nonneg]
    exact decimal_nat m (by omega) w

/-! cutting a text -/
theorem idx_any (l : List UInt8) (k : Nat) (hk : k < l.length) (w : World) : (Instr.index 9 (.string (tb l)) (.int .i64 (k : Int))).run Tryz.prog w = .ok (.int .u8 (l[k].toNat : Int)) w := by
  rw [run_index_string w 9 (tb l) .i64 _ Tryz.underlying9, dif_pos ⟨by omega, by rw [tb_size]; omega⟩]
  have e : ((k : Int)).toNat = k := by omega
  simp only [e]
  rw [Lib.getD_at (tb l) k (by rw [tb_size]; exact hk), tb_list, List.getD, List.getElem?_eq_getElem hk]
  rfl
/-- the words so far, and where the next one begins -/
structure CutAt (c : UInt8) (l : List UInt8) (ws : List (List UInt8)) (f k : Nat) : Prop where
  fk : f ≤ k
  len : ws.length ≤ k
  cut : M.cut c l = ws ++ M.cut c (l.drop f)
  free : c ∉ (l.take k).drop f
theorem CutAt.zero (c : UInt8) (l : List UInt8) : CutAt c l [] 0 0 := ⟨Nat.le_refl _, Nat.le_refl _, rfl, by simp⟩
theorem drop_split {l : List UInt8} {f k : Nat} (h : f ≤ k) (hk : k < l.length) : l.drop f = (l.take k).drop f ++ l[k] :: l.drop (k + 1) := by
  have e : l.drop f = ((l.take k) ++ l.drop k).drop f := by rw [List.take_append_drop]
  rw [e, List.drop_append, List.drop_eq_getElem_cons hk]
  rw [show f - (l.take k).length = 0 by rw [List.length_take]; omega, List.drop_zero]
theorem CutAt.hit {c : UInt8} {l : List UInt8} {ws : List (List UInt8)} {f k : Nat} (h : CutAt c l ws f k) (hk : k < l.length) (he : l[k] = c) : CutAt c l (ws ++ [(l.take k).drop f]) (k + 1) (k + 1) := by
  refine ⟨Nat.le_refl _, by have := h.len; simp; omega, ?_, by simp⟩
  have h1 : M.cut c (l.drop f) = (l.take k).drop f :: M.cut c (l.drop (k + 1)) := by
    rw [drop_split h.fk hk, he]
    exact M.cut_at h.free _
  rw [h.cut, h1]
  simp
theorem CutAt.miss {c : UInt8} {l : List UInt8} {ws : List (List UInt8)} {f k : Nat} (h : CutAt c l ws f k) (hk : k < l.length) (he : l[k] ≠ c) : CutAt c l ws f (k + 1) := by
  refine ⟨by have := h.fk; omega, by have := h.len; omega, h.cut, ?_⟩
  rw [List.take_succ_eq_append_getElem hk, List.drop_append]
  rw [show f - (l.take k).length = 0 by rw [List.length_take]; have := h.fk; omega, List.drop_zero, List.mem_append, List.mem_singleton]
  rintro (h1 | h1)
  · exact h.free h1
  · exact he h1.symm
theorem CutAt.done {c : UInt8} {l : List UInt8} {ws : List (List UInt8)} {f : Nat} (h : CutAt c l ws f l.length) : M.cut c l = ws ++ [l.drop f] := by
  have h1 := h.free
  rw [List.take_of_length_le (Nat.le_refl _)] at h1
  rw [h.cut, M.cut_none h1]
theorem textPush_own {w : World} {lo : Nat} {v : Value} {ws : List (List UInt8)} {y : List UInt8} {Y : ByteArray} (hY : Y = tb y) (h : w.ownsRow lo 9 1 v (ws.length + 1) ((ws.map fun l => Value.string (tb l)) ++ [.string Y])) : OwnT w lo v (ws ++ [y]) := by
  subst hY
  unfold OwnT
  rw [List.map_append, List.length_append]
  exact h
theorem one_str {s : ByteArray} : ∀ u ∈ [Value.string s], u.oneCell' = true := one_cells rfl
set_option maxHeartbeats 1000000 in
theorem splitAt_spec {w : World} (l : List UInt8) (c : UInt8) (hs : l.length ≤ 1048576) : Calls Tryz.prog 39 #[.string (tb l), .int .u8 (c.toNat : Int)] w (GotT w (M.cut c l)) := by
  obtain ⟨i0, hi0, hz0, hz1, hz2⟩ := info_parts info_string
  obtain ⟨n, hn⟩ : ∃ n, n = l.length := ⟨_, rfl⟩
  have hsz : (tb l).size = n := by rw [tb_size, hn]
  have HI := Lib.hid (fun k (hk : k < l.length) W => idx_any l k hk W)
  have HX := Lib.hid (fun a b => tb_extract l a b)
  have HN := Lib.hid hn
  rw [← hn] at hs
  clear hn
  obtain ⟨S, hS⟩ : ∃ S, S = tb l := ⟨_, rfl⟩
  rw [← hS] at hsz HI HX ⊢
  clear hS
  have O0 := Lib.hid (World.ownsRow_made (base := w.heap.size) (e := 9) (size := 1) w #[] 0 (Nat.le_refl _) (by decide) rfl)
  go_enter Tryz.func39, Tryz.ntmps39
  go_wp2_with fail
  go_loopw [5, 6, 7] (fun v fv iv wr => ∃ (k f : Nat) (ws : List (List UInt8)), k ≤ n ∧ fv = .int .i64 f ∧ iv = .int .i64 k ∧ Hid (CutAt c l ws f k) ∧ f ≤ k ∧ ws.length ≤ k ∧ OwnT wr w.heap.size v ws ∧ w.grownBy wr none) (fun _ _ i _ => n - (intOf i).toNat)
  case atStart => exact ⟨0, 0, [], Nat.zero_le _, rfl, rfl, Lib.hid (CutAt.zero c l), Nat.le_refl _, Nat.le_refl _, O0.out, gb_alloc (gb_refl _ _) _⟩
  case round =>
    obtain ⟨k, f, ws, hk, rfl, rfl, HC, hfk, hwk, ho, hg⟩ := hrel
    have HO := Lib.hid ho
    have G := Lib.hid hg
    have hsw := hg.size
    obtain ⟨Av, cv, rfl, hcv⟩ := ho.form
    clear ho hg O0
    have kf : (f : Int) ≤ k := by omega
    have f0 : (0 : Int) ≤ f := by omega
    have k0 : (0 : Int) ≤ k := by omega
    by_cases hlt : k < n
    · have hkl : k < l.length := by rw [← HN.out]; exact hlt
      have hix := HI.out k hkl
      have hex := HX.out f k
      have kn : (k : Int) < n := by omega
      by_cases he : l[k] = c
      · have HE := Lib.hid (HC.out.hit hkl he)
        have tk : ((l[k].toNat : Int) == (c.toNat : Int)) = true := by rw [he]; simp
        clear he
        generalize l[k].toNat = x at *
        generalize (l.take k).drop f = y at *
        obtain ⟨Y, hY⟩ : ∃ Y, Y = tb y := ⟨_, rfl⟩
        try rw [← hY] at hex
        have HY := Lib.hid hY
        clear hY
        go_wp2_with (at_builtin; refine wpList_append_own _ rfl (.tmp 20) (.tmp 25) 23 rfl w.heap.size 9 i0 (.string ByteArray.empty) 1 16 Tryz.underlying23 hi0 hz0 hz1 hz2 rfl (by decide) _ ws.length (ws.map fun l => .string (tb l)) rfl (World.ownsRow.alloc HO.out _) ⟨wr.heap.size, 0, none⟩ 1 1 [.string Y] rfl rfl one_cell_new one_str (by unfold maxLen; omega) (by omega) (by simp; omega) ?_; intro v' w6 hown' hgrow _; have T1 := Lib.hid hown'; have T2 := Lib.hid hgrow; clear hown' hgrow)
        go_roundw
        case rel => exact ⟨k + 1, k + 1, ws ++ [y], by omega, by go_num, by go_num, HE, Nat.le_refl _, by simp; omega, textPush_own HY.out T1.out, gb_new (gb_alloc G.out _) T2.out (fun b hb => .inl (HO.out.lt b hb).1)⟩
        case measure => simp [intOf]; omega
      · have HE := Lib.hid (HC.out.miss hkl he)
        have tk : ((l[k].toNat : Int) == (c.toNat : Int)) = false := beq_eq_false_iff_ne.2 (fun e => he (UInt8.toNat_inj.1 (by omega)))
        clear he hex
        generalize l[k].toNat = x at *
        go_wp2_with fail
        go_roundw
        case rel => exact ⟨k + 1, f, ws, by omega, rfl, by go_num, HE, by omega, by omega, HO.out, G.out⟩
        case measure => simp [intOf]; omega
    · obtain rfl : k = n := by omega
      have hex := HX.out f k
      have HE : Hid (M.cut c l = ws ++ [l.drop f]) := Lib.hid (by have h := HC.out; rw [HN.out] at h; exact h.done)
      rw [HN.out, List.take_of_length_le (Nat.le_refl _), ← HN.out] at hex
      generalize l.drop f = y at *
      obtain ⟨Y, hY⟩ : ∃ Y, Y = tb y := ⟨_, rfl⟩
      try rw [← hY] at hex
      have HY := Lib.hid hY
      clear hY
      go_wp2_with (at_builtin; refine wpList_append_own _ rfl (.tmp 29) (.tmp 33) 23 rfl w.heap.size 9 i0 (.string ByteArray.empty) 1 16 Tryz.underlying23 hi0 hz0 hz1 hz2 rfl (by decide) _ ws.length (ws.map fun l => .string (tb l)) rfl (World.ownsRow.alloc HO.out _) ⟨wr.heap.size, 0, none⟩ 1 1 [.string Y] rfl rfl one_cell_new one_str (by unfold maxLen; omega) (by omega) (by simp; omega) ?_; intro v' w6 hown' hgrow _; have T1 := Lib.hid hown'; have T2 := Lib.hid hgrow; clear hown' hgrow)
      go_ret
      rw [HE.out]
      exact OwnT.got (textPush_own HY.out T1.out) (gb_new (gb_alloc G.out _) T2.out (fun b hb => .inl (HO.out.lt b hb).1))
end Go.Proofs.YtibbpbbgmgdpdaaGreatDoor

namespace Go.Proofs.YtibbpbbgmgdpdaaGreatDoor
open Go.RowKit
set_option linter.unusedVariables false
set_option linter.unusedSimpArgs false
set_option maxRecDepth 100000

/-- the digits so far -/
def ScanAt (l : List UInt8) (k m : Nat) : Prop := (k = 0 ∧ m = 0) ∨ (1 ≤ k ∧ M.scan l = Lib.decFrom m (l.drop k))
theorem ScanAt.digit {l : List UInt8} {k m : Nat} (h : ScanAt l k m) (hk : k < l.length) {x : UInt8} (hx : l[k] = x) (h1 : 48 ≤ x.toNat) (h2 : x.toNat ≤ 57) : ScanAt l (k + 1) (10 * m + (x.toNat - 48)) := by
  refine .inr ⟨by omega, ?_⟩
  have hd : ∀ a, Lib.decFrom a (l.drop k) = Lib.decFrom (a * 10 + (x.toNat - 48)) (l.drop (k + 1)) := fun a => by
    rw [List.drop_eq_getElem_cons hk, hx, Lib.decFrom]
    simp [Lib.digitVal, h1, h2]
  rcases h with ⟨rfl, rfl⟩ | ⟨h3, h4⟩
  · have h5 := hd 0
    rw [List.drop_zero] at h5
    unfold M.scan
    rw [if_neg, h5]
    intro e
    rw [List.head?_eq_getElem?, List.getElem?_eq_getElem hk, hx] at e
    injection e with e
    subst e
    revert h1
    decide
  · rw [h4, hd m, Nat.mul_comm 10 m]
theorem ScanAt.minus {l : List UInt8} (hk : 0 < l.length) (hx : l[0] = 45) : ScanAt l 1 0 := by
  refine .inr ⟨Nat.le_refl _, ?_⟩
  unfold M.scan
  rw [if_pos]
  rw [List.head?_eq_getElem?, List.getElem?_eq_getElem hk, hx]
theorem ScanAt.bad {l : List UInt8} {k m : Nat} (h : ScanAt l k m) (hk : k < l.length) {x : UInt8} (hx : l[k] = x) (h1 : ¬ (48 ≤ x.toNat ∧ x.toNat ≤ 57)) (h2 : 0 < k ∨ x ≠ 45) : M.scan l = none := by
  have hd : ∀ a, Lib.decFrom a (l.drop k) = none := fun a => by
    rw [List.drop_eq_getElem_cons hk, hx, Lib.decFrom]
    simp only [Lib.digitVal, h1, if_false]
  rcases h with ⟨rfl, rfl⟩ | ⟨h3, h4⟩
  · have h5 := hd 0
    rw [List.drop_zero] at h5
    unfold M.scan
    rw [if_neg, h5]
    intro e
    rw [List.head?_eq_getElem?, List.getElem?_eq_getElem hk, hx] at e
    injection e with e
    rcases h2 with h2 | h2
    · omega
    · exact h2 e
  · rw [h4, hd m]
theorem num_empty {l : List UInt8} (h : l.length = 0) : M.num l = none := by rw [← M.pnum_num]; unfold M.pnum; rw [if_pos (.inl h)]
theorem num_scan_none {l : List UInt8} (h : M.scan l = none) : M.num l = none := by
  rw [← M.pnum_num]; unfold M.pnum
  split
  · rfl
  · rw [h]
theorem num_scan {l : List UInt8} {m : Nat} (h0 : l.length ≠ 0) (h4 : l.length ≤ 4) (h : M.scan l = some m) : M.num l = if Lib.itoa (M.signed l m) = l then some (M.signed l m) else none := by
  rw [← M.pnum_num]; unfold M.pnum
  rw [if_neg (by omega), h]
theorem ScanAt.done {l : List UInt8} {m : Nat} (h : ScanAt l l.length m) (h0 : l.length ≠ 0) : M.scan l = some m := by
  rcases h with ⟨h1, _⟩ | ⟨_, h2⟩
  · exact absurd h1 h0
  · rw [h2, List.drop_of_length_le (Nat.le_refl _)]; rfl
theorem signed_neg {l : List UInt8} {m : Nat} (hk : 0 < l.length) (h : l[0] = 45) : M.signed l m = -(m : Int) := by
  unfold M.signed; rw [if_pos]; rw [List.head?_eq_getElem?, List.getElem?_eq_getElem hk, h]
theorem signed_pos {l : List UInt8} {m : Nat} (hk : 0 < l.length) (h : l[0] ≠ 45) : M.signed l m = m := by
  unfold M.signed; rw [if_neg]
  rw [List.head?_eq_getElem?, List.getElem?_eq_getElem hk]
  intro e
  injection e with e
  exact h e
set_option maxHeartbeats 1000000 in
theorem parseInt_spec {w : World} (l : List UInt8) (hs : l.length ≤ 1048576) : Calls Tryz.prog 62 #[.string (tb l)] w (NumGot w l) := by
  obtain ⟨n, hn⟩ : ∃ n, n = l.length := ⟨_, rfl⟩
  have hsz : (tb l).size = n := by rw [tb_size, hn]
  have HI := Lib.hid (fun k (hk : k < l.length) W => idx_any l k hk W)
  have HN := Lib.hid hn
  rw [← hn] at hs
  obtain ⟨S, hS⟩ : ∃ S, S = tb l := ⟨_, rfl⟩
  rw [← hS] at hsz HI ⊢
  have HS := Lib.hid hS
  clear hS
  by_cases h4 : n ≤ 4
  · have h4' : (n : Int) ≤ 4 := by omega
    clear hn
    go_enter Tryz.func62, Tryz.ntmps62
    go_wp2_with fail
    go_loopw [4, 5] (fun v iv wr => ∃ (k m : Nat), k ≤ n ∧ v = .int .i64 m ∧ iv = .int .i64 k ∧ Hid (ScanAt l k m) ∧ m < 10 ^ k ∧ w.grownBy wr none) (fun _ i _ => n - (intOf i).toNat)
    case atStart => exact ⟨0, 0, Nat.zero_le _, rfl, rfl, Lib.hid (.inl ⟨rfl, rfl⟩), by decide, gb_refl _ _⟩
    case round =>
      obtain ⟨k, m, hk, rfl, rfl, HC, hm, hg⟩ := hrel
      have G := Lib.hid hg
      have hm4 : m < 10000 := Nat.lt_of_lt_of_le hm (Nat.le_trans (Nat.pow_le_pow_right (by decide) (show k ≤ 4 by omega)) (by decide))
      have HM := Lib.hid hm
      clear hg hm
      have k0 : (0 : Int) ≤ k := by omega
      by_cases hlt : k < n
      · have hkl : k < l.length := by rw [← HN.out]; exact hlt
        have hix := HI.out k hkl
        have kn : (k : Int) < n := by omega
        have HR := Lib.hid (fun W => inRange_any (l[k].toNat : Int) 48 57 W)
        have HX := Lib.hid (show l[k] = l[k] from rfl)
        have hxb := l[k].toNat_lt
        by_cases hd : 48 ≤ l[k].toNat ∧ l[k].toNat ≤ 57
        · rw [M.inR_of (by omega) (by omega)] at HR
          have HE := Lib.hid (HC.out.digit hkl rfl hd.1 hd.2)
          have HP : Hid (10 * m + (l[k].toNat - 48) < 10 ^ (k + 1)) := Lib.hid (by have := HM.out; rw [Nat.pow_succ]; omega)
          obtain ⟨hd1, hd2⟩ := hd
          have HY := Lib.hid (show ((10 * m + (l[k].toNat - 48) : Nat) : Int) = 10 * (m : Int) + l[k].toNat - 48 by omega)
          generalize l[k].toNat = x at *
          go_wp2_with (go_at_call 65; refine (HR.out _).mono ?_; rintro e w' ⟨rfl, rfl⟩)
          go_roundw
          case rel => exact ⟨k + 1, 10 * m + (x - 48), by omega, by rw [HY.out], by go_num, HE, HP.out, G.out⟩
          case measure => simp [intOf]; omega
        · have hnr : M.inR (l[k].toNat : Int) 48 57 = false := M.inR_not (by omega)
          rw [hnr] at HR
          clear hnr
          by_cases hk0 : 0 < k
          · have HNUM := num_scan_none (HC.out.bad hkl rfl hd (.inl hk0))
            have tk0 : (0 : Int) < k := by omega
            clear hd
            generalize l[k].toNat = x at *
            go_wp2_with (go_at_call 65; refine (HR.out _).mono ?_; rintro e w' ⟨rfl, rfl⟩)
            go_ret2
            exact NumGot.none_ HNUM G.out
          · have hz : decide ((0 : Int) < (k : Int)) = false := decide_eq_false (by omega)
            have hz' : decide (0 < k) = false := decide_eq_false (by omega)
            have HZ : Hid (k = 0) := Lib.hid (by omega)
            clear hk0
            by_cases h45 : l[k] = 45
            · have HE : Hid (ScanAt l (k + 1) m) := Lib.hid (by
                have h0 := HZ.out
                subst h0
                have h1 : m = 0 := by have := HM.out; simp at this; omega
                subst h1
                exact ScanAt.minus (by omega) h45)
              have HP : Hid (m < 10 ^ (k + 1)) := Lib.hid (by have := HM.out; rw [Nat.pow_succ]; omega)
              have t45 : ((l[k].toNat : Int) != 45) = false := by rw [h45]; rfl
              clear hd h45
              generalize l[k].toNat = x at *
              go_wp2_with (go_at_call 65; refine (HR.out _).mono ?_; rintro e w' ⟨rfl, rfl⟩)
              go_roundw
              case rel => exact ⟨k + 1, m, by omega, rfl, by go_num, HE, HP.out, G.out⟩
              case measure => simp [intOf]; omega
            · have HNUM := num_scan_none (HC.out.bad hkl rfl hd (.inr h45))
              have t45 : ((l[k].toNat : Int) != 45) = true := by
                rw [bne_iff_ne]
                intro e
                exact h45 (UInt8.toNat_inj.1 (by show l[k].toNat = 45; omega))
              clear hd h45
              generalize l[k].toNat = x at *
              go_wp2_with (go_at_call 65; refine (HR.out _).mono ?_; rintro e w' ⟨rfl, rfl⟩)
              go_ret2
              exact NumGot.none_ HNUM G.out
      · obtain rfl : k = n := by omega
        by_cases hk0 : 0 < k
        · have hkl : 0 < l.length := by rw [← HN.out]; exact hk0
          have HSC := Lib.hid ((show ScanAt l l.length m by have h := HC.out; rwa [HN.out] at h).done (by omega))
          have hi0 := HI.out 0 hkl
          have e00 : (((0 : Nat) : Int)) = 0 := rfl
          rw [e00] at hi0
          have hlen0 : (0 : Int) < k := by omega
          have hl4 : ¬ (4 : Int) < k := by omega
          have hn0 : ((k : Int) == 0) = false := beq_eq_false_iff_ne.2 (by omega)
          have hkk : ¬ (k : Int) < k := by omega
          clear hlt
          by_cases h45 : l[0] = 45
          · have HNUM := num_scan (by omega) (by rw [← HN.out]; exact h4) HSC.out
            rw [signed_neg hkl h45] at HNUM
            have t45 : ((l[0].toNat : Int) == 45) = true := by rw [h45]; rfl
            have wn : IntKind.i64.wrap (-(m : Int)) = -(m : Int) := IntWalk.i64_in _ (by omega)
            clear h45
            generalize l[0].toNat = x at *
            by_cases hs : Lib.itoa (-(m : Int)) = l
            · rw [if_pos hs] at HNUM
              have HD := Lib.hid (fun W => decimal_any (-(m : Int)) (by omega) W)
              rw [hs, ← HS.out] at HD
              clear hs
              go_wp2_with fail
              refine (HD.out _).mono ?_
              rintro e w2 ⟨rfl, hg⟩
              have G2 := Lib.hid (gb_trans G.out hg)
              clear hg
              go_wp2_with fail
              go_ret2
              exact NumGot.some_ HNUM G2.out
            · rw [if_neg hs] at HNUM
              have HD := Lib.hid (fun W => decimal_any (-(m : Int)) (by omega) W)
              have t9 : ((tb (Lib.itoa (-(m : Int)))).toList == S.toList) = false := by rw [HS.out, tb_toList, tb_toList]; exact beq_eq_false_iff_ne.2 hs
              clear hs
              generalize tb (Lib.itoa (-(m : Int))) = Z at *
              go_wp2_with fail
              refine (HD.out _).mono ?_
              rintro e w2 ⟨rfl, hg⟩
              have G2 := Lib.hid (gb_trans G.out hg)
              clear hg
              go_wp2_with fail
              go_ret2
              exact NumGot.none_ HNUM G2.out
          · have HNUM := num_scan (by omega) (by rw [← HN.out]; exact h4) HSC.out
            rw [signed_pos hkl h45] at HNUM
            have t45 : ((l[0].toNat : Int) == 45) = false := by
              refine beq_eq_false_iff_ne.2 fun e => h45 (UInt8.toNat_inj.1 (by show l[0].toNat = 45; omega))
            clear h45
            generalize l[0].toNat = x at *
            by_cases hs : Lib.itoa ((m : Int)) = l
            · rw [if_pos hs] at HNUM
              have HD := Lib.hid (fun W => decimal_any ((m : Int)) (by omega) W)
              rw [hs, ← HS.out] at HD
              clear hs
              go_wp2_with fail
              refine (HD.out _).mono ?_
              rintro e w2 ⟨rfl, hg⟩
              have G2 := Lib.hid (gb_trans G.out hg)
              clear hg
              go_wp2_with fail
              go_ret2
              exact NumGot.some_ HNUM G2.out
            · rw [if_neg hs] at HNUM
              have HD := Lib.hid (fun W => decimal_any ((m : Int)) (by omega) W)
              have t9 : ((tb (Lib.itoa ((m : Int)))).toList == S.toList) = false := by rw [HS.out, tb_toList, tb_toList]; exact beq_eq_false_iff_ne.2 hs
              clear hs
              generalize tb (Lib.itoa ((m : Int))) = Z at *
              go_wp2_with fail
              refine (HD.out _).mono ?_
              rintro e w2 ⟨rfl, hg⟩
              have G2 := Lib.hid (gb_trans G.out hg)
              clear hg
              go_wp2_with fail
              go_ret2
              exact NumGot.none_ HNUM G2.out
        · obtain rfl : k = 0 := by omega
          have HNUM := num_empty (l := l) HN.out.symm
          go_wp2_with fail
          go_ret2
          exact NumGot.none_ HNUM G.out
  · have HNUM := num_long (l := l) (by omega)
    have h4' : ¬ (n : Int) ≤ 4 := by omega
    have h5 : (4 : Int) < n := by omega
    have h6 : (0 : Int) < n := by omega
    have hkl : 0 < l.length := by omega
    have hi0 := HI.out 0 hkl
    have e00 : (((0 : Nat) : Int)) = 0 := rfl
    rw [e00] at hi0
    have hn0 : ((n : Int) == 0) = false := beq_eq_false_iff_ne.2 (by omega)
    clear hn
    by_cases h45 : l[0] = 45
    · have t45 : ((l[0].toNat : Int) == 45) = true := by rw [h45]; rfl
      clear h45
      generalize l[0].toNat = x at *
      go_enter Tryz.func62, Tryz.ntmps62
      go_wp2_with fail
      go_loopw [4, 5] (fun v iv wr => v = .int .i64 0 ∧ iv = .int .i64 0 ∧ wr = w) (fun _ i _ => 1)
      case atStart => exact ⟨rfl, rfl, rfl⟩
      case round =>
        obtain ⟨rfl, rfl, rfl⟩ := hrel
        go_wp2_with fail
        go_ret2
        exact NumGot.none_ HNUM (gb_refl _ _)
    · have t45 : ((l[0].toNat : Int) == 45) = false := by
        refine beq_eq_false_iff_ne.2 fun e => h45 (UInt8.toNat_inj.1 (by show l[0].toNat = 45; omega))
      clear h45
      generalize l[0].toNat = x at *
      go_enter Tryz.func62, Tryz.ntmps62
      go_wp2_with fail
      go_loopw [4, 5] (fun v iv wr => v = .int .i64 0 ∧ iv = .int .i64 0 ∧ wr = w) (fun _ i _ => 1)
      case atStart => exact ⟨rfl, rfl, rfl⟩
      case round =>
        obtain ⟨rfl, rfl, rfl⟩ := hrel
        go_wp2_with fail
        go_ret2
        exact NumGot.none_ HNUM (gb_refl _ _)
theorem numberOf_spec {w : World} (l : List UInt8) (hs : l.length ≤ 1048576) : Calls Tryz.prog 41 #[.string (tb l)] w fun e w' => e = .returned (.int .i64 (M.numOr l)) ∧ w.grownBy w' none := by
  have HR := Lib.hid (parseInt_spec (w := w) l hs)
  have HO : M.numOr l = (M.num l).getD (-1) := rfl
  obtain ⟨r, hr⟩ : ∃ r, M.numOr l = r := ⟨_, rfl⟩
  rw [hr] at HO ⊢
  cases hn : M.num l with
  | none =>
    have HN := Lib.hid hn
    rw [hn] at HO
    have hr' : r = -1 := HO
    subst hr'
    clear hn HO hr
    generalize tb l = S at *
    go_enter Tryz.func41, Tryz.ntmps41
    go_wp2_with fail
    refine HR.out.mono ?_
    rintro e w1 ⟨n, b, rfl, hb, hv, hg⟩
    rw [HN.out] at hb
    replace hb : b = false := hb
    subst hb
    have G := Lib.hid hg
    clear hg hv
    go_wp2_with fail
    go_ret
    exact ⟨rfl, G.out⟩
  | some v =>
    have HN := Lib.hid hn
    rw [hn] at HO
    have hr' : r = v := HO
    subst hr'
    clear hn HO hr
    generalize tb l = S at *
    go_enter Tryz.func41, Tryz.ntmps41
    go_wp2_with fail
    refine HR.out.mono ?_
    rintro e w1 ⟨n, b, rfl, hb, hv, hg⟩
    rw [HN.out] at hb
    replace hb : b = true := hb
    subst hb
    obtain rfl := hv _ HN.out
    have G := Lib.hid hg
    clear hg hv
    go_wp2_with fail
    go_ret
    exact ⟨rfl, G.out⟩


/-- a vector is handed back -/
def VecMade (w : World) (l : List UInt8) (e : Ending) (w' : World) : Prop := ∃ A c, e = .returned (.slice A (M.vec l).length c) ∧ (M.vec l).length ≤ c ∧ SeesN .i64 w' A (M.vec l) ∧ w.grownBy w' none
theorem VecMade.none_ {w w' : World} {l : List UInt8} (h : M.nums (M.cut 44 l) = none) (hg : w.grownBy w' none) : VecMade w l (.returned (.slice none 0 0)) w' := by
  have e : M.vec l = [] := by unfold M.vec; rw [h]; rfl
  refine ⟨none, 0, by rw [e]; rfl, by rw [e]; exact Nat.le_refl _, ?_, hg⟩
  rw [e]
  exact ⟨Rd.nil_ _ _ _ _, by simp⟩
set_option maxHeartbeats 1000000 in
theorem vectorOf_spec {w : World} (l : List UInt8) (hs : l.length ≤ 1048575) : Calls Tryz.prog 42 #[.string (tb l)] w (VecMade w l) := by
  obtain ⟨i0, hi0, hz0, hz1, hz2⟩ := info_parts info_int'
  have HW := Lib.hid (splitAt_spec (w := w.alloc (.cells #[] 3)) l 44 (by omega))
  have hwl := M.cut_len 44 l
  have HM := Lib.hid (fun x (hx : x ∈ M.cut 44 l) => M.cut_mem hx)
  have HV : Hid (∀ out, M.nums (M.cut 44 l) = some out → M.vec l = out) := Lib.hid fun out h => by unfold M.vec; rw [h]; rfl
  have HN : Hid (∀ w', M.nums (M.cut 44 l) = none → w.grownBy w' none → VecMade w l (.returned (.slice none 0 0)) w') := Lib.hid fun w' h hg => VecMade.none_ h hg
  generalize M.cut 44 l = ws at *
  obtain ⟨n, hn⟩ : ∃ n, n = ws.length := ⟨_, rfl⟩
  rw [← hn] at hwl
  have HNN := Lib.hid hn
  have HB : Hid (∀ x ∈ ws, x.length ≤ 1048576) := Lib.hid fun x hx => by have := HM.out x hx; have : 1 ≤ ws.length := List.length_pos_of_mem hx; omega
  clear hn HM
  obtain ⟨S, hS⟩ : ∃ S, S = tb l := ⟨_, rfl⟩
  rw [← hS] at HW ⊢
  clear hS
  go_enter Tryz.func42, Tryz.ntmps42
  go_wp2_with fail
  refine HW.out.mono ?_
  rintro e w1 ⟨A, c, rfl, hc, ha, hg⟩
  rw [← HNN.out] at hc ha ⊢
  have DA := Lib.hid ha
  have G1 := Lib.hid (gb_trans (World.grownBy_alloc w (.cells #[] 3) none) hg)
  have O1 : Hid (OwnInts .i64 3 w1 w.heap.size (.slice (some ⟨w.heap.size, 0, none⟩) 0 0) []) := Lib.hid (OwnInts.grown (World.ownsRow_made (base := w.heap.size) (e := 3) (size := 1) w #[] 0 (Nat.le_refl _) (by decide) rfl) hg (by simp))
  clear ha hg HW
  go_wp2_with fail
  go_loopw [3, 5] (fun v i wr => ∃ (k : Nat) (out : List Int), k ≤ n ∧ i = .int .i64 k ∧ out.length ≤ k ∧ Hid (M.nums ws = (M.nums (ws.drop k)).map (out ++ ·)) ∧ OwnInts .i64 3 wr w.heap.size v out ∧ OwnT wr w.heap.size (.slice A n c) ws ∧ w.grownBy wr none) (fun _ i _ => n - (intOf i).toNat)
  case atStart => exact ⟨0, [], Nat.zero_le _, rfl, Nat.le_refl _, Lib.hid (by simp), O1.out, DA.out.wide (by simp), G1.out⟩
  case round =>
    obtain ⟨k, out, hk, rfl, hol, HX, ho, hw, hg⟩ := hrel
    have HO := Lib.hid ho
    have HW := Lib.hid hw
    have G := Lib.hid hg
    clear ho hw hg O1 DA G1
    by_cases hlt : k < n
    · have hkl : k < ws.length := by rw [← HNN.out]; exact hlt
      obtain ⟨b, o, rfl, hb, hC⟩ := HW.out.sees.at_ hkl
      have HR := Lib.hid (parseInt_spec (w := wr) ws[k] (HB.out _ (List.getElem_mem hkl)))
      have HXS := Lib.hid (fun m (hm : M.num ws[k] = some m) => M.nums_drop hkl HX.out hm)
      have HXN := Lib.hid (fun (hm : M.num ws[k] = none) => M.nums_fail hkl HX.out hm)
      obtain ⟨Av, cv, rfl, hcv, _⟩ := HO.out.rd
      generalize ws[k] = x at *
      have kn : (k : Int) < n := by omega
      have k0 : (0 : Int) ≤ k := by omega
      cases hm : M.num x with
      | none =>
        have HE := Lib.hid (HXN.out hm)
        have HQ := Lib.hid hm
        clear hm
        generalize tb x = X at *
        go_wp2_with fail
        refine HR.out.mono ?_
        rintro e w2 ⟨m, bb, rfl, hbb, hmv, hg⟩
        rw [HQ.out] at hbb
        replace hbb : bb = false := hbb
        subst hbb
        have G2 := Lib.hid (gb_trans G.out hg)
        clear hg hmv
        go_wp2_with fail
        go_ret
        exact HN.out _ HE.out G2.out
      | some m =>
        have HE := Lib.hid (HXS.out m hm)
        have HQ := Lib.hid hm
        clear hm
        generalize tb x = X at *
        go_wp2_with fail
        refine HR.out.mono ?_
        rintro e w2 ⟨m', bb, rfl, hbb, hmv, hg⟩
        rw [HQ.out] at hbb
        replace hbb : bb = true := hbb
        subst hbb
        obtain rfl := hmv _ HQ.out
        have G2 := Lib.hid (gb_trans G.out hg)
        have hs2 := G2.out.size
        have O2 : Hid (w2.ownsRow w.heap.size 3 1 (.slice Av out.length cv) out.length (out.map (.int .i64))) := Lib.hid (HO.out.kept hg (own_ge HO.out (by simp)))
        have W2 := Lib.hid (HW.out.on hg)
        have HNE := Lib.hid (own_types_ne W2.out O2.out (by decide))
        clear hg hmv
        go_wp2_with (at_builtin; refine wpList_append_own _ rfl (.tmp 27) (.tmp 29) 34 rfl w.heap.size 3 i0 (.int .i64 0) 1 8 Tryz.underlying34 hi0 hz0 hz1 hz2 rfl (by decide) _ out.length (out.map (.int .i64)) rfl (O2.out.alloc _) ⟨w2.heap.size, 0, none⟩ 1 1 [.int .i64 m'] rfl rfl one_cell_new (one_cells rfl) (by unfold maxLen; omega) (by omega) (by simp; omega) ?_; intro v' w6 hown' hgrow _; have T1 := Lib.hid hown'; have T2 := Lib.hid hgrow; clear hown' hgrow)
        go_roundw
        case rel =>
          refine ⟨k + 1, out ++ [m'], by omega, by go_num, by simp; omega, HE, ?_, OwnT.grown (W2.out.on (World.grownBy_alloc _ _ none)) T2.out HNE.out, gb_new (gb_alloc G2.out (.cells #[.int .i64 m'] 3)) T2.out (fun b hb => .inl (O2.out.lt b hb).1)⟩
          unfold OwnInts
          rw [List.map_append, List.length_append]
          exact T1.out
        case measure => simp [intOf]; omega
    · obtain rfl : k = n := by omega
      have HE := Lib.hid (HV.out out (by rw [HX.out, List.drop_of_length_le (by rw [← HNN.out]; exact Nat.le_refl _)]; simp [M.nums]))
      obtain ⟨Av, cv, rfl, hcv, hrv⟩ := HO.out.rd
      have hol2 : out.length ≤ 1048576 := by omega
      have HS : Hid (SeesN .i64 wr Av out) := Lib.hid ⟨hrv.wide (Nat.zero_le _) (Nat.le_refl _), hol2⟩
      have HQ : Hid (VecMade w l (.returned (.slice Av out.length cv)) wr) := Lib.hid ⟨Av, cv, by rw [HE.out], by rw [HE.out]; exact hcv, by rw [HE.out]; exact HS.out, G.out⟩
      clear hrv HX HN
      generalize out.length = m at *
      go_wp2_with fail
      go_ret
      exact HQ.out
end Go.Proofs.YtibbpbbgmgdpdaaGreatDoor

namespace Go.Proofs.YtibbpbbgmgdpdaaGreatDoor
open Go.RowKit
set_option linter.unusedVariables false
set_option linter.unusedSimpArgs false
set_option maxRecDepth 100000

theorem hitsT_zero (l : List M.Hit) : M.hitsT (l.take 0) = [] := rfl
theorem hitsT_one {l : List M.Hit} (hk : 0 < l.length) : M.hitsT (l.take 1) = M.hitT l[0] := by
  cases l with
  | nil => simp at hk
  | cons x r => show Lib.join [M.hitT x] [32] = _; exact Lib.join_one _ _
theorem hitsT_succ {l : List M.Hit} {k : Nat} (h0 : 0 < k) (hk : k < l.length) : M.hitsT (l.take (k + 1)) = M.hitsT (l.take k) ++ [32] ++ M.hitT l[k] := by
  cases l with
  | nil => simp at hk
  | cons x r =>
    obtain ⟨j, rfl⟩ : ∃ j, k = j + 1 := ⟨k - 1, by omega⟩
    have hj : j < r.length := by simpa using hk
    unfold M.hitsT
    rw [List.take_succ_cons, List.take_succ_cons, List.map_cons, List.map_cons, Lib.join_cons, Lib.join_cons, List.map_take, List.map_take, Lib.joinTail_take_succ [32] (r.map M.hitT) j (M.hitT r[j]) (by simp [hj])]
    simp
theorem hitsT_take_le {l : List M.Hit} (h : ∀ x ∈ l, M.okHit x) (hl : l.length ≤ 16) (k : Nat) : (M.hitsT (l.take k)).length ≤ 704 :=
  M.hitsT_le (fun x hx => h x (List.mem_of_mem_take hx)) (by rw [List.length_take]; omega)
set_option maxHeartbeats 600000 in
theorem hitsText_spec {w : World} {A : Option Addr} {c : Nat} {l : List M.Hit} (D : SeesX w A l) (hok : ∀ x ∈ l, M.okHit x) (hl : l.length ≤ 16) :
    Calls Tryz.prog 66 #[.slice A l.length c] w fun e w' => e = .returned (.string (tb (M.hitsT l))) ∧ w.grownBy w' none := by
  obtain ⟨n, hn⟩ : ∃ n, n = l.length := ⟨_, rfl⟩
  rw [← hn] at hl ⊢
  have HN := Lib.hid hn
  have HD := Lib.hid D
  have HO := Lib.hid hok
  have HLE := Lib.hid (fun k => hitsT_take_le hok (by omega : l.length ≤ 16) k)
  have HALL : Hid (M.hitsT (l.take n) = M.hitsT l) := Lib.hid (by rw [hn, List.take_of_length_le (Nat.le_refl _)])
  have h00 : tb [] = (⟨#[]⟩ : ByteArray) := rfl
  clear hn D hok
  go_enter Tryz.func66, Tryz.ntmps66
  go_wp2_with fail
  go_loopw [3, 4] (fun v iv wr => ∃ k : Nat, k ≤ n ∧ v = .string (tb (M.hitsT (l.take k))) ∧ iv = .int .i64 k ∧ w.grownBy wr none) (fun _ i _ => n - (intOf i).toNat)
  case atStart => exact ⟨0, Nat.zero_le _, rfl, rfl, gb_refl _ _⟩
  case round =>
    obtain ⟨k, hk, rfl, rfl, hg⟩ := hrel
    have G := Lib.hid hg
    have D2 := Lib.hid (HD.out.on hg)
    clear hg h00
    by_cases hlt : k < n
    · have hkl : k < l.length := by rw [← HN.out]; exact hlt
      obtain ⟨b, o, rfl, _, _, x0, x1⟩ := Rd.hit D2.out.1 (List.getElem?_eq_getElem hkl)
      have hxo := HO.out _ (List.getElem_mem hkl)
      have kn : (k : Int) < n := by omega
      have k0 : (0 : Int) ≤ k := by omega
      have hle := HLE.out k
      have HW := Lib.hid (gb_refl wr none)
      obtain ⟨hx1, hx2⟩ := hxo
      obtain ⟨hx3, hx4⟩ := hx1
      obtain ⟨hx5, hx6⟩ := hx2
      by_cases hk0 : 0 < k
      · have HT := Lib.hid (hitsT_succ hk0 hkl)
        have tk0 : (0 : Int) < k := by omega
        generalize l[k] = x at *
        have hadd0 := fun W => tb_add Tryz.prog W (M.hitsT (l.take k)) [32] (by simp only [List.length_cons, List.length_nil]; omega)
        rw [show tb [32] = (⟨#[32]⟩ : ByteArray) from rfl] at hadd0
        have hpl : (M.hitsT (l.take k) ++ [32]).length ≤ 705 := by simp only [List.length_append, List.length_cons, List.length_nil]; omega
        generalize M.hitsT (l.take k) ++ [32] = P at *
        obtain ⟨W, hWq⟩ : ∃ W : World, W = wr := ⟨_, rfl⟩
        subst hWq
        have hadd1 := fun W => tb_add Tryz.prog W P (Lib.itoa x.key) (by have := M.itoa_le (n := x.key) (by omega); omega)
        have hadd2 := fun W => tb_add Tryz.prog W (P ++ Lib.itoa x.key) [58] (by have := M.itoa_le (n := x.key) (by omega); simp only [List.length_append, List.length_cons, List.length_nil]; omega)
        have hadd3 := fun W => tb_add Tryz.prog W (P ++ Lib.itoa x.key ++ [58]) (Lib.itoa x.dist) (by have := M.itoa_le (n := x.key) (by omega); have := M.itoa_le (n := x.dist) (by omega); simp only [List.length_append, List.length_cons, List.length_nil]; omega)
        rw [show tb [58] = (⟨#[58]⟩ : ByteArray) from rfl] at hadd2
        have HRES : Hid (P ++ Lib.itoa x.key ++ [58] ++ Lib.itoa x.dist = M.hitsT (l.take (k + 1))) := Lib.hid (by rw [HT.out]; simp [M.hitT])
        rw [HRES.out] at hadd3
        have b1 : -1000000000 ≤ x.key ∧ x.key ≤ 1000000000 := by omega
        have b2 : -1000000000 ≤ x.dist ∧ x.dist ≤ 1000000000 := by omega
        have HCE : Hid (∀ V, W.grownBy V none → V.cell? ⟨b, o + k * 2, none⟩ = some (.int .i64 x.key) ∧ V.cell? ⟨b, o + k * 2 + 1, none⟩ = some (.int .i64 x.dist)) := Lib.hid fun V hV => ⟨hV.cell x0 (by simp), hV.cell x1 (by simp)⟩
        generalize tb (P ++ Lib.itoa x.key ++ [58]) = X4 at *
        generalize tb (P ++ Lib.itoa x.key) = X3 at *
        obtain ⟨XR, hXR⟩ : ∃ XR, XR = tb (M.hitsT (l.take (k + 1))) := ⟨_, rfl⟩
        rw [← hXR] at hadd3
        have HXR := Lib.hid hXR
        clear hXR
        generalize tb P = X0 at *
        generalize tb (M.hitsT (l.take k)) = XP at *
        go_wp2_with fail
        go_region_held3 (fun V => V.cell? ⟨b, o + k * 2, none⟩ = some (.int .i64 x.key) ∧ V.cell? ⟨b, o + k * 2 + 1, none⟩ = some (.int .i64 x.dist))
          (first | exact HCE.out _ S5.out | exact HCE.out _ S6.out | exact HCE.out _ (gb_drew (gb_refl _ _)) | exact HCE.out _ (gb_refl _ _))
          (first
            | (go_at_call 18; refine Calls.mono (decimal_any _ (by assumption) W.drew) ?_; rintro e w5 ⟨rfl, hg⟩; have S5 : Hid (W.grownBy w5 none) := Lib.hid (gb_trans (gb_drew (gb_refl _ none)) hg); clear hg)
            | (go_at_call 18; refine Calls.mono (decimal_any _ (by assumption) w5) ?_; rintro e w6 ⟨rfl, hg⟩; have S6 : Hid (W.grownBy w6 none) := Lib.hid (gb_trans S5.out hg); clear hg)
            | fail)
        go_wp2_with fail
        go_roundw
        case rel => exact ⟨k + 1, by omega, by rw [HXR.out], by go_num, gb_trans G.out S6.out⟩
        case measure => simp [intOf]; omega
      · have hz : decide ((0 : Int) < (k : Int)) = false := decide_eq_false (by omega)
        have hz' : decide (0 < k) = false := decide_eq_false (by omega)
        have HT : Hid (M.hitsT (l.take (k + 1)) = M.hitsT (l.take k) ++ M.hitT l[k]) := Lib.hid (by
          obtain rfl : k = 0 := by omega
          rw [hitsT_zero, hitsT_one hkl]
          rfl)
        clear hk0
        generalize l[k] = x at *
        have hpl : (M.hitsT (l.take k)).length ≤ 705 := by omega
        generalize M.hitsT (l.take k) = P at *
        obtain ⟨W, hWq⟩ : ∃ W : World, W = wr := ⟨_, rfl⟩
        subst hWq
        have hadd1 := fun W => tb_add Tryz.prog W P (Lib.itoa x.key) (by have := M.itoa_le (n := x.key) (by omega); omega)
        have hadd2 := fun W => tb_add Tryz.prog W (P ++ Lib.itoa x.key) [58] (by have := M.itoa_le (n := x.key) (by omega); simp only [List.length_append, List.length_cons, List.length_nil]; omega)
        have hadd3 := fun W => tb_add Tryz.prog W (P ++ Lib.itoa x.key ++ [58]) (Lib.itoa x.dist) (by have := M.itoa_le (n := x.key) (by omega); have := M.itoa_le (n := x.dist) (by omega); simp only [List.length_append, List.length_cons, List.length_nil]; omega)
        rw [show tb [58] = (⟨#[58]⟩ : ByteArray) from rfl] at hadd2
        have HRES : Hid (P ++ Lib.itoa x.key ++ [58] ++ Lib.itoa x.dist = M.hitsT (l.take (k + 1))) := Lib.hid (by rw [HT.out]; simp [M.hitT])
        rw [HRES.out] at hadd3
        have b1 : -1000000000 ≤ x.key ∧ x.key ≤ 1000000000 := by omega
        have b2 : -1000000000 ≤ x.dist ∧ x.dist ≤ 1000000000 := by omega
        have HCE : Hid (∀ V, W.grownBy V none → V.cell? ⟨b, o + k * 2, none⟩ = some (.int .i64 x.key) ∧ V.cell? ⟨b, o + k * 2 + 1, none⟩ = some (.int .i64 x.dist)) := Lib.hid fun V hV => ⟨hV.cell x0 (by simp), hV.cell x1 (by simp)⟩
        generalize tb (P ++ Lib.itoa x.key ++ [58]) = X4 at *
        generalize tb (P ++ Lib.itoa x.key) = X3 at *
        obtain ⟨XR, hXR⟩ : ∃ XR, XR = tb (M.hitsT (l.take (k + 1))) := ⟨_, rfl⟩
        rw [← hXR] at hadd3
        have HXR := Lib.hid hXR
        clear hXR
        generalize tb P = X0 at *
        go_wp2_with fail
        go_region_held3 (fun V => V.cell? ⟨b, o + k * 2, none⟩ = some (.int .i64 x.key) ∧ V.cell? ⟨b, o + k * 2 + 1, none⟩ = some (.int .i64 x.dist))
          (first | exact HCE.out _ S5.out | exact HCE.out _ S6.out | exact HCE.out _ (gb_drew (gb_refl _ _)) | exact HCE.out _ (gb_refl _ _))
          (first
            | (go_at_call 18; refine Calls.mono (decimal_any _ (by assumption) W.drew) ?_; rintro e w5 ⟨rfl, hg⟩; have S5 : Hid (W.grownBy w5 none) := Lib.hid (gb_trans (gb_drew (gb_refl _ none)) hg); clear hg)
            | (go_at_call 18; refine Calls.mono (decimal_any _ (by assumption) w5) ?_; rintro e w6 ⟨rfl, hg⟩; have S6 : Hid (W.grownBy w6 none) := Lib.hid (gb_trans S5.out hg); clear hg)
            | fail)
        go_wp2_with fail
        go_roundw
        case rel => exact ⟨k + 1, by omega, by rw [HXR.out], by go_num, gb_trans G.out S6.out⟩
        case measure => simp [intOf]; omega
    · obtain rfl : k = n := by omega
      rw [HALL.out]
      go_wp2_with fail
      go_ret
      exact ⟨rfl, G.out⟩
end Go.Proofs.YtibbpbbgmgdpdaaGreatDoor
