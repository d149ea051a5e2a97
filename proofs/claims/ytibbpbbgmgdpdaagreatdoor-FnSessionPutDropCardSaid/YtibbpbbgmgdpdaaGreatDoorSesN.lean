/- The walks of the reference's session: putting, dropping, finding. The walk of a line of the reference's session: what changes nothing. The walk of a line of the reference's session: put, drop, near, kind. The walk of the reference's RunSession. -/
import Derived.Test.YtibbpbbgmgdpdaaGreatDoorSesM
import Derived.Test.YtibbpbbgmgdpdaaGreatDoorSesR
import Derived.Test.YtibbpbbgmgdpdaaGreatDoorNearS
namespace Go.Proofs.YtibbpbbgmgdpdaaGreatDoor
open Go.RowKit
set_option linter.unusedVariables false
set_option linter.unusedSimpArgs false
set_option maxRecDepth 100000

set_option maxHeartbeats 1000000 in
theorem desk_put {w : World} {g : Nat} {S : M.Ses} (h : SesAt 47 w g S) {B : Option Addr} {d : Nat} (a b e : List UInt8) (E : SeesN .i64 w B (M.vec b)) (hd : (M.vec b).length ≤ d) :
    Calls Tryz.prog 40 #[.pointer (some ⟨g, 0, none⟩), .int .i64 (M.numOr a), .slice B (M.vec b).length d, .int .i64 (M.numOr e)] w (RunGot 47 w g (M.putS S a b e)) := by
  have HS2 := Lib.hid h
  obtain ⟨A, c, hrow, hcl, hrd, hgood⟩ := h
  have HROW := Lib.hid hrow
  have HRD := Lib.hid hrd
  have HGOOD := Lib.hid hgood
  have hll := (M.validStore_of hgood.1).1
  have q0 := hrow.cell 0
  have q1 := hrow.cell 1
  simp only [List.getElem?_cons_zero, List.getElem?_cons_succ] at q0 q1
  have HLT := Lib.hid hrow.lt
  have HSEE : Hid (∀ V, w.grownBy V none → SeesI V A S.list) := Lib.hid fun V hV => ⟨((HRD.out.keep hV (Nat.le_refl _)).wide (Nat.zero_le _) hV.size), Small.of_valid HGOOD.out.1⟩
  clear hrow hrd hgood
  have HKS : Hid (M.putS S a b e = match M.PutItem S.list ⟨M.numOr a, M.vec b, M.numOr e⟩ with | some L => (⟨L, S.kind⟩, M.tOk) | none => (S, M.tNo)) := Lib.hid rfl
  have HPUT : Hid (Calls Tryz.prog 61 #[.slice A S.list.length c, .agg #[.int .i64 (M.numOr a), .slice B (M.vec b).length d, .int .i64 (M.numOr e)]] w (PutDone w (M.PutItem S.list ⟨M.numOr a, M.vec b, M.numOr e⟩))) := Lib.hid (by
    have D := HSEE.out w (gb_refl _ _)
    exact PutItem_spec w A c 0 w.heap.size S.list (.slice B (M.vec b).length d) 0 w.heap.size ⟨M.numOr a, M.vec b, M.numOr e⟩ D.2.1 D.2.2 E.2 D.1 (Nat.le_refl _) ⟨B, d, rfl, hd, E.1⟩ (Nat.le_refl _))
  generalize M.numOr a = x1 at *
  generalize M.numOr e = x3 at *
  generalize (M.vec b).length = vn at *
  obtain ⟨r, hr⟩ : ∃ r, r = M.PutItem S.list ⟨x1, M.vec b, x3⟩ := ⟨_, rfl⟩
  rw [← hr] at HPUT HKS
  generalize S.list.length = m at *
  cases r with
  | none =>
    have HX : Hid (M.putS S a b e = (S, M.tNo)) := Lib.hid HKS.out
    clear hr HKS
    go_enter Tryz.func40, Tryz.ntmps40
    go_wp2_with fail
    refine HPUT.out.mono ?_
    intro e w6 hp
    obtain ⟨A6, c6, rfl, hc6, ho6, hn6, hg6⟩ := PutDone.got hp
    have G6 := Lib.hid hg6
    clear hp ho6 hc6 hg6 hn6
    go_wp2_with fail
    go_ret
    rw [HX.out]
    exact RunGot.same HS2.out G6.out rfl
  | some K =>
    have HX : Hid (M.putS S a b e = (⟨K, S.kind⟩, M.tOk)) := Lib.hid HKS.out
    have HV : Hid (M.validStore K = true) := Lib.hid (M.PutItem_valid hr.symm)
    clear hr HKS
    go_enter Tryz.func40, Tryz.ntmps40
    go_wp2_with fail
    refine HPUT.out.mono ?_
    intro e w6 hp
    obtain ⟨A6, c6, rfl, hc6, ho6, hn6, hg6⟩ := PutDone.got hp
    have G6 := Lib.hid hg6
    have HO := Lib.hid ho6
    have HC := Lib.hid hc6
    clear hp ho6 hc6 hg6 hn6
    have R6 := Lib.hid (HROW.out.grown G6.out (by simp))
    have p0 := R6.out.cell 0
    have pf := R6.out.frozen 0
    simp only [List.getElem?_cons_zero] at p0
    have hgs : g + 1 ≤ w.heap.size := HLT.out
    go_wp2_with fail
    go_ret
    refine ⟨by rw [HX.out]; rfl, ?_, gb_setCell (gb_some G6.out _) (.inr rfl) _⟩
    rw [HX.out]
    exact SesAt.setList R6.out HC.out ((OwnItems.rd HO.out).rd.wide hgs (Nat.le_refl _)) ⟨HV.out, HGOOD.out.2.1, HGOOD.out.2.2⟩
set_option maxHeartbeats 1000000 in
theorem desk_drop {w : World} {g : Nat} {S : M.Ses} (h : SesAt 47 w g S) (a : List UInt8) :
    Calls Tryz.prog 43 #[.pointer (some ⟨g, 0, none⟩), .int .i64 (M.numOr a)] w (RunGot 47 w g (M.dropS S a)) := by
  have HS2 := Lib.hid h
  obtain ⟨A, c, hrow, hcl, hrd, hgood⟩ := h
  have HROW := Lib.hid hrow
  have HRD := Lib.hid hrd
  have HGOOD := Lib.hid hgood
  have hll := (M.validStore_of hgood.1).1
  have q0 := hrow.cell 0
  have q1 := hrow.cell 1
  simp only [List.getElem?_cons_zero, List.getElem?_cons_succ] at q0 q1
  have HLT := Lib.hid hrow.lt
  have HSEE : Hid (∀ V, w.grownBy V none → SeesI V A S.list) := Lib.hid fun V hV => ⟨((HRD.out.keep hV (Nat.le_refl _)).wide (Nat.zero_le _) hV.size), Small.of_valid HGOOD.out.1⟩
  clear hrow hrd hgood
  have HKS : Hid (M.dropS S a = match M.DropItem S.list (M.numOr a) with | some L => (⟨L, S.kind⟩, M.tOk) | none => (S, M.tNo)) := Lib.hid rfl
  have HPUT := Lib.hid (DropItem_spec (c := c) (q := M.numOr a) (HSEE.out w (gb_refl _ _)))
  generalize M.numOr a = x1 at *
  obtain ⟨r, hr⟩ : ∃ r, r = M.DropItem S.list x1 := ⟨_, rfl⟩
  rw [← hr] at HPUT HKS
  generalize S.list.length = m at *
  cases r with
  | none =>
    have HX : Hid (M.dropS S a = (S, M.tNo)) := Lib.hid HKS.out
    clear hr HKS
    go_enter Tryz.func43, Tryz.ntmps43
    go_wp2_with fail
    refine HPUT.out.mono ?_
    intro e w6 hp
    obtain ⟨A6, c6, rfl, hc6, ho6, hn6, hg6⟩ := PutDone.got hp
    have G6 := Lib.hid hg6
    clear hp ho6 hc6 hg6 hn6
    go_wp2_with fail
    go_ret
    rw [HX.out]
    exact RunGot.same HS2.out G6.out rfl
  | some K =>
    have HX : Hid (M.dropS S a = (⟨K, S.kind⟩, M.tOk)) := Lib.hid HKS.out
    have HV : Hid (M.validStore K = true) := Lib.hid (M.DropItem_valid hr.symm)
    clear hr HKS
    go_enter Tryz.func43, Tryz.ntmps43
    go_wp2_with fail
    refine HPUT.out.mono ?_
    intro e w6 hp
    obtain ⟨A6, c6, rfl, hc6, ho6, hn6, hg6⟩ := PutDone.got hp
    have G6 := Lib.hid hg6
    have HO := Lib.hid ho6
    have HC := Lib.hid hc6
    clear hp ho6 hc6 hg6 hn6
    have R6 := Lib.hid (HROW.out.grown G6.out (by simp))
    have p0 := R6.out.cell 0
    have pf := R6.out.frozen 0
    simp only [List.getElem?_cons_zero] at p0
    have hgs : g + 1 ≤ w.heap.size := HLT.out
    go_wp2_with fail
    go_ret
    refine ⟨by rw [HX.out]; rfl, ?_, gb_setCell (gb_some G6.out _) (.inr rfl) _⟩
    rw [HX.out]
    exact SesAt.setList R6.out HC.out ((OwnItems.rd HO.out).rd.wide hgs (Nat.le_refl _)) ⟨HV.out, HGOOD.out.2.1, HGOOD.out.2.2⟩
set_option maxHeartbeats 1000000 in
theorem desk_near {w : World} {g : Nat} {S : M.Ses} (h : SesAt 47 w g S) {B : Option Addr} {d : Nat} (a b : List UInt8) (E : SeesN .i64 w B (M.vec a)) :
    Calls Tryz.prog 44 #[.pointer (some ⟨g, 0, none⟩), .slice B (M.vec a).length d, .int .i64 (M.numOr b)] w (RunGot 47 w g (S, M.nearT S a b)) := by
  have HS2 := Lib.hid h
  obtain ⟨A, c, hrow, hcl, hrd, hgood⟩ := h
  have HROW := Lib.hid hrow
  have HRD := Lib.hid hrd
  have HGOOD := Lib.hid hgood
  have hll := (M.validStore_of hgood.1).1
  have q0 := hrow.cell 0
  have q1 := hrow.cell 1
  simp only [List.getElem?_cons_zero, List.getElem?_cons_succ] at q0 q1
  have HLT := Lib.hid hrow.lt
  have HSEE : Hid (∀ V, w.grownBy V none → SeesI V A S.list) := Lib.hid fun V hV => ⟨((HRD.out.keep hV (Nat.le_refl _)).wide (Nat.zero_le _) hV.size), Small.of_valid HGOOD.out.1⟩
  clear hrow hrd hgood
  have HKS : Hid (M.nearT S a b = if M.isVec (M.vec a) = true ∧ M.inR (M.numOr b) 1 16 = true then M.hitsT (M.nearest S.list S.kind (M.vec a) (M.numOr b).toNat) else M.tNo) := Lib.hid rfl
  have HIV := Lib.hid (isVector_spec w B d 0 w.heap.size (M.vec a) (by have := E.2; omega) E.1)
  obtain ⟨k, hk⟩ : ∃ k, k = M.numOr b := ⟨_, rfl⟩
  rw [← hk] at HKS ⊢
  have HIR := Lib.hid (fun W => inRange_any k 1 16 W)
  have HSX : Hid (∀ V, w.grownBy V none → (V.cell? ⟨g, 0, none⟩ = some (.slice A S.list.length c) ∧ V.cell? ⟨g, 1, none⟩ = some (.int .i64 S.kind))) := Lib.hid fun V hV => ⟨hV.cell q0 (by simp), hV.cell q1 (by simp)⟩
  have HE := Lib.hid E
  cases hvec : M.isVec (M.vec a) with
  | false =>
    have HX : Hid (M.nearT S a b = M.tNo) := Lib.hid (by rw [HKS.out, if_neg]; rw [hvec]; rintro ⟨h9, _⟩; cases h9)
    rw [hvec] at HIV
    clear hvec HKS hk E
    generalize (M.vec a).length = vn at *
    go_enter Tryz.func44, Tryz.ntmps44
    go_wp2_with (go_at_call 64; refine HIV.out.mono ?_; rintro e w' ⟨rfl, rfl⟩)
    go_ret
    rw [HX.out]
    exact RunGot.same HS2.out (gb_refl _ _) rfl
  | true =>
    rw [hvec] at HIV
    cases hin : M.inR k 1 16 with
    | false =>
      have HX : Hid (M.nearT S a b = M.tNo) := Lib.hid (by rw [HKS.out, if_neg]; rw [hin]; rintro ⟨_, h9⟩; cases h9)
      rw [hin] at HIR
      clear hvec HKS hk hin E
      generalize (M.vec a).length = vn at *
      go_enter Tryz.func44, Tryz.ntmps44
      go_wp2_with (first | (go_at_call 64; refine HIV.out.mono ?_; rintro e w' ⟨rfl, rfl⟩) | (go_at_call 65; refine (HIR.out _).mono ?_; rintro e w' ⟨rfl, rfl⟩))
      go_ret
      rw [HX.out]
      exact RunGot.same HS2.out (gb_refl _ _) rfl
    | true =>
      have hkr := M.inR_true hin
      obtain ⟨hs, hhs⟩ : ∃ hs, hs = M.nearest S.list S.kind (M.vec a) k.toNat := ⟨_, rfl⟩
      have HX : Hid (M.nearT S a b = M.hitsT hs) := Lib.hid (by rw [HKS.out, if_pos ⟨hvec, hin⟩, hhs])
      have HNR : Hid (∀ V, w.grownBy V none → Calls Tryz.prog 67 #[.slice A S.list.length c, .int .i64 S.kind, .slice B (M.vec a).length d, .int .i64 k] V (HitsMade V hs)) := Lib.hid fun V hV => by
        have h9 := nearest_spec (c := c) (d := d) (kind := S.kind) hll (fun x hx => (M.item_of HGOOD.out.1 hx).2.1) (HSEE.out V hV).1 (Nat.le_refl _) (HE.out.on hV) hvec HGOOD.out.2.1 HGOOD.out.2.2 hkr.1 hkr.2
        rw [← hhs] at h9
        exact h9
      have HOK := Lib.hid (fun x (hx : x ∈ hs) => M.nearest_ok HGOOD.out.1 hvec k.toNat (kind := S.kind) x (hhs ▸ hx))
      have hl16 : hs.length ≤ 16 := by rw [hhs]; exact M.nearest_len16 HGOOD.out.1 _ _ _
      rw [hin] at HIR
      clear hvec HKS hk hin hhs E
      have HHT : Hid (∀ V Ah ch, OwnX V w.heap.size (.slice Ah hs.length ch) hs → Calls Tryz.prog 66 #[.slice Ah hs.length ch] V fun e w' => e = .returned (.string (tb (M.hitsT hs))) ∧ V.grownBy w' none) := Lib.hid fun V Ah ch ho => hitsText_spec (ho.sees (by omega)) HOK.out hl16
      generalize (M.vec a).length = vn at *
      generalize S.list.length = m at *
      go_enter Tryz.func44, Tryz.ntmps44
      go_wp2_with (first | (go_at_call 64; refine HIV.out.mono ?_; rintro e w' ⟨rfl, rfl⟩) | (go_at_call 65; refine (HIR.out _).mono ?_; rintro e w' ⟨rfl, rfl⟩))
      go_region_held3 (fun V => V.cell? ⟨g, 0, none⟩ = some (.slice A m c) ∧ V.cell? ⟨g, 1, none⟩ = some (.int .i64 S.kind))
        (first | exact HSX.out _ S7.out | exact HSX.out _ S6.out | exact HSX.out _ (gb_drew (gb_refl _ _)) | exact HSX.out _ (gb_refl _ _))
        (first
          | (go_at_call 67; refine (HNR.out w.drew (gb_drew (gb_refl _ _))).mono ?_; rintro e w6 ⟨Ah, ch, rfl, hch, hox, hg⟩; have S6 : Hid (w.grownBy w6 none) := Lib.hid (gb_trans (gb_drew (gb_refl _ none)) hg); have HOX := Lib.hid (OwnX.wide (lo' := w.heap.size) hox (Nat.le_refl _)); clear hox hg)
          | (go_at_call 66; refine (HHT.out w6 _ _ HOX.out).mono ?_; rintro e w7 ⟨rfl, hg⟩; have S7 : Hid (w.grownBy w7 none) := Lib.hid (gb_trans S6.out hg); clear hg)
          | fail)
      go_wp2_with fail
      go_ret
      rw [HX.out]
      exact RunGot.same HS2.out S7.out rfl
end Go.Proofs.YtibbpbbgmgdpdaaGreatDoor

namespace Go.Proofs.YtibbpbbgmgdpdaaGreatDoor
open Go.RowKit
set_option linter.unusedVariables false
set_option linter.unusedSimpArgs false
set_option maxRecDepth 100000

set_option maxHeartbeats 1000000 in
theorem line_other {w : World} {g : Nat} {S : M.Ses} (h : SesAt 47 w g S) (l : List UInt8) (hs : l.length ≤ 1048576)
    (h1 : M.wd (M.cut 32 l) 0 ≠ M.tPut) (h2 : M.wd (M.cut 32 l) 0 ≠ M.tDrop) (h3 : M.wd (M.cut 32 l) 0 ≠ M.tNear) (h4 : M.wd (M.cut 32 l) 0 ≠ M.tKind) (h5 : l ≠ M.tPair) (h6 : l ≠ M.tCount) :
    Calls Tryz.prog 25 #[.pointer (some ⟨g, 0, none⟩), .string (tb l)] w (RunGot 47 w g (S, M.tWhat)) := by
  have HS2 := Lib.hid h
  obtain ⟨A, c, hrow, hcl, hrd, hgood⟩ := h
  have HROW := Lib.hid hrow
  have HRD := Lib.hid hrd
  have HGOOD := Lib.hid hgood
  have HSPLIT : Hid (Calls Tryz.prog 39 #[.string (tb l), .int .u8 32] w (GotT w (M.cut 32 l))) := Lib.hid (splitAt_spec (w := w) l 32 hs)
  have hn1 := step_words l
  have hnl := M.cut_len 32 l
  have hll := (M.validStore_of hgood.1).1
  have HMEM := Lib.hid (fun x (hx : x ∈ M.cut 32 l) => M.cut_mem hx)
  clear hrow hrd hgood
  have t1 := text_ne h1
  have t2 := text_ne h2
  have t3 := text_ne h3
  have t4 := text_ne h4
  have t5 := text_ne h5
  have t6 := text_ne h6
  clear h1 h2 h3 h4 h5 h6
  unfold M.tPut at t1
  unfold M.tDrop at t2
  unfold M.tNear at t3
  unfold M.tKind at t4
  unfold M.tPair at t5
  unfold M.tCount at t6
  generalize M.cut 32 l = ws at *
  generalize tb l = LN at *
  go_enter Tryz.func25, Tryz.ntmps25
  go_wp2_with fail
  refine HSPLIT.out.mono ?_
  rintro e w1 ⟨B, d, rfl, hd, hown, hg⟩
  have OW := Lib.hid hown
  have G := Lib.hid hg
  have ROW1 := Lib.hid (HROW.out.grown hg (by simp))
  have HLT := Lib.hid HROW.out.lt
  clear hown hg HSPLIT
  obtain ⟨wb, wo, rfl, hwb, hc0⟩ := OW.out.sees.wd_at (j := 0) (by omega)
  rw [Nat.add_zero] at hc0
  generalize tb (M.wd ws 0) = X0 at *
  generalize ws.length = n at *
  go_wp2_with fail
  go_ret
  exact RunGot.same HS2.out G.out rfl
set_option maxHeartbeats 1000000 in
theorem line_put_wrong {w : World} {g : Nat} {S : M.Ses} (h : SesAt 47 w g S) (l : List UInt8) (hs : l.length ≤ 1048576)
    (h0 : M.wd (M.cut 32 l) 0 = M.tPut) (hn : (M.cut 32 l).length ≠ 4) (h5 : l ≠ M.tPair) (h6 : l ≠ M.tCount) :
    Calls Tryz.prog 25 #[.pointer (some ⟨g, 0, none⟩), .string (tb l)] w (RunGot 47 w g (S, M.tWhat)) := by
  have HS2 := Lib.hid h
  obtain ⟨A, c, hrow, hcl, hrd, hgood⟩ := h
  have HROW := Lib.hid hrow
  have HRD := Lib.hid hrd
  have HGOOD := Lib.hid hgood
  have HSPLIT : Hid (Calls Tryz.prog 39 #[.string (tb l), .int .u8 32] w (GotT w (M.cut 32 l))) := Lib.hid (splitAt_spec (w := w) l 32 hs)
  have hn1 := step_words l
  have hnl := M.cut_len 32 l
  have hll := (M.validStore_of hgood.1).1
  have HMEM := Lib.hid (fun x (hx : x ∈ M.cut 32 l) => M.cut_mem hx)
  clear hrow hrd hgood
  have t0 := text_eq h0
  have hn' : (((M.cut 32 l).length : Int) == 4) = false := beq_eq_false_iff_ne.2 (by omega)
  have t5 := text_ne h5
  have t6 := text_ne h6
  clear h0 h5 h6 hn
  unfold M.tPut at t0
  unfold M.tPair at t5
  unfold M.tCount at t6
  generalize M.cut 32 l = ws at *
  generalize tb l = LN at *
  go_enter Tryz.func25, Tryz.ntmps25
  go_wp2_with fail
  refine HSPLIT.out.mono ?_
  rintro e w1 ⟨B, d, rfl, hd, hown, hg⟩
  have OW := Lib.hid hown
  have G := Lib.hid hg
  have ROW1 := Lib.hid (HROW.out.grown hg (by simp))
  have HLT := Lib.hid HROW.out.lt
  clear hown hg HSPLIT
  obtain ⟨wb, wo, rfl, hwb, hc0⟩ := OW.out.sees.wd_at (j := 0) (by omega)
  rw [Nat.add_zero] at hc0
  generalize tb (M.wd ws 0) = X0 at *
  generalize ws.length = n at *
  have t0' : X0.toList = _ := beq_iff_eq.1 t0
  clear t0
  go_wp2_with fail
  go_ret
  exact RunGot.same HS2.out G.out rfl
set_option maxHeartbeats 1000000 in
theorem line_drop_wrong {w : World} {g : Nat} {S : M.Ses} (h : SesAt 47 w g S) (l : List UInt8) (hs : l.length ≤ 1048576)
    (h0 : M.wd (M.cut 32 l) 0 = M.tDrop) (hn : (M.cut 32 l).length ≠ 2) (h5 : l ≠ M.tPair) (h6 : l ≠ M.tCount) :
    Calls Tryz.prog 25 #[.pointer (some ⟨g, 0, none⟩), .string (tb l)] w (RunGot 47 w g (S, M.tWhat)) := by
  have HS2 := Lib.hid h
  obtain ⟨A, c, hrow, hcl, hrd, hgood⟩ := h
  have HROW := Lib.hid hrow
  have HRD := Lib.hid hrd
  have HGOOD := Lib.hid hgood
  have HSPLIT : Hid (Calls Tryz.prog 39 #[.string (tb l), .int .u8 32] w (GotT w (M.cut 32 l))) := Lib.hid (splitAt_spec (w := w) l 32 hs)
  have hn1 := step_words l
  have hnl := M.cut_len 32 l
  have hll := (M.validStore_of hgood.1).1
  have HMEM := Lib.hid (fun x (hx : x ∈ M.cut 32 l) => M.cut_mem hx)
  clear hrow hrd hgood
  have t0 := text_eq h0
  have hn' : (((M.cut 32 l).length : Int) == 2) = false := beq_eq_false_iff_ne.2 (by omega)
  have t5 := text_ne h5
  have t6 := text_ne h6
  clear h0 h5 h6 hn
  unfold M.tDrop at t0
  unfold M.tPair at t5
  unfold M.tCount at t6
  generalize M.cut 32 l = ws at *
  generalize tb l = LN at *
  go_enter Tryz.func25, Tryz.ntmps25
  go_wp2_with fail
  refine HSPLIT.out.mono ?_
  rintro e w1 ⟨B, d, rfl, hd, hown, hg⟩
  have OW := Lib.hid hown
  have G := Lib.hid hg
  have ROW1 := Lib.hid (HROW.out.grown hg (by simp))
  have HLT := Lib.hid HROW.out.lt
  clear hown hg HSPLIT
  obtain ⟨wb, wo, rfl, hwb, hc0⟩ := OW.out.sees.wd_at (j := 0) (by omega)
  rw [Nat.add_zero] at hc0
  generalize tb (M.wd ws 0) = X0 at *
  generalize ws.length = n at *
  have t0' : X0.toList = _ := beq_iff_eq.1 t0
  clear t0
  go_wp2_with fail
  go_ret
  exact RunGot.same HS2.out G.out rfl
set_option maxHeartbeats 1000000 in
theorem line_near_wrong {w : World} {g : Nat} {S : M.Ses} (h : SesAt 47 w g S) (l : List UInt8) (hs : l.length ≤ 1048576)
    (h0 : M.wd (M.cut 32 l) 0 = M.tNear) (hn : (M.cut 32 l).length ≠ 3) (h5 : l ≠ M.tPair) (h6 : l ≠ M.tCount) :
    Calls Tryz.prog 25 #[.pointer (some ⟨g, 0, none⟩), .string (tb l)] w (RunGot 47 w g (S, M.tWhat)) := by
  have HS2 := Lib.hid h
  obtain ⟨A, c, hrow, hcl, hrd, hgood⟩ := h
  have HROW := Lib.hid hrow
  have HRD := Lib.hid hrd
  have HGOOD := Lib.hid hgood
  have HSPLIT : Hid (Calls Tryz.prog 39 #[.string (tb l), .int .u8 32] w (GotT w (M.cut 32 l))) := Lib.hid (splitAt_spec (w := w) l 32 hs)
  have hn1 := step_words l
  have hnl := M.cut_len 32 l
  have hll := (M.validStore_of hgood.1).1
  have HMEM := Lib.hid (fun x (hx : x ∈ M.cut 32 l) => M.cut_mem hx)
  clear hrow hrd hgood
  have t0 := text_eq h0
  have hn' : (((M.cut 32 l).length : Int) == 3) = false := beq_eq_false_iff_ne.2 (by omega)
  have t5 := text_ne h5
  have t6 := text_ne h6
  clear h0 h5 h6 hn
  unfold M.tNear at t0
  unfold M.tPair at t5
  unfold M.tCount at t6
  generalize M.cut 32 l = ws at *
  generalize tb l = LN at *
  go_enter Tryz.func25, Tryz.ntmps25
  go_wp2_with fail
  refine HSPLIT.out.mono ?_
  rintro e w1 ⟨B, d, rfl, hd, hown, hg⟩
  have OW := Lib.hid hown
  have G := Lib.hid hg
  have ROW1 := Lib.hid (HROW.out.grown hg (by simp))
  have HLT := Lib.hid HROW.out.lt
  clear hown hg HSPLIT
  obtain ⟨wb, wo, rfl, hwb, hc0⟩ := OW.out.sees.wd_at (j := 0) (by omega)
  rw [Nat.add_zero] at hc0
  generalize tb (M.wd ws 0) = X0 at *
  generalize ws.length = n at *
  have t0' : X0.toList = _ := beq_iff_eq.1 t0
  clear t0
  go_wp2_with fail
  go_ret
  exact RunGot.same HS2.out G.out rfl
set_option maxHeartbeats 1000000 in
theorem line_kind_wrong {w : World} {g : Nat} {S : M.Ses} (h : SesAt 47 w g S) (l : List UInt8) (hs : l.length ≤ 1048576)
    (h0 : M.wd (M.cut 32 l) 0 = M.tKind) (hn : (M.cut 32 l).length ≠ 2) (h5 : l ≠ M.tPair) (h6 : l ≠ M.tCount) :
    Calls Tryz.prog 25 #[.pointer (some ⟨g, 0, none⟩), .string (tb l)] w (RunGot 47 w g (S, M.tWhat)) := by
  have HS2 := Lib.hid h
  obtain ⟨A, c, hrow, hcl, hrd, hgood⟩ := h
  have HROW := Lib.hid hrow
  have HRD := Lib.hid hrd
  have HGOOD := Lib.hid hgood
  have HSPLIT : Hid (Calls Tryz.prog 39 #[.string (tb l), .int .u8 32] w (GotT w (M.cut 32 l))) := Lib.hid (splitAt_spec (w := w) l 32 hs)
  have hn1 := step_words l
  have hnl := M.cut_len 32 l
  have hll := (M.validStore_of hgood.1).1
  have HMEM := Lib.hid (fun x (hx : x ∈ M.cut 32 l) => M.cut_mem hx)
  clear hrow hrd hgood
  have t0 := text_eq h0
  have hn' : (((M.cut 32 l).length : Int) == 2) = false := beq_eq_false_iff_ne.2 (by omega)
  have t5 := text_ne h5
  have t6 := text_ne h6
  clear h0 h5 h6 hn
  unfold M.tKind at t0
  unfold M.tPair at t5
  unfold M.tCount at t6
  generalize M.cut 32 l = ws at *
  generalize tb l = LN at *
  go_enter Tryz.func25, Tryz.ntmps25
  go_wp2_with fail
  refine HSPLIT.out.mono ?_
  rintro e w1 ⟨B, d, rfl, hd, hown, hg⟩
  have OW := Lib.hid hown
  have G := Lib.hid hg
  have ROW1 := Lib.hid (HROW.out.grown hg (by simp))
  have HLT := Lib.hid HROW.out.lt
  clear hown hg HSPLIT
  obtain ⟨wb, wo, rfl, hwb, hc0⟩ := OW.out.sees.wd_at (j := 0) (by omega)
  rw [Nat.add_zero] at hc0
  generalize tb (M.wd ws 0) = X0 at *
  generalize ws.length = n at *
  have t0' : X0.toList = _ := beq_iff_eq.1 t0
  clear t0
  go_wp2_with fail
  go_ret
  exact RunGot.same HS2.out G.out rfl

set_option maxHeartbeats 1000000 in
theorem line_count {w : World} {g : Nat} {S : M.Ses} (h : SesAt 47 w g S) :
    Calls Tryz.prog 25 #[.pointer (some ⟨g, 0, none⟩), .string (tb M.tCount)] w (RunGot 47 w g (S, Lib.itoa S.list.length)) := by
  have HS2 := Lib.hid h
  obtain ⟨l, hlq⟩ : ∃ l, l = M.tCount := ⟨_, rfl⟩
  have hs : l.length ≤ 1048576 := by rw [hlq]; decide
  rw [← hlq]
  obtain ⟨A, c, hrow, hcl, hrd, hgood⟩ := h
  have HROW := Lib.hid hrow
  have HRD := Lib.hid hrd
  have HGOOD := Lib.hid hgood
  have HSPLIT : Hid (Calls Tryz.prog 39 #[.string (tb l), .int .u8 32] w (GotT w (M.cut 32 l))) := Lib.hid (splitAt_spec (w := w) l 32 hs)
  have hn1 := step_words l
  have hnl := M.cut_len 32 l
  have hll := (M.validStore_of hgood.1).1
  have HMEM := Lib.hid (fun x (hx : x ∈ M.cut 32 l) => M.cut_mem hx)
  clear hrow hrd hgood
  have t0 : (tb (M.wd (M.cut 32 l) 0)).toList = [99, 111, 117, 110, 116] := by rw [hlq, cut_count, tb_toList]; rfl
  have t6 : (tb l).toList = [99, 111, 117, 110, 116] := by rw [hlq, tb_toList]; rfl
  clear hlq
  generalize M.cut 32 l = ws at *
  generalize tb l = LN at *
  go_enter Tryz.func25, Tryz.ntmps25
  go_wp2_with fail
  refine HSPLIT.out.mono ?_
  rintro e w1 ⟨B, d, rfl, hd, hown, hg⟩
  have OW := Lib.hid hown
  have G := Lib.hid hg
  have ROW1 := Lib.hid (HROW.out.grown hg (by simp))
  have HLT := Lib.hid HROW.out.lt
  clear hown hg HSPLIT
  obtain ⟨wb, wo, rfl, hwb, hc0⟩ := OW.out.sees.wd_at (j := 0) (by omega)
  rw [Nat.add_zero] at hc0
  have HI := Lib.hid (fun W (hW : w.grownBy W none) => decimal_any (S.list.length : Int) (by omega) W)
  have q0 := ROW1.out.cell 0
  have q1 := ROW1.out.cell 1
  simp only [List.getElem?_cons_zero, List.getElem?_cons_succ] at q0 q1
  have HCE : Hid (∀ V, w1.grownBy V none → V.cell? ⟨g, 0, none⟩ = some (.slice A S.list.length c) ∧ V.cell? ⟨g, 1, none⟩ = some (.int .i64 S.kind)) := Lib.hid fun V hV => ⟨hV.cell q0 (by simp), hV.cell q1 (by simp)⟩
  generalize tb (M.wd ws 0) = X0 at *
  generalize ws.length = n at *
  generalize S.list.length = m at *
  go_wp2_with fail
  refine (HI.out _ G.out).mono ?_
  rintro e w2 ⟨rfl, hg⟩
  have G2 := Lib.hid (gb_trans G.out hg)
  clear hg
  go_wp2_with fail
  go_ret
  exact RunGot.same HS2.out G2.out rfl
set_option maxHeartbeats 1000000 in
theorem line_pair {w : World} {g : Nat} {S : M.Ses} (h : SesAt 47 w g S) :
    Calls Tryz.prog 25 #[.pointer (some ⟨g, 0, none⟩), .string (tb M.tPair)] w (RunGot 47 w g (S, M.pairT S)) := by
  have HS2 := Lib.hid h
  obtain ⟨l, hlq⟩ : ∃ l, l = M.tPair := ⟨_, rfl⟩
  have hs : l.length ≤ 1048576 := by rw [hlq]; decide
  rw [← hlq]
  obtain ⟨A, c, hrow, hcl, hrd, hgood⟩ := h
  have HROW := Lib.hid hrow
  have HRD := Lib.hid hrd
  have HGOOD := Lib.hid hgood
  have HSPLIT : Hid (Calls Tryz.prog 39 #[.string (tb l), .int .u8 32] w (GotT w (M.cut 32 l))) := Lib.hid (splitAt_spec (w := w) l 32 hs)
  have hn1 := step_words l
  have hnl := M.cut_len 32 l
  have hll := (M.validStore_of hgood.1).1
  have HMEM := Lib.hid (fun x (hx : x ∈ M.cut 32 l) => M.cut_mem hx)
  clear hrow hrd hgood
  have t0 : (tb (M.wd (M.cut 32 l) 0)).toList = [112, 97, 105, 114] := by rw [hlq, cut_pair, tb_toList]; rfl
  have t6 : (tb l).toList = [112, 97, 105, 114] := by rw [hlq, tb_toList]; rfl
  clear hlq
  have HPT : Hid (M.pairT S = match M.closest S.list S.kind with | some (a, b) => Lib.itoa a.key ++ 32 :: Lib.itoa b.key | none => M.tNo) := Lib.hid rfl
  have HKEY := Lib.hid (fun p => M.closest_keys HGOOD.out (p := p))
  generalize M.cut 32 l = ws at *
  generalize tb l = LN at *
  go_enter Tryz.func25, Tryz.ntmps25
  go_wp2_with fail
  refine HSPLIT.out.mono ?_
  rintro e w1 ⟨B, d, rfl, hd, hown, hg⟩
  have OW := Lib.hid hown
  have G := Lib.hid hg
  have ROW1 := Lib.hid (HROW.out.grown hg (by simp))
  have HLT := Lib.hid HROW.out.lt
  clear hown hg HSPLIT
  obtain ⟨wb, wo, rfl, hwb, hc0⟩ := OW.out.sees.wd_at (j := 0) (by omega)
  rw [Nat.add_zero] at hc0
  have HSEE : Hid (∀ V, w1.grownBy V none → SeesI V A S.list) := Lib.hid fun V hV => ⟨((HRD.out.keep (gb_trans G.out hV) (Nat.le_refl _)).wide (Nat.zero_le _) (gb_trans G.out hV).size), Small.of_valid HGOOD.out.1⟩
  have HCP : Hid (∀ V, w1.grownBy V none → Calls Tryz.prog 46 #[.slice A S.list.length c, .int .i64 S.kind] V (PairGot V (M.closest S.list S.kind))) := Lib.hid fun V hV => ClosestPair_spec (HSEE.out V hV) HGOOD.out.1 HGOOD.out.2.1 HGOOD.out.2.2
  have q0 := ROW1.out.cell 0
  have q1 := ROW1.out.cell 1
  simp only [List.getElem?_cons_zero, List.getElem?_cons_succ] at q0 q1
  have HCE : Hid (∀ V, w1.grownBy V none → V.cell? ⟨g, 0, none⟩ = some (.slice A S.list.length c) ∧ V.cell? ⟨g, 1, none⟩ = some (.int .i64 S.kind)) := Lib.hid fun V hV => ⟨hV.cell q0 (by simp), hV.cell q1 (by simp)⟩
  generalize tb (M.wd ws 0) = X0 at *
  generalize ws.length = n at *
  cases hcp : M.closest S.list S.kind with
  | none =>
    rw [hcp] at HCP HPT
    have HX : Hid (M.pairT S = M.tNo) := Lib.hid HPT.out
    clear hcp HPT
    generalize S.list.length = m at *
    go_wp2_with fail
    go_region_held3 (fun V => V.cell? ⟨g, 0, none⟩ = some (.slice A m c) ∧ V.cell? ⟨g, 1, none⟩ = some (.int .i64 S.kind))
      (first | exact HCE.out _ S5.out | exact HCE.out _ (gb_drew (gb_refl _ _)) | exact HCE.out _ (gb_refl _ _))
      (first
        | (go_at_call 46; refine (HCP.out w1.drew (gb_drew (gb_refl _ _))).mono ?_; rintro e w5 ⟨rfl, hg⟩; have S5 : Hid (w1.grownBy w5 none) := Lib.hid (gb_trans (gb_drew (gb_refl _ none)) hg); clear hg)
        | fail)
    go_wp2_with fail
    go_ret
    exact RunGot.same HS2.out (gb_trans G.out S5.out) (by rw [HX.out]; rfl)
  | some p =>
    obtain ⟨p1, p2⟩ := p
    have hk := HKEY.out _ hcp
    rw [hcp] at HCP HPT
    have HX : Hid (M.pairT S = Lib.itoa p1.key ++ 32 :: Lib.itoa p2.key) := Lib.hid HPT.out
    have HCP2 : Hid (∀ V, w1.grownBy V none → Calls Tryz.prog 46 #[.slice A S.list.length c, .int .i64 S.kind] V fun e w' => e = .returned (.tuple #[.int .i64 p1.key, .int .i64 p2.key, .bool true]) ∧ V.grownBy w' none) := Lib.hid fun V hV => HCP.out V hV
    clear hcp HPT HCP
    have HCP := HCP2
    clear HCP2 HKEY
    obtain ⟨⟨k1, k2⟩, ⟨k3, k4⟩⟩ := hk
    have k1 : 1 ≤ p1.key := k1
    have k2 : p1.key ≤ 99 := k2
    have k3 : 1 ≤ p2.key := k3
    have k4 : p2.key ≤ 99 := k4
    have HIA := Lib.hid (fun W (hW : w.grownBy W none) => decimal_any p1.key (by omega) W)
    have HIB := Lib.hid (fun W (hW : w.grownBy W none) => decimal_any p2.key (by omega) W)
    have a1 := fun W => tb_add Tryz.prog W (Lib.itoa p1.key) [32] (by have := M.itoa_le (n := p1.key) (by omega); simp only [List.length_cons, List.length_nil]; omega)
    have a2 := fun W => tb_add Tryz.prog W (Lib.itoa p1.key ++ [32]) (Lib.itoa p2.key) (by have := M.itoa_le (n := p1.key) (by omega); have := M.itoa_le (n := p2.key) (by omega); simp only [List.length_append, List.length_cons, List.length_nil]; omega)
    rw [show tb [32] = (⟨#[32]⟩ : ByteArray) from rfl] at a1
    rw [show Lib.itoa p1.key ++ [32] ++ Lib.itoa p2.key = Lib.itoa p1.key ++ 32 :: Lib.itoa p2.key by simp] at a2
    generalize tb (Lib.itoa p1.key ++ [32]) = Y1 at *
    generalize S.list.length = m at *
    go_wp2_with fail
    go_region_held3 (fun V => V.cell? ⟨g, 0, none⟩ = some (.slice A m c) ∧ V.cell? ⟨g, 1, none⟩ = some (.int .i64 S.kind))
      (first | exact HCE.out _ S5.out | exact HCE.out _ (gb_drew (gb_refl _ _)) | exact HCE.out _ (gb_refl _ _))
      (first
        | (go_at_call 46; refine (HCP.out w1.drew (gb_drew (gb_refl _ _))).mono ?_; rintro e w5 ⟨rfl, hg⟩; have S5 : Hid (w1.grownBy w5 none) := Lib.hid (gb_trans (gb_drew (gb_refl _ none)) hg); clear hg)
        | fail)
    have G5 := Lib.hid (gb_trans G.out S5.out)
    go_wp2_with fail
    refine (HIA.out _ G5.out).mono ?_
    rintro e w6 ⟨rfl, hg⟩
    have G6 := Lib.hid (gb_trans G5.out hg)
    clear hg
    go_wp2_with fail
    refine (HIB.out _ G6.out).mono ?_
    rintro e w7 ⟨rfl, hg⟩
    have G7 := Lib.hid (gb_trans G6.out hg)
    clear hg
    go_wp2_with fail
    go_ret
    exact RunGot.same HS2.out G7.out (by rw [HX.out])
end Go.Proofs.YtibbpbbgmgdpdaaGreatDoor

namespace Go.Proofs.YtibbpbbgmgdpdaaGreatDoor
open Go.RowKit
set_option linter.unusedVariables false
set_option linter.unusedSimpArgs false
set_option maxRecDepth 100000

set_option maxHeartbeats 1000000 in
theorem line_kind {w : World} {g : Nat} {S : M.Ses} (h : SesAt 47 w g S) (l : List UInt8) (hs : l.length ≤ 1048576)
    (h0 : M.wd (M.cut 32 l) 0 = M.tKind) (hn : (M.cut 32 l).length = 2) :
    Calls Tryz.prog 25 #[.pointer (some ⟨g, 0, none⟩), .string (tb l)] w (RunGot 47 w g (M.kindS S (M.wd (M.cut 32 l) 1))) := by
  have HS2 := Lib.hid h
  obtain ⟨A, c, hrow, hcl, hrd, hgood⟩ := h
  have HROW := Lib.hid hrow
  have HRD := Lib.hid hrd
  have HGOOD := Lib.hid hgood
  have HSPLIT : Hid (Calls Tryz.prog 39 #[.string (tb l), .int .u8 32] w (GotT w (M.cut 32 l))) := Lib.hid (splitAt_spec (w := w) l 32 hs)
  have hn1 := step_words l
  have hnl := M.cut_len 32 l
  have hll := (M.validStore_of hgood.1).1
  have HMEM := Lib.hid (fun x (hx : x ∈ M.cut 32 l) => M.cut_mem hx)
  clear hrow hrd hgood
  have t0 := text_eq h0
  unfold M.tKind at t0
  clear h0
  generalize M.cut 32 l = ws at *
  have HKS : Hid (M.kindS S (M.wd ws 1) = if M.inR (M.numOr (M.wd ws 1)) 1 4 = true then (⟨S.list, M.numOr (M.wd ws 1)⟩, M.tOk) else (S, M.tNo)) := Lib.hid rfl
  generalize tb l = LN at *
  go_enter Tryz.func25, Tryz.ntmps25
  go_wp2_with fail
  refine HSPLIT.out.mono ?_
  rintro e w1 ⟨B, d, rfl, hd, hown, hg⟩
  have OW := Lib.hid hown
  have G := Lib.hid hg
  have ROW1 := Lib.hid (HROW.out.grown hg (by simp))
  have HLT := Lib.hid HROW.out.lt
  clear hown hg HSPLIT
  obtain ⟨wb, wo, rfl, hwb, hc0⟩ := OW.out.sees.wd_at (j := 0) (by omega)
  rw [Nat.add_zero] at hc0
  have hlen := hn
  obtain ⟨_, _, he1, _, wc1⟩ := OW.out.sees.wd_at (j := 1) (by rw [hlen]; decide)
  injection he1 with he1
  injection he1 with hea1 heb1
  subst hea1 heb1
  have hw1 : (M.wd ws 1).length ≤ 1048575 := by
    have h9 := HMEM.out (M.wd ws 1) (by rw [wd_eq (by rw [hlen]; decide)]; exact List.getElem_mem _)
    rw [hlen] at h9
    omega
  have HNUM := Lib.hid (fun W => numberOf_spec (w := W) (M.wd ws 1) (by omega))
  have HK := Lib.hid (fun W => validKind_any' (M.numOr (M.wd ws 1)) W)
  have HWC : Hid (∀ V, w1.grownBy V none → V.cell? ⟨wb, wo + 1, none⟩ = some (.string (tb (M.wd ws 1)))) := Lib.hid fun V hV => hV.cell wc1 (by simp)
  generalize tb (M.wd ws 0) = X0 at *
  generalize tb (M.wd ws 1) = X1 at *
  obtain ⟨z, hz⟩ : ∃ z, z = M.numOr (M.wd ws 1) := ⟨_, rfl⟩
  rw [← hz] at HNUM HK HKS
  clear hz
  rw [hn] at *
  have t0' : X0.toList = _ := beq_iff_eq.1 t0
  clear t0 hn hlen
  by_cases hk : M.inR z 1 4 = true
  · have hkr := M.inR_true hk
    rw [hk] at HK
    have HX : Hid (M.kindS S (M.wd ws 1) = (⟨S.list, z⟩, M.tOk)) := Lib.hid (by rw [HKS.out, if_pos hk])
    clear hk HKS
    go_wp2_with fail
    refine (HNUM.out _).mono ?_
    rintro e w2 ⟨rfl, hg⟩
    have G2 := Lib.hid hg
    have d1 := HWC.out _ hg
    clear hg
    go_wp2_with (go_at_call 45; refine (HK.out _).mono ?_; rintro e w' ⟨rfl, rfl⟩)
    refine (HNUM.out _).mono ?_
    rintro e w3 ⟨rfl, hg⟩
    have G3 := Lib.hid (gb_trans G.out (gb_trans G2.out hg))
    clear hg d1
    have R2 := Lib.hid (HROW.out.grown G3.out (by simp))
    have q1 := R2.out.cell 1
    have qf := R2.out.frozen 1
    simp only [List.getElem?_cons_zero, List.getElem?_cons_succ] at q1
    go_wp2_with fail
    go_ret
    refine ⟨by rw [HX.out]; rfl, ?_, gb_setCell (gb_some G3.out _) (.inr rfl) _⟩
    rw [HX.out]
    exact SesAt.setKind R2.out hcl ((HRD.out.keep G3.out (Nat.le_refl _)).wide (Nat.le_refl _) G3.out.size) ⟨HGOOD.out.1, hkr.1, hkr.2⟩
  · have hkf : M.inR z 1 4 = false := by simpa using hk
    rw [hkf] at HK
    have HX : Hid (M.kindS S (M.wd ws 1) = (S, M.tNo)) := Lib.hid (by rw [HKS.out, if_neg hk])
    clear hk hkf HKS
    go_wp2_with fail
    refine (HNUM.out _).mono ?_
    rintro e w2 ⟨rfl, hg⟩
    have G2 := Lib.hid (gb_trans G.out hg)
    clear hg
    go_wp2_with (go_at_call 45; refine (HK.out _).mono ?_; rintro e w' ⟨rfl, rfl⟩)
    go_ret
    rw [HX.out]
    exact RunGot.same HS2.out G2.out rfl
/-- behind a call on the box -/
theorem RunGot.on {t : TypeId} {w w0 w' : World} {g : Nat} {r : M.Ses × List UInt8} {e : Ending} (h : RunGot t w0 g r e w') (hg : w.grownBy w0 none) : RunGot t w g r e w' := ⟨h.1, h.2.1, gb_trans (gb_some hg _) h.2.2⟩
set_option maxHeartbeats 1000000 in
theorem line_drop {w : World} {g : Nat} {S : M.Ses} (h : SesAt 47 w g S) (l : List UInt8) (hs : l.length ≤ 1048576)
    (h0 : M.wd (M.cut 32 l) 0 = M.tDrop) (hn : (M.cut 32 l).length = 2) :
    Calls Tryz.prog 25 #[.pointer (some ⟨g, 0, none⟩), .string (tb l)] w (RunGot 47 w g (M.dropS S (M.wd (M.cut 32 l) 1))) := by
  have HS2 := Lib.hid h
  obtain ⟨A, c, hrow, hcl, hrd, hgood⟩ := h
  have HROW := Lib.hid hrow
  have HRD := Lib.hid hrd
  have HGOOD := Lib.hid hgood
  have HSPLIT : Hid (Calls Tryz.prog 39 #[.string (tb l), .int .u8 32] w (GotT w (M.cut 32 l))) := Lib.hid (splitAt_spec (w := w) l 32 hs)
  have hn1 := step_words l
  have hnl := M.cut_len 32 l
  have hll := (M.validStore_of hgood.1).1
  have HMEM := Lib.hid (fun x (hx : x ∈ M.cut 32 l) => M.cut_mem hx)
  clear hrow hrd hgood
  have t0 := text_eq h0
  unfold M.tDrop at t0
  clear h0
  generalize M.cut 32 l = ws at *
  generalize tb l = LN at *
  go_enter Tryz.func25, Tryz.ntmps25
  go_wp2_with fail
  refine HSPLIT.out.mono ?_
  rintro e w1 ⟨B, d, rfl, hd, hown, hg⟩
  have OW := Lib.hid hown
  have G := Lib.hid hg
  have ROW1 := Lib.hid (HROW.out.grown hg (by simp))
  have HLT := Lib.hid HROW.out.lt
  clear hown hg HSPLIT
  obtain ⟨wb, wo, rfl, hwb, hc0⟩ := OW.out.sees.wd_at (j := 0) (by omega)
  rw [Nat.add_zero] at hc0
  have hlen := hn
  obtain ⟨_, _, he1, _, wc1⟩ := OW.out.sees.wd_at (j := 1) (by rw [hlen]; decide)
  injection he1 with he1
  injection he1 with hea1 heb1
  subst hea1 heb1
  have hw1 : (M.wd ws 1).length ≤ 1048575 := by
    have h9 := HMEM.out (M.wd ws 1) (by rw [wd_eq (by rw [hlen]; decide)]; exact List.getElem_mem _)
    rw [hlen] at h9
    omega
  have HNUM := Lib.hid (fun W => numberOf_spec (w := W) (M.wd ws 1) (by omega))
  have HDR := Lib.hid (fun V (hV : w.grownBy V none) => desk_drop (HS2.out.on hV) (M.wd ws 1))
  generalize tb (M.wd ws 0) = X0 at *
  generalize tb (M.wd ws 1) = X1 at *
  generalize M.numOr (M.wd ws 1) = z at *
  generalize M.dropS S (M.wd ws 1) = r at *
  rw [hn] at *
  have t0' : X0.toList = _ := beq_iff_eq.1 t0
  clear t0 hn hlen
  go_wp2_with fail
  refine (HNUM.out _).mono ?_
  rintro e w2 ⟨rfl, hg⟩
  have G2 := Lib.hid (gb_trans G.out hg)
  clear hg
  go_wp2_with fail
  refine (HDR.out _ G2.out).mono ?_
  intro e w3 hr
  have HR := Lib.hid (hr.on G2.out)
  obtain ⟨rfl, _, _⟩ := hr
  go_wp2_with fail
  go_ret
  exact HR.out
set_option maxHeartbeats 2000000 in
theorem line_near {w : World} {g : Nat} {S : M.Ses} (h : SesAt 47 w g S) (l : List UInt8) (hs : l.length ≤ 1048576)
    (h0 : M.wd (M.cut 32 l) 0 = M.tNear) (hn : (M.cut 32 l).length = 3) :
    Calls Tryz.prog 25 #[.pointer (some ⟨g, 0, none⟩), .string (tb l)] w (RunGot 47 w g (S, M.nearT S (M.wd (M.cut 32 l) 1) (M.wd (M.cut 32 l) 2))) := by
  have HS2 := Lib.hid h
  obtain ⟨A, c, hrow, hcl, hrd, hgood⟩ := h
  have HROW := Lib.hid hrow
  have HRD := Lib.hid hrd
  have HGOOD := Lib.hid hgood
  have HSPLIT : Hid (Calls Tryz.prog 39 #[.string (tb l), .int .u8 32] w (GotT w (M.cut 32 l))) := Lib.hid (splitAt_spec (w := w) l 32 hs)
  have hn1 := step_words l
  have hnl := M.cut_len 32 l
  have hll := (M.validStore_of hgood.1).1
  have HMEM := Lib.hid (fun x (hx : x ∈ M.cut 32 l) => M.cut_mem hx)
  clear hrow hrd hgood
  have t0 := text_eq h0
  unfold M.tNear at t0
  clear h0
  generalize M.cut 32 l = ws at *
  generalize tb l = LN at *
  go_enter Tryz.func25, Tryz.ntmps25
  go_wp2_with fail
  refine HSPLIT.out.mono ?_
  rintro e w1 ⟨B, d, rfl, hd, hown, hg⟩
  have OW := Lib.hid hown
  have G := Lib.hid hg
  have ROW1 := Lib.hid (HROW.out.grown hg (by simp))
  have HLT := Lib.hid HROW.out.lt
  clear hown hg HSPLIT
  obtain ⟨wb, wo, rfl, hwb, hc0⟩ := OW.out.sees.wd_at (j := 0) (by omega)
  rw [Nat.add_zero] at hc0
  have hlen := hn
  obtain ⟨_, _, he1, _, wc1⟩ := OW.out.sees.wd_at (j := 1) (by rw [hlen]; decide)
  injection he1 with he1
  injection he1 with hea1 heb1
  subst hea1 heb1
  have hw1 : (M.wd ws 1).length ≤ 1048575 := by
    have h9 := HMEM.out (M.wd ws 1) (by rw [wd_eq (by rw [hlen]; decide)]; exact List.getElem_mem _)
    rw [hlen] at h9
    omega
  obtain ⟨_, _, he2, _, wc2⟩ := OW.out.sees.wd_at (j := 2) (by rw [hlen]; decide)
  injection he2 with he2
  injection he2 with hea2 heb2
  subst hea2 heb2
  have hw2 : (M.wd ws 2).length ≤ 1048575 := by
    have h9 := HMEM.out (M.wd ws 2) (by rw [wd_eq (by rw [hlen]; decide)]; exact List.getElem_mem _)
    rw [hlen] at h9
    omega
  have HSX : Hid (∀ V, w1.grownBy V none → V.cell? ⟨wb, wo + 1, none⟩ = some (.string (tb (M.wd ws 1))) ∧ V.cell? ⟨wb, wo + 2, none⟩ = some (.string (tb (M.wd ws 2)))) := Lib.hid fun V hV => ⟨hV.cell wc1 (by simp), hV.cell wc2 (by simp)⟩
  have hwg : some wb ≠ some g := by
    have h9 := (OW.out.lt wb rfl).1
    have := HLT.out
    intro e; injection e with e; omega
  have HSG : Hid (∀ V, w1.grownBy V (some g) → V.cell? ⟨wb, wo + 1, none⟩ = some (.string (tb (M.wd ws 1))) ∧ V.cell? ⟨wb, wo + 2, none⟩ = some (.string (tb (M.wd ws 2)))) := Lib.hid fun V hV => ⟨hV.cell wc1 hwg, hV.cell wc2 hwg⟩
  clear hwg
  generalize tb (M.wd ws 0) = X0 at *
  rw [hn] at *
  have t0' : X0.toList = _ := beq_iff_eq.1 t0
  clear t0 hn hlen wc1 wc2
  generalize M.wd ws 1 = y1 at *
  generalize M.wd ws 2 = y2 at *
  have HVEC := Lib.hid (fun W => vectorOf_spec (w := W) y1 hw1)
  have HNUM := Lib.hid (fun W => numberOf_spec (w := W) y2 (by omega))
  have HNE : Hid (∀ V B d, w.grownBy V none → SeesN .i64 V B (M.vec y1) → Calls Tryz.prog 44 #[.pointer (some ⟨g, 0, none⟩), .slice B (M.vec y1).length d, .int .i64 (M.numOr y2)] V (RunGot 47 V g (S, M.nearT S y1 y2))) := Lib.hid fun V B d hV hE => desk_near (HS2.out.on hV) y1 y2 hE
  go_wp2_with fail
  go_region_held3 (fun V => V.cell? ⟨wb, wo + 1, none⟩ = some (.string (tb y1)) ∧ V.cell? ⟨wb, wo + 2, none⟩ = some (.string (tb y2)))
    (first | exact HSG.out _ S7.out | exact HSX.out _ S6.out | exact HSX.out _ S5.out | exact HSX.out _ (gb_drew (gb_refl _ _)) | exact HSX.out _ (gb_refl _ _))
    (first
      | (go_at_call 42; refine (HVEC.out w1.drew).mono ?_; rintro e w5 ⟨Av, cv, rfl, hcv, hav, hg⟩; have S5 : Hid (w1.grownBy w5 none) := Lib.hid (gb_trans (gb_drew (gb_refl _ none)) hg); have SV := Lib.hid hav; clear hg hav)
      | (go_at_call 41; refine (HNUM.out w5).mono ?_; rintro e w6 ⟨rfl, hg⟩; have S6 : Hid (w1.grownBy w6 none) := Lib.hid (gb_trans S5.out hg); have SV6 := Lib.hid (SV.out.on hg); clear hg)
      | (go_at_call 44; refine (HNE.out w6 _ _ (gb_trans G.out S6.out) SV6.out).mono ?_; intro e w7 hr; have HR := Lib.hid (hr.on (gb_trans G.out S6.out)); obtain ⟨rfl, _, hg⟩ := hr; have S7 : Hid (w1.grownBy w7 (some g)) := Lib.hid (gb_trans (gb_some S6.out _) hg); clear hg)
      | fail)
  go_wp2_with fail
  go_ret
  exact HR.out
set_option maxHeartbeats 2000000 in
theorem line_put {w : World} {g : Nat} {S : M.Ses} (h : SesAt 47 w g S) (l : List UInt8) (hs : l.length ≤ 1048576)
    (h0 : M.wd (M.cut 32 l) 0 = M.tPut) (hn : (M.cut 32 l).length = 4) :
    Calls Tryz.prog 25 #[.pointer (some ⟨g, 0, none⟩), .string (tb l)] w (RunGot 47 w g (M.putS S (M.wd (M.cut 32 l) 1) (M.wd (M.cut 32 l) 2) (M.wd (M.cut 32 l) 3))) := by
  have HS2 := Lib.hid h
  obtain ⟨A, c, hrow, hcl, hrd, hgood⟩ := h
  have HROW := Lib.hid hrow
  have HRD := Lib.hid hrd
  have HGOOD := Lib.hid hgood
  have HSPLIT : Hid (Calls Tryz.prog 39 #[.string (tb l), .int .u8 32] w (GotT w (M.cut 32 l))) := Lib.hid (splitAt_spec (w := w) l 32 hs)
  have hn1 := step_words l
  have hnl := M.cut_len 32 l
  have hll := (M.validStore_of hgood.1).1
  have HMEM := Lib.hid (fun x (hx : x ∈ M.cut 32 l) => M.cut_mem hx)
  clear hrow hrd hgood
  have t0 := text_eq h0
  unfold M.tPut at t0
  clear h0
  generalize M.cut 32 l = ws at *
  generalize tb l = LN at *
  go_enter Tryz.func25, Tryz.ntmps25
  go_wp2_with fail
  refine HSPLIT.out.mono ?_
  rintro e w1 ⟨B, d, rfl, hd, hown, hg⟩
  have OW := Lib.hid hown
  have G := Lib.hid hg
  have ROW1 := Lib.hid (HROW.out.grown hg (by simp))
  have HLT := Lib.hid HROW.out.lt
  clear hown hg HSPLIT
  obtain ⟨wb, wo, rfl, hwb, hc0⟩ := OW.out.sees.wd_at (j := 0) (by omega)
  rw [Nat.add_zero] at hc0
  have hlen := hn
  obtain ⟨_, _, he1, _, wc1⟩ := OW.out.sees.wd_at (j := 1) (by rw [hlen]; decide)
  injection he1 with he1
  injection he1 with hea1 heb1
  subst hea1 heb1
  have hw1 : (M.wd ws 1).length ≤ 1048575 := by
    have h9 := HMEM.out (M.wd ws 1) (by rw [wd_eq (by rw [hlen]; decide)]; exact List.getElem_mem _)
    rw [hlen] at h9
    omega
  obtain ⟨_, _, he2, _, wc2⟩ := OW.out.sees.wd_at (j := 2) (by rw [hlen]; decide)
  injection he2 with he2
  injection he2 with hea2 heb2
  subst hea2 heb2
  have hw2 : (M.wd ws 2).length ≤ 1048575 := by
    have h9 := HMEM.out (M.wd ws 2) (by rw [wd_eq (by rw [hlen]; decide)]; exact List.getElem_mem _)
    rw [hlen] at h9
    omega
  obtain ⟨_, _, he3, _, wc3⟩ := OW.out.sees.wd_at (j := 3) (by rw [hlen]; decide)
  injection he3 with he3
  injection he3 with hea3 heb3
  subst hea3 heb3
  have hw3 : (M.wd ws 3).length ≤ 1048575 := by
    have h9 := HMEM.out (M.wd ws 3) (by rw [wd_eq (by rw [hlen]; decide)]; exact List.getElem_mem _)
    rw [hlen] at h9
    omega
  have hwg : some wb ≠ some g := by
    have h9 := (OW.out.lt wb rfl).1
    have := HLT.out
    intro e; injection e with e; omega
  have HSG : Hid (∀ V, w1.grownBy V (some g) → V.cell? ⟨wb, wo + 1, none⟩ = some (.string (tb (M.wd ws 1))) ∧ V.cell? ⟨wb, wo + 2, none⟩ = some (.string (tb (M.wd ws 2))) ∧ V.cell? ⟨wb, wo + 3, none⟩ = some (.string (tb (M.wd ws 3)))) := Lib.hid fun V hV => ⟨hV.cell wc1 hwg, hV.cell wc2 hwg, hV.cell wc3 hwg⟩
  clear hwg
  generalize tb (M.wd ws 0) = X0 at *
  rw [hn] at *
  have t0' : X0.toList = _ := beq_iff_eq.1 t0
  clear t0 hn hlen wc1 wc2 wc3
  generalize M.wd ws 1 = y1 at *
  generalize M.wd ws 2 = y2 at *
  generalize M.wd ws 3 = y3 at *
  have hy1 : y1.length ≤ 1048576 := by omega
  have hy3 : y3.length ≤ 1048576 := by omega
  have HVEC := Lib.hid (fun W => vectorOf_spec (w := W) y2 hw2)
  have HNUM : Hid (∀ (y : List UInt8), y.length ≤ 1048576 → ∀ V, Calls Tryz.prog 41 #[.string (tb y)] V fun e w' => e = .returned (.int .i64 (M.numOr y)) ∧ V.grownBy w' none) := Lib.hid fun y hy V => numberOf_spec y hy
  have HPU : Hid (∀ V B d, w.grownBy V none → (M.vec y2).length ≤ d → SeesN .i64 V B (M.vec y2) → Calls Tryz.prog 40 #[.pointer (some ⟨g, 0, none⟩), .int .i64 (M.numOr y1), .slice B (M.vec y2).length d, .int .i64 (M.numOr y3)] V (RunGot 47 V g (M.putS S y1 y2 y3))) := Lib.hid fun V B d hV hd hE => desk_put (HS2.out.on hV) y1 y2 y3 hE hd
  go_wp2_with fail
  go_region_held3 (fun V => V.cell? ⟨wb, wo + 1, none⟩ = some (.string (tb y1)) ∧ V.cell? ⟨wb, wo + 2, none⟩ = some (.string (tb y2)) ∧ V.cell? ⟨wb, wo + 3, none⟩ = some (.string (tb y3)))
    (first | exact HSG.out _ S8.out | exact HSG.out _ (gb_some S7.out _) | exact HSG.out _ (gb_some S6.out _) | exact HSG.out _ (gb_some S5.out _) | exact HSG.out _ (gb_drew (gb_refl _ _)) | exact HSG.out _ (gb_refl _ _))
    (first
      | (go_at_call 41; refine Calls.mono (HNUM.out _ (by assumption) w1.drew) ?_; rintro e w5 ⟨rfl, hg⟩; have S5 : Hid (w1.grownBy w5 none) := Lib.hid (gb_trans (gb_drew (gb_refl _ none)) hg); clear hg)
      | (go_at_call 42; refine (HVEC.out w5).mono ?_; rintro e w6 ⟨Av, cv, rfl, hcv, hav, hg⟩; have S6 : Hid (w1.grownBy w6 none) := Lib.hid (gb_trans S5.out hg); have SV := Lib.hid hav; have HCV := Lib.hid hcv; clear hg hav hcv)
      | (go_at_call 41; refine Calls.mono (HNUM.out _ (by assumption) w6) ?_; rintro e w7 ⟨rfl, hg⟩; have S7 : Hid (w1.grownBy w7 none) := Lib.hid (gb_trans S6.out hg); have SV7 := Lib.hid (SV.out.on hg); clear hg)
      | (go_at_call 40; refine (HPU.out w7 _ _ (gb_trans G.out S7.out) HCV.out SV7.out).mono ?_; intro e w8 hr; have HR := Lib.hid (hr.on (gb_trans G.out S7.out)); obtain ⟨rfl, _, hg⟩ := hr; have S8 : Hid (w1.grownBy w8 (some g)) := Lib.hid (gb_trans (gb_some S7.out _) hg); clear hg)
      | fail)
  go_wp2_with fail
  go_ret
  exact HR.out
end Go.Proofs.YtibbpbbgmgdpdaaGreatDoor

namespace Go.Proofs.YtibbpbbgmgdpdaaGreatDoor
open Go.RowKit
set_option linter.unusedVariables false
set_option linter.unusedSimpArgs false
set_option maxRecDepth 100000

theorem line_spec {w : World} {g : Nat} {S : M.Ses} (h : SesAt 47 w g S) (l : List UInt8) (hs : l.length ≤ 1048576) :
    Calls Tryz.prog 25 #[.pointer (some ⟨g, 0, none⟩), .string (tb l)] w (RunGot 47 w g (M.step S l)) := by
  by_cases h1 : M.wd (M.cut 32 l) 0 = M.tPut
  · have hp : l ≠ M.tPair := not_pair (by rw [h1]; decide)
    have hq : l ≠ M.tCount := not_count (by rw [h1]; decide)
    by_cases hn : (M.cut 32 l).length = 4
    · have e : M.step S l = M.putS S (M.wd (M.cut 32 l) 1) (M.wd (M.cut 32 l) 2) (M.wd (M.cut 32 l) 3) := by unfold M.step; simp only; rw [if_pos ⟨h1, hn⟩]
      rw [e]; exact line_put h l hs h1 hn
    · have e : M.step S l = (S, M.tWhat) := by
        unfold M.step; simp only
        rw [if_neg (fun x => hn x.2), h1, if_neg (by rintro ⟨x, _⟩; revert x; decide), if_neg (by rintro ⟨x, _⟩; revert x; decide), if_neg (by rintro ⟨x, _⟩; revert x; decide), if_neg hp, if_neg hq]
      rw [e]; exact line_put_wrong h l hs h1 hn hp hq
  by_cases h2 : M.wd (M.cut 32 l) 0 = M.tDrop
  · have hp : l ≠ M.tPair := not_pair (by rw [h2]; decide)
    have hq : l ≠ M.tCount := not_count (by rw [h2]; decide)
    by_cases hn : (M.cut 32 l).length = 2
    · have e : M.step S l = M.dropS S (M.wd (M.cut 32 l) 1) := by unfold M.step; simp only; rw [if_neg (fun x => h1 x.1), if_pos ⟨h2, hn⟩]
      rw [e]; exact line_drop h l hs h2 hn
    · have e : M.step S l = (S, M.tWhat) := by
        unfold M.step; simp only
        rw [if_neg (fun x => h1 x.1), if_neg (fun x => hn x.2), h2, if_neg (by rintro ⟨x, _⟩; revert x; decide), if_neg (by rintro ⟨x, _⟩; revert x; decide), if_neg hp, if_neg hq]
      rw [e]; exact line_drop_wrong h l hs h2 hn hp hq
  by_cases h3 : M.wd (M.cut 32 l) 0 = M.tNear
  · have hp : l ≠ M.tPair := not_pair (by rw [h3]; decide)
    have hq : l ≠ M.tCount := not_count (by rw [h3]; decide)
    by_cases hn : (M.cut 32 l).length = 3
    · have e : M.step S l = (S, M.nearT S (M.wd (M.cut 32 l) 1) (M.wd (M.cut 32 l) 2)) := by unfold M.step; simp only; rw [if_neg (fun x => h1 x.1), if_neg (fun x => h2 x.1), if_pos ⟨h3, hn⟩]
      rw [e]; exact line_near h l hs h3 hn
    · have e : M.step S l = (S, M.tWhat) := by
        unfold M.step; simp only
        rw [if_neg (fun x => h1 x.1), if_neg (fun x => h2 x.1), if_neg (fun x => hn x.2), h3, if_neg (by rintro ⟨x, _⟩; revert x; decide), if_neg hp, if_neg hq]
      rw [e]; exact line_near_wrong h l hs h3 hn hp hq
  by_cases h4 : M.wd (M.cut 32 l) 0 = M.tKind
  · have hp : l ≠ M.tPair := not_pair (by rw [h4]; decide)
    have hq : l ≠ M.tCount := not_count (by rw [h4]; decide)
    by_cases hn : (M.cut 32 l).length = 2
    · have e : M.step S l = M.kindS S (M.wd (M.cut 32 l) 1) := by unfold M.step; simp only; rw [if_neg (fun x => h1 x.1), if_neg (fun x => h2 x.1), if_neg (fun x => h3 x.1), if_pos ⟨h4, hn⟩]
      rw [e]; exact line_kind h l hs h4 hn
    · have e : M.step S l = (S, M.tWhat) := by
        unfold M.step; simp only
        rw [if_neg (fun x => h1 x.1), if_neg (fun x => h2 x.1), if_neg (fun x => h3 x.1), if_neg (fun x => hn x.2), if_neg hp, if_neg hq]
      rw [e]; exact line_kind_wrong h l hs h4 hn hp hq
  have e0 : M.step S l = if l = M.tPair then (S, M.pairT S) else if l = M.tCount then (S, Lib.itoa S.list.length) else (S, M.tWhat) := by
    unfold M.step; simp only
    rw [if_neg (fun x => h1 x.1), if_neg (fun x => h2 x.1), if_neg (fun x => h3 x.1), if_neg (fun x => h4 x.1)]
  by_cases h5 : l = M.tPair
  · rw [e0, if_pos h5, h5]; exact line_pair h
  by_cases h6 : l = M.tCount
  · rw [e0, if_neg h5, if_pos h6, h6]; exact line_count h
  · rw [e0, if_neg h5, if_neg h6]; exact line_other h l hs h1 h2 h3 h4 h5 h6
set_option maxHeartbeats 1000000 in
theorem RunSession_spec {w : World} {A : Option Addr} {c : Nat} {ls : List (List UInt8)} (D : SeesT w A ls) (hx : ∀ x ∈ ls, x.length ≤ 1048576) (hn9 : ls.length ≤ 1073741824) :
    Calls Tryz.prog 11 #[.slice A ls.length c] w fun e w' => e = .returned (.string (tb (M.session ls))) ∧ w.grownBy w' none := by
  have HD := Lib.hid D
  have HX := Lib.hid hx
  obtain ⟨n, hn⟩ : ∃ n, n = ls.length := ⟨_, rfl⟩
  rw [← hn] at hn9 ⊢
  have HN := Lib.hid hn
  obtain ⟨m, hm⟩ : ∃ m : Nat, m = min n 20 := ⟨_, rfl⟩
  have hmn : m ≤ n := by omega
  have hm20 : m ≤ 20 := by omega
  have HMIN := Lib.hid hm
  have HALL : Hid (M.texts M.start (ls.take m) = M.session ls) := Lib.hid (by
    unfold M.session
    by_cases h : n ≤ 20
    · rw [show m = n by omega, List.take_of_length_le (by omega), List.take_of_length_le (by omega)]
    · rw [show m = 20 by omega])
  clear D hx hn hm
  have R0 : Hid (Row ((w.alloc (.cells #[] 59)).alloc (.cells #[.slice (some ⟨w.heap.size, 0, none⟩) 0 0, .int .i64 1] 47)) (w.heap.size + 1) 47 [.slice (some ⟨w.heap.size, 0, none⟩) 0 0, .int .i64 1]) := Lib.hid (by
    have h := Row.new (w.alloc (.cells #[] 59)) 47 (ca := #[.slice (some ⟨w.heap.size, 0, none⟩) 0 0, .int .i64 1]) (cs := [.slice (some ⟨w.heap.size, 0, none⟩) 0 0, .int .i64 1]) rfl
    rw [show (w.alloc (.cells #[] 59)).heap.size = w.heap.size + 1 by simp] at h
    exact h)
  go_enter Tryz.func11, Tryz.ntmps11
  go_wp2_with fail
  go_loopw [4, 5] (fun v iv wr => ∃ k : Nat, k ≤ m ∧ v = .string (tb (M.texts M.start (ls.take k))) ∧ iv = .int .i64 k ∧ SesAt 47 wr (w.heap.size + 1) (M.states M.start (ls.take k)) ∧ w.grownBy wr none) (fun _ i _ => m - (intOf i).toNat)
  case atStart => exact ⟨0, Nat.zero_le _, rfl, rfl, ses_start R0.out, gb_alloc (World.grownBy_alloc w _ none) _⟩
  case round =>
    obtain ⟨k, hk, rfl, rfl, hses, hg⟩ := hrel
    have HS := Lib.hid hses
    have G := Lib.hid hg
    clear hses hg R0
    by_cases hlt : k < m
    · have hkl : k < ls.length := by rw [← HN.out]; omega
      obtain ⟨b, o, rfl, hb, hcell⟩ := (HD.out.on G.out).at_ hkl
      have HTX := Lib.hid (texts_succ hkl)
      have HST := Lib.hid (states_succ hkl)
      have HRUN := Lib.hid (line_spec HS.out ls[k] (HX.out _ (List.getElem_mem hkl)))
      have hgood : M.Good (M.states M.start (ls.take k)) := by obtain ⟨_, _, _, _, _, h⟩ := HS.out; exact h
      have hle := M.step_le hgood ls[k]
      have htl := M.texts_le M.good_start (ls.take k)
      have hkk : (ls.take k).length ≤ 20 := by rw [List.length_take]; omega
      have kn : (k : Int) < n := by omega
      have k20 : (k : Int) < 20 := by omega
      have k0 : (0 : Int) ≤ k := by omega
      generalize M.step (M.states M.start (ls.take k)) ls[k] = r at *
      generalize ls[k] = x at *
      have a1 := fun W => tb_add Tryz.prog W (M.texts M.start (ls.take k)) r.2 (by omega)
      have a2 := fun W => tb_add Tryz.prog W (M.texts M.start (ls.take k) ++ r.2) [10] (by simp only [List.length_append, List.length_cons, List.length_nil]; omega)
      rw [show tb [10] = (⟨#[10]⟩ : ByteArray) from rfl, List.append_assoc, ← HTX.out] at a2
      generalize tb (M.texts M.start (ls.take k) ++ r.2) = Y1 at *
      clear hgood hle htl hkk hkl
      go_wp2_with fail
      refine HRUN.out.mono ?_
      rintro e w2 ⟨rfl, hses, hg⟩
      have HS2 := Lib.hid hses
      have G2 := Lib.hid (gb_new G.out hg (fun b hb => .inl (by injection hb with hb; omega)))
      clear hses hg
      go_wp2_with fail
      go_roundw
      case rel => exact ⟨k + 1, by omega, rfl, by go_num, by rw [HST.out]; exact HS2.out, G2.out⟩
      case measure => simp [intOf]; omega
    · obtain rfl : k = m := by omega
      rw [HALL.out]
      by_cases hkn : k < n
      · have kn : (k : Int) < n := by omega
        have k20 : ¬ (k : Int) < 20 := by have := HMIN.out; omega
        clear hlt
        go_wp2_with fail
        go_ret
        exact ⟨rfl, G.out⟩
      · have kn : ¬ (k : Int) < n := by omega
        clear hlt
        go_wp2_with fail
        go_ret
        exact ⟨rfl, G.out⟩
end Go.Proofs.YtibbpbbgmgdpdaaGreatDoor
