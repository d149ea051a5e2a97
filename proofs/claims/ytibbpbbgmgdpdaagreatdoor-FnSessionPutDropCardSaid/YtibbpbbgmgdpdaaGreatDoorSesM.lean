/- The walk of a line of the program's session. The walk of a line of the program's session: put, drop, kind. The walk of a line of the program's session: near. The walk of the program's RunSession. -/
import Derived.Test.YtibbpbbgmgdpdaaGreatDoorSesR
import Derived.Test.YtibbpbbgmgdpdaaGreatDoorSesO
import Derived.Test.YtibbpbbgmgdpdaaGreatDoorRepW
import Derived.Test.YtibbpbbgmgdpdaaGreatDoorNearI
import Derived.Deep.RegionHeld3
import Derived.Deep.RegionWith
import Derived.Test.YtibbpbbgmgdpdaaGreatDoorHitB
import Derived.Deep.AppendLies
namespace Go.Proofs.YtibbpbbgmgdpdaaGreatDoor
open Go.RowKit
set_option linter.unusedVariables false
set_option linter.unusedSimpArgs false
set_option maxRecDepth 100000

/-- a session lies in a box: its list, its kind -/
def SesAt (t : TypeId) (w : World) (g : Nat) (S : M.Ses) : Prop :=
  ∃ A c, Row w g t [.slice A S.list.length c, .int .i64 S.kind] ∧ S.list.length ≤ c ∧ RdI w (g + 1) w.heap.size A S.list ∧ M.Good S
theorem SesAt.on {t : TypeId} {w w' : World} {g : Nat} {S : M.Ses} (h : SesAt t w g S) (hg : w.grownBy w' none) : SesAt t w' g S := by
  obtain ⟨A, c, hr, hc, hd, hS⟩ := h
  exact ⟨A, c, hr.grown hg (by simp), hc, (hd.keep hg (Nat.le_refl _)).wide (Nat.le_refl _) hg.size, hS⟩
/-- what a line does -/
def RunGot (t : TypeId) (w : World) (g : Nat) (r : M.Ses × List UInt8) (e : Ending) (w' : World) : Prop := e = .returned (.string (tb r.2)) ∧ SesAt t w' g r.1 ∧ w.grownBy w' (some g)
theorem step_words (l : List UInt8) : 1 ≤ (M.cut 32 l).length := by
  obtain ⟨w, t, e⟩ := M.cut_ne 32 l
  rw [e]; simp
theorem wd_eq {ws : List (List UInt8)} {j : Nat} (h : j < ws.length) : M.wd ws j = ws[j] := by simp [M.wd, List.getD_eq_getElem?_getD, List.getElem?_eq_getElem h]
theorem text_eq {a b : List UInt8} (h : a = b) : ((tb a).toList == b) = true := by rw [tb_toList, h]; simp
theorem text_ne {a b : List UInt8} (h : a ≠ b) : ((tb a).toList == b) = false := by rw [tb_toList]; exact beq_eq_false_iff_ne.2 h
theorem SeesT.wd_at {w : World} {A : Option Addr} {xs : List (List UInt8)} (h : SeesT w A xs) {j : Nat} (hj : j < xs.length) : ∃ b o, A = some ⟨b, o, none⟩ ∧ b < w.heap.size ∧ w.cell? ⟨b, o + j, none⟩ = some (.string (tb (M.wd xs j))) := by
  rw [wd_eq hj]
  exact h.at_ hj
theorem RunGot.same {t : TypeId} {w w' : World} {g : Nat} {S : M.Ses} {x : List UInt8} {X : ByteArray} (h : SesAt t w g S) (hg : w.grownBy w' none) (hX : X = tb x) : RunGot t w g (S, x) (.returned (.string X)) w' :=
  ⟨by rw [hX], h.on hg, gb_some hg _⟩
set_option maxHeartbeats 1000000 in
theorem run_other {w : World} {g : Nat} {S : M.Ses} (h : SesAt 43 w g S) (hl : LibOk w) (l : List UInt8) (hs : l.length ≤ 1048576)
    (h1 : M.wd (M.cut 32 l) 0 ≠ M.tPut) (h2 : M.wd (M.cut 32 l) 0 ≠ M.tDrop) (h3 : M.wd (M.cut 32 l) 0 ≠ M.tNear) (h4 : M.wd (M.cut 32 l) 0 ≠ M.tKind) (h5 : l ≠ M.tPair) (h6 : l ≠ M.tCount) :
    Calls Tryz.prog 24 #[.pointer (some ⟨g, 0, none⟩), .string (tb l)] w (RunGot 43 w g (S, M.tWhat)) := by
  have HS2 := Lib.hid h
  obtain ⟨A, c, hrow, hcl, hrd, hgood⟩ := h
  have HROW := Lib.hid hrow
  have HRD := Lib.hid hrd
  have HGOOD := Lib.hid hgood
  have HL := Lib.hid hl
  have HSPLIT := Lib.hid (split_any hl l 32 hs)
  have hn1 := step_words l
  have hnl := M.cut_len 32 l
  have hll := (M.validStore_of hgood.1).1
  have HMEM := Lib.hid (fun x (hx : x ∈ M.cut 32 l) => M.cut_mem hx)
  clear hrow hrd hgood hl
  have t1 := text_ne h1
  have t2 := text_ne h2
  have t3 := text_ne h3
  have t4 := text_ne h4
  have t5 := text_ne h5
  have t6 := text_ne h6
  clear h1 h2 h3 h4 h5 h6
  unfold M.tPut at t1
  unfold M.tDrop at t2
  unfold M.tNear at t3
  unfold M.tKind at t4
  unfold M.tPair at t5
  unfold M.tCount at t6
  generalize M.cut 32 l = ws at *
  generalize tb l = LN at *
  go_enter Tryz.func24, Tryz.ntmps24
  go_wp2_with fail
  refine HSPLIT.out.mono ?_
  rintro e w1 ⟨B, d, rfl, hd, hown, hg⟩
  have OW := Lib.hid hown
  have G := Lib.hid hg
  have ROW1 := Lib.hid (HROW.out.grown hg (by simp))
  have HLT := Lib.hid HROW.out.lt
  clear hown hg HSPLIT
  obtain ⟨wb, wo, rfl, hwb, hc0⟩ := OW.out.sees.wd_at (j := 0) (by omega)
  rw [Nat.add_zero] at hc0
  generalize tb (M.wd ws 0) = X0 at *
  generalize ws.length = n at *
  go_wp2_with fail
  go_ret
  exact RunGot.same HS2.out G.out rfl
set_option maxHeartbeats 1000000 in
theorem run_put_wrong {w : World} {g : Nat} {S : M.Ses} (h : SesAt 43 w g S) (hl : LibOk w) (l : List UInt8) (hs : l.length ≤ 1048576)
    (h0 : M.wd (M.cut 32 l) 0 = M.tPut) (hn : (M.cut 32 l).length ≠ 4) (h5 : l ≠ M.tPair) (h6 : l ≠ M.tCount) :
    Calls Tryz.prog 24 #[.pointer (some ⟨g, 0, none⟩), .string (tb l)] w (RunGot 43 w g (S, M.tWhat)) := by
  have HS2 := Lib.hid h
  obtain ⟨A, c, hrow, hcl, hrd, hgood⟩ := h
  have HROW := Lib.hid hrow
  have HRD := Lib.hid hrd
  have HGOOD := Lib.hid hgood
  have HL := Lib.hid hl
  have HSPLIT := Lib.hid (split_any hl l 32 hs)
  have hn1 := step_words l
  have hnl := M.cut_len 32 l
  have hll := (M.validStore_of hgood.1).1
  have HMEM := Lib.hid (fun x (hx : x ∈ M.cut 32 l) => M.cut_mem hx)
  clear hrow hrd hgood hl
  have t0 := text_eq h0
  have hn' : (((M.cut 32 l).length : Int) == 4) = false := beq_eq_false_iff_ne.2 (by omega)
  have t5 := text_ne h5
  have t6 := text_ne h6
  clear h0 h5 h6 hn
  unfold M.tPut at t0
  unfold M.tPair at t5
  unfold M.tCount at t6
  generalize M.cut 32 l = ws at *
  generalize tb l = LN at *
  go_enter Tryz.func24, Tryz.ntmps24
  go_wp2_with fail
  refine HSPLIT.out.mono ?_
  rintro e w1 ⟨B, d, rfl, hd, hown, hg⟩
  have OW := Lib.hid hown
  have G := Lib.hid hg
  have ROW1 := Lib.hid (HROW.out.grown hg (by simp))
  have HLT := Lib.hid HROW.out.lt
  clear hown hg HSPLIT
  obtain ⟨wb, wo, rfl, hwb, hc0⟩ := OW.out.sees.wd_at (j := 0) (by omega)
  rw [Nat.add_zero] at hc0
  generalize tb (M.wd ws 0) = X0 at *
  generalize ws.length = n at *
  have t0' : X0.toList = _ := beq_iff_eq.1 t0
  clear t0
  go_wp2_with fail
  go_ret
  exact RunGot.same HS2.out G.out rfl
set_option maxHeartbeats 1000000 in
theorem run_drop_wrong {w : World} {g : Nat} {S : M.Ses} (h : SesAt 43 w g S) (hl : LibOk w) (l : List UInt8) (hs : l.length ≤ 1048576)
    (h0 : M.wd (M.cut 32 l) 0 = M.tDrop) (hn : (M.cut 32 l).length ≠ 2) (h5 : l ≠ M.tPair) (h6 : l ≠ M.tCount) :
    Calls Tryz.prog 24 #[.pointer (some ⟨g, 0, none⟩), .string (tb l)] w (RunGot 43 w g (S, M.tWhat)) := by
  have HS2 := Lib.hid h
  obtain ⟨A, c, hrow, hcl, hrd, hgood⟩ := h
  have HROW := Lib.hid hrow
  have HRD := Lib.hid hrd
  have HGOOD := Lib.hid hgood
  have HL := Lib.hid hl
  have HSPLIT := Lib.hid (split_any hl l 32 hs)
  have hn1 := step_words l
  have hnl := M.cut_len 32 l
  have hll := (M.validStore_of hgood.1).1
  have HMEM := Lib.hid (fun x (hx : x ∈ M.cut 32 l) => M.cut_mem hx)
  clear hrow hrd hgood hl
  have t0 := text_eq h0
  have hn' : (((M.cut 32 l).length : Int) == 2) = false := beq_eq_false_iff_ne.2 (by omega)
  have t5 := text_ne h5
  have t6 := text_ne h6
  clear h0 h5 h6 hn
  unfold M.tDrop at t0
  unfold M.tPair at t5
  unfold M.tCount at t6
  generalize M.cut 32 l = ws at *
  generalize tb l = LN at *
  go_enter Tryz.func24, Tryz.ntmps24
  go_wp2_with fail
  refine HSPLIT.out.mono ?_
  rintro e w1 ⟨B, d, rfl, hd, hown, hg⟩
  have OW := Lib.hid hown
  have G := Lib.hid hg
  have ROW1 := Lib.hid (HROW.out.grown hg (by simp))
  have HLT := Lib.hid HROW.out.lt
  clear hown hg HSPLIT
  obtain ⟨wb, wo, rfl, hwb, hc0⟩ := OW.out.sees.wd_at (j := 0) (by omega)
  rw [Nat.add_zero] at hc0
  generalize tb (M.wd ws 0) = X0 at *
  generalize ws.length = n at *
  have t0' : X0.toList = _ := beq_iff_eq.1 t0
  clear t0
  go_wp2_with fail
  go_ret
  exact RunGot.same HS2.out G.out rfl
set_option maxHeartbeats 1000000 in
theorem run_near_wrong {w : World} {g : Nat} {S : M.Ses} (h : SesAt 43 w g S) (hl : LibOk w) (l : List UInt8) (hs : l.length ≤ 1048576)
    (h0 : M.wd (M.cut 32 l) 0 = M.tNear) (hn : (M.cut 32 l).length ≠ 3) (h5 : l ≠ M.tPair) (h6 : l ≠ M.tCount) :
    Calls Tryz.prog 24 #[.pointer (some ⟨g, 0, none⟩), .string (tb l)] w (RunGot 43 w g (S, M.tWhat)) := by
  have HS2 := Lib.hid h
  obtain ⟨A, c, hrow, hcl, hrd, hgood⟩ := h
  have HROW := Lib.hid hrow
  have HRD := Lib.hid hrd
  have HGOOD := Lib.hid hgood
  have HL := Lib.hid hl
  have HSPLIT := Lib.hid (split_any hl l 32 hs)
  have hn1 := step_words l
  have hnl := M.cut_len 32 l
  have hll := (M.validStore_of hgood.1).1
  have HMEM := Lib.hid (fun x (hx : x ∈ M.cut 32 l) => M.cut_mem hx)
  clear hrow hrd hgood hl
  have t0 := text_eq h0
  have hn' : (((M.cut 32 l).length : Int) == 3) = false := beq_eq_false_iff_ne.2 (by omega)
  have t5 := text_ne h5
  have t6 := text_ne h6
  clear h0 h5 h6 hn
  unfold M.tNear at t0
  unfold M.tPair at t5
  unfold M.tCount at t6
  generalize M.cut 32 l = ws at *
  generalize tb l = LN at *
  go_enter Tryz.func24, Tryz.ntmps24
  go_wp2_with fail
  refine HSPLIT.out.mono ?_
  rintro e w1 ⟨B, d, rfl, hd, hown, hg⟩
  have OW := Lib.hid hown
  have G := Lib.hid hg
  have ROW1 := Lib.hid (HROW.out.grown hg (by simp))
  have HLT := Lib.hid HROW.out.lt
  clear hown hg HSPLIT
  obtain ⟨wb, wo, rfl, hwb, hc0⟩ := OW.out.sees.wd_at (j := 0) (by omega)
  rw [Nat.add_zero] at hc0
  generalize tb (M.wd ws 0) = X0 at *
  generalize ws.length = n at *
  have t0' : X0.toList = _ := beq_iff_eq.1 t0
  clear t0
  go_wp2_with fail
  go_ret
  exact RunGot.same HS2.out G.out rfl
set_option maxHeartbeats 1000000 in
theorem run_kind_wrong {w : World} {g : Nat} {S : M.Ses} (h : SesAt 43 w g S) (hl : LibOk w) (l : List UInt8) (hs : l.length ≤ 1048576)
    (h0 : M.wd (M.cut 32 l) 0 = M.tKind) (hn : (M.cut 32 l).length ≠ 2) (h5 : l ≠ M.tPair) (h6 : l ≠ M.tCount) :
    Calls Tryz.prog 24 #[.pointer (some ⟨g, 0, none⟩), .string (tb l)] w (RunGot 43 w g (S, M.tWhat)) := by
  have HS2 := Lib.hid h
  obtain ⟨A, c, hrow, hcl, hrd, hgood⟩ := h
  have HROW := Lib.hid hrow
  have HRD := Lib.hid hrd
  have HGOOD := Lib.hid hgood
  have HL := Lib.hid hl
  have HSPLIT := Lib.hid (split_any hl l 32 hs)
  have hn1 := step_words l
  have hnl := M.cut_len 32 l
  have hll := (M.validStore_of hgood.1).1
  have HMEM := Lib.hid (fun x (hx : x ∈ M.cut 32 l) => M.cut_mem hx)
  clear hrow hrd hgood hl
  have t0 := text_eq h0
  have hn' : (((M.cut 32 l).length : Int) == 2) = false := beq_eq_false_iff_ne.2 (by omega)
  have t5 := text_ne h5
  have t6 := text_ne h6
  clear h0 h5 h6 hn
  unfold M.tKind at t0
  unfold M.tPair at t5
  unfold M.tCount at t6
  generalize M.cut 32 l = ws at *
  generalize tb l = LN at *
  go_enter Tryz.func24, Tryz.ntmps24
  go_wp2_with fail
  refine HSPLIT.out.mono ?_
  rintro e w1 ⟨B, d, rfl, hd, hown, hg⟩
  have OW := Lib.hid hown
  have G := Lib.hid hg
  have ROW1 := Lib.hid (HROW.out.grown hg (by simp))
  have HLT := Lib.hid HROW.out.lt
  clear hown hg HSPLIT
  obtain ⟨wb, wo, rfl, hwb, hc0⟩ := OW.out.sees.wd_at (j := 0) (by omega)
  rw [Nat.add_zero] at hc0
  generalize tb (M.wd ws 0) = X0 at *
  generalize ws.length = n at *
  have t0' : X0.toList = _ := beq_iff_eq.1 t0
  clear t0
  go_wp2_with fail
  go_ret
  exact RunGot.same HS2.out G.out rfl

theorem cut_pair : M.cut 32 M.tPair = [M.tPair] := by decide
theorem cut_count : M.cut 32 M.tCount = [M.tCount] := by decide
set_option maxHeartbeats 1000000 in
theorem run_count {w : World} {g : Nat} {S : M.Ses} (h : SesAt 43 w g S) (hl : LibOk w) :
    Calls Tryz.prog 24 #[.pointer (some ⟨g, 0, none⟩), .string (tb M.tCount)] w (RunGot 43 w g (S, Lib.itoa S.list.length)) := by
  have HS2 := Lib.hid h
  obtain ⟨l, hlq⟩ : ∃ l, l = M.tCount := ⟨_, rfl⟩
  have hs : l.length ≤ 1048576 := by rw [hlq]; decide
  rw [← hlq]
  obtain ⟨A, c, hrow, hcl, hrd, hgood⟩ := h
  have HROW := Lib.hid hrow
  have HRD := Lib.hid hrd
  have HGOOD := Lib.hid hgood
  have HL := Lib.hid hl
  have HSPLIT := Lib.hid (split_any hl l 32 hs)
  have hn1 := step_words l
  have hnl := M.cut_len 32 l
  have hll := (M.validStore_of hgood.1).1
  have HMEM := Lib.hid (fun x (hx : x ∈ M.cut 32 l) => M.cut_mem hx)
  clear hrow hrd hgood hl
  have t0 : (tb (M.wd (M.cut 32 l) 0)).toList = [99, 111, 117, 110, 116] := by rw [hlq, cut_count, tb_toList]; rfl
  have t6 : (tb l).toList = [99, 111, 117, 110, 116] := by rw [hlq, tb_toList]; rfl
  clear hlq
  generalize M.cut 32 l = ws at *
  generalize tb l = LN at *
  go_enter Tryz.func24, Tryz.ntmps24
  go_wp2_with fail
  refine HSPLIT.out.mono ?_
  rintro e w1 ⟨B, d, rfl, hd, hown, hg⟩
  have OW := Lib.hid hown
  have G := Lib.hid hg
  have ROW1 := Lib.hid (HROW.out.grown hg (by simp))
  have HLT := Lib.hid HROW.out.lt
  clear hown hg HSPLIT
  obtain ⟨wb, wo, rfl, hwb, hc0⟩ := OW.out.sees.wd_at (j := 0) (by omega)
  rw [Nat.add_zero] at hc0
  have HI := Lib.hid (fun W (hW : w.grownBy W none) => itoa_any (HL.out.on hW) (S.list.length : Int) (by omega) (by omega))
  have q0 := ROW1.out.cell 0
  have q1 := ROW1.out.cell 1
  simp only [List.getElem?_cons_zero, List.getElem?_cons_succ] at q0 q1
  have HCE : Hid (∀ V, w1.grownBy V none → V.cell? ⟨g, 0, none⟩ = some (.slice A S.list.length c) ∧ V.cell? ⟨g, 1, none⟩ = some (.int .i64 S.kind)) := Lib.hid fun V hV => ⟨hV.cell q0 (by simp), hV.cell q1 (by simp)⟩
  generalize tb (M.wd ws 0) = X0 at *
  generalize ws.length = n at *
  generalize S.list.length = m at *
  go_wp2_with fail
  refine (HI.out _ G.out).mono ?_
  rintro e w2 ⟨rfl, hg⟩
  have G2 := Lib.hid (gb_trans G.out hg)
  clear hg
  go_wp2_with fail
  go_ret
  exact RunGot.same HS2.out G2.out rfl
set_option maxHeartbeats 1000000 in
theorem run_pair {w : World} {g : Nat} {S : M.Ses} (h : SesAt 43 w g S) (hl : LibOk w) :
    Calls Tryz.prog 24 #[.pointer (some ⟨g, 0, none⟩), .string (tb M.tPair)] w (RunGot 43 w g (S, M.pairT S)) := by
  have HS2 := Lib.hid h
  obtain ⟨l, hlq⟩ : ∃ l, l = M.tPair := ⟨_, rfl⟩
  have hs : l.length ≤ 1048576 := by rw [hlq]; decide
  rw [← hlq]
  obtain ⟨A, c, hrow, hcl, hrd, hgood⟩ := h
  have HROW := Lib.hid hrow
  have HRD := Lib.hid hrd
  have HGOOD := Lib.hid hgood
  have HL := Lib.hid hl
  have HSPLIT := Lib.hid (split_any hl l 32 hs)
  have hn1 := step_words l
  have hnl := M.cut_len 32 l
  have hll := (M.validStore_of hgood.1).1
  have HMEM := Lib.hid (fun x (hx : x ∈ M.cut 32 l) => M.cut_mem hx)
  clear hrow hrd hgood hl
  have t0 : (tb (M.wd (M.cut 32 l) 0)).toList = [112, 97, 105, 114] := by rw [hlq, cut_pair, tb_toList]; rfl
  have t6 : (tb l).toList = [112, 97, 105, 114] := by rw [hlq, tb_toList]; rfl
  clear hlq
  have HPT : Hid (M.pairT S = match M.closest S.list S.kind with | some (a, b) => Lib.itoa a.key ++ 32 :: Lib.itoa b.key | none => M.tNo) := Lib.hid rfl
  have HKEY := Lib.hid (fun p => M.closest_keys HGOOD.out (p := p))
  generalize M.cut 32 l = ws at *
  generalize tb l = LN at *
  go_enter Tryz.func24, Tryz.ntmps24
  go_wp2_with fail
  refine HSPLIT.out.mono ?_
  rintro e w1 ⟨B, d, rfl, hd, hown, hg⟩
  have OW := Lib.hid hown
  have G := Lib.hid hg
  have ROW1 := Lib.hid (HROW.out.grown hg (by simp))
  have HLT := Lib.hid HROW.out.lt
  clear hown hg HSPLIT
  obtain ⟨wb, wo, rfl, hwb, hc0⟩ := OW.out.sees.wd_at (j := 0) (by omega)
  rw [Nat.add_zero] at hc0
  have HSEE : Hid (∀ V, w1.grownBy V none → SeesI V A S.list) := Lib.hid fun V hV => ⟨((HRD.out.keep (gb_trans G.out hV) (Nat.le_refl _)).wide (Nat.zero_le _) (gb_trans G.out hV).size), Small.of_valid HGOOD.out.1⟩
  have HCP : Hid (∀ V, w1.grownBy V none → Calls Tryz.prog 38 #[.slice A S.list.length c, .int .i64 S.kind] V (PairGot V (M.closest S.list S.kind))) := Lib.hid fun V hV => ClosestPair_impl (HSEE.out V hV) hcl HGOOD.out.1 HGOOD.out.2.1 HGOOD.out.2.2
  have q0 := ROW1.out.cell 0
  have q1 := ROW1.out.cell 1
  simp only [List.getElem?_cons_zero, List.getElem?_cons_succ] at q0 q1
  have HCE : Hid (∀ V, w1.grownBy V none → V.cell? ⟨g, 0, none⟩ = some (.slice A S.list.length c) ∧ V.cell? ⟨g, 1, none⟩ = some (.int .i64 S.kind)) := Lib.hid fun V hV => ⟨hV.cell q0 (by simp), hV.cell q1 (by simp)⟩
  generalize tb (M.wd ws 0) = X0 at *
  generalize ws.length = n at *
  cases hcp : M.closest S.list S.kind with
  | none =>
    rw [hcp] at HCP HPT
    have HX : Hid (M.pairT S = M.tNo) := Lib.hid HPT.out
    clear hcp HPT
    generalize S.list.length = m at *
    go_wp2_with fail
    go_region_held3 (fun V => V.cell? ⟨g, 0, none⟩ = some (.slice A m c) ∧ V.cell? ⟨g, 1, none⟩ = some (.int .i64 S.kind))
      (first | exact HCE.out _ S5.out | exact HCE.out _ (gb_drew (gb_refl _ _)) | exact HCE.out _ (gb_refl _ _))
      (first
        | (go_at_call 38; refine (HCP.out w1.drew (gb_drew (gb_refl _ _))).mono ?_; rintro e w5 ⟨rfl, hg⟩; have S5 : Hid (w1.grownBy w5 none) := Lib.hid (gb_trans (gb_drew (gb_refl _ none)) hg); clear hg)
        | fail)
    go_wp2_with fail
    go_ret
    exact RunGot.same HS2.out (gb_trans G.out S5.out) (by rw [HX.out]; rfl)
  | some p =>
    obtain ⟨p1, p2⟩ := p
    have hk := HKEY.out _ hcp
    rw [hcp] at HCP HPT
    have HX : Hid (M.pairT S = Lib.itoa p1.key ++ 32 :: Lib.itoa p2.key) := Lib.hid HPT.out
    have HCP2 : Hid (∀ V, w1.grownBy V none → Calls Tryz.prog 38 #[.slice A S.list.length c, .int .i64 S.kind] V fun e w' => e = .returned (.tuple #[.int .i64 p1.key, .int .i64 p2.key, .bool true]) ∧ V.grownBy w' none) := Lib.hid fun V hV => HCP.out V hV
    clear hcp HPT HCP
    have HCP := HCP2
    clear HCP2 HKEY
    obtain ⟨⟨k1, k2⟩, ⟨k3, k4⟩⟩ := hk
    have k1 : 1 ≤ p1.key := k1
    have k2 : p1.key ≤ 99 := k2
    have k3 : 1 ≤ p2.key := k3
    have k4 : p2.key ≤ 99 := k4
    have HIA := Lib.hid (fun W (hW : w.grownBy W none) => itoa_any (HL.out.on hW) p1.key (by omega) (by omega))
    have HIB := Lib.hid (fun W (hW : w.grownBy W none) => itoa_any (HL.out.on hW) p2.key (by omega) (by omega))
    have a1 := fun W => tb_add Tryz.prog W (Lib.itoa p1.key) [32] (by have := M.itoa_le (n := p1.key) (by omega); simp only [List.length_cons, List.length_nil]; omega)
    have a2 := fun W => tb_add Tryz.prog W (Lib.itoa p1.key ++ [32]) (Lib.itoa p2.key) (by have := M.itoa_le (n := p1.key) (by omega); have := M.itoa_le (n := p2.key) (by omega); simp only [List.length_append, List.length_cons, List.length_nil]; omega)
    rw [show tb [32] = (⟨#[32]⟩ : ByteArray) from rfl] at a1
    rw [show Lib.itoa p1.key ++ [32] ++ Lib.itoa p2.key = Lib.itoa p1.key ++ 32 :: Lib.itoa p2.key by simp] at a2
    generalize tb (Lib.itoa p1.key ++ [32]) = Y1 at *
    generalize S.list.length = m at *
    go_wp2_with fail
    go_region_held3 (fun V => V.cell? ⟨g, 0, none⟩ = some (.slice A m c) ∧ V.cell? ⟨g, 1, none⟩ = some (.int .i64 S.kind))
      (first | exact HCE.out _ S5.out | exact HCE.out _ (gb_drew (gb_refl _ _)) | exact HCE.out _ (gb_refl _ _))
      (first
        | (go_at_call 38; refine (HCP.out w1.drew (gb_drew (gb_refl _ _))).mono ?_; rintro e w5 ⟨rfl, hg⟩; have S5 : Hid (w1.grownBy w5 none) := Lib.hid (gb_trans (gb_drew (gb_refl _ none)) hg); clear hg)
        | fail)
    have G5 := Lib.hid (gb_trans G.out S5.out)
    go_wp2_with fail
    refine (HIA.out _ G5.out).mono ?_
    rintro e w6 ⟨rfl, hg⟩
    have G6 := Lib.hid (gb_trans G5.out hg)
    clear hg
    go_wp2_with fail
    refine (HIB.out _ G6.out).mono ?_
    rintro e w7 ⟨rfl, hg⟩
    have G7 := Lib.hid (gb_trans G6.out hg)
    clear hg
    go_wp2_with fail
    go_ret
    exact RunGot.same HS2.out G7.out (by rw [HX.out])
end Go.Proofs.YtibbpbbgmgdpdaaGreatDoor

namespace Go.Proofs.YtibbpbbgmgdpdaaGreatDoor
open Go.RowKit
set_option linter.unusedVariables false
set_option linter.unusedSimpArgs false
set_option maxRecDepth 100000

theorem SesAt.setKind {t : TypeId} {w : World} {g : Nat} {A : Option Addr} {c : Nat} {S : M.Ses} {k : Int} (h : Row w g t [.slice A S.list.length c, .int .i64 S.kind]) (hc : S.list.length ≤ c) (hr : RdI w (g + 1) w.heap.size A S.list) (hG : M.Good ⟨S.list, k⟩) :
    SesAt t (w.setCell ⟨g, 1, none⟩ (.int .i64 k)) g ⟨S.list, k⟩ :=
  ⟨A, c, h.set_ 1 _, hc, (hr.agree (fun b hb1 hb2 => Below.heap_setCell w ⟨g, 1, none⟩ _ b (by show b ≠ g; omega))).wide (Nat.le_refl _) (by simp [World.setCell]), hG⟩
theorem SesAt.setList {t : TypeId} {w : World} {g : Nat} {A A' : Option Addr} {n c c' : Nat} {k : Int} {K : List M.Item} (h : Row w g t [.slice A n c, .int .i64 k]) (hc : K.length ≤ c') (hr : RdI w (g + 1) w.heap.size A' K) (hG : M.Good ⟨K, k⟩) :
    SesAt t (w.setCell ⟨g, 0, none⟩ (.slice A' K.length c')) g ⟨K, k⟩ :=
  ⟨A', c', h.set_ 0 _, hc, (hr.agree (fun b hb1 hb2 => Below.heap_setCell w ⟨g, 0, none⟩ _ b (by show b ≠ g; omega))).wide (Nat.le_refl _) (by simp [World.setCell]), hG⟩
set_option maxHeartbeats 1000000 in
theorem run_kind {w : World} {g : Nat} {S : M.Ses} (h : SesAt 43 w g S) (hl : LibOk w) (l : List UInt8) (hs : l.length ≤ 1048576)
    (h0 : M.wd (M.cut 32 l) 0 = M.tKind) (hn : (M.cut 32 l).length = 2) :
    Calls Tryz.prog 24 #[.pointer (some ⟨g, 0, none⟩), .string (tb l)] w (RunGot 43 w g (M.kindS S (M.wd (M.cut 32 l) 1))) := by
  have HS2 := Lib.hid h
  obtain ⟨A, c, hrow, hcl, hrd, hgood⟩ := h
  have HROW := Lib.hid hrow
  have HRD := Lib.hid hrd
  have HGOOD := Lib.hid hgood
  have HL := Lib.hid hl
  have HSPLIT := Lib.hid (split_any hl l 32 hs)
  have hn1 := step_words l
  have hnl := M.cut_len 32 l
  have hll := (M.validStore_of hgood.1).1
  have HMEM := Lib.hid (fun x (hx : x ∈ M.cut 32 l) => M.cut_mem hx)
  clear hrow hrd hgood hl
  have t0 := text_eq h0
  unfold M.tKind at t0
  clear h0
  generalize M.cut 32 l = ws at *
  have HKS : Hid (M.kindS S (M.wd ws 1) = if M.inR (M.numOr (M.wd ws 1)) 1 4 = true then (⟨S.list, M.numOr (M.wd ws 1)⟩, M.tOk) else (S, M.tNo)) := Lib.hid rfl
  generalize tb l = LN at *
  go_enter Tryz.func24, Tryz.ntmps24
  go_wp2_with fail
  refine HSPLIT.out.mono ?_
  rintro e w1 ⟨B, d, rfl, hd, hown, hg⟩
  have OW := Lib.hid hown
  have G := Lib.hid hg
  have ROW1 := Lib.hid (HROW.out.grown hg (by simp))
  have HLT := Lib.hid HROW.out.lt
  clear hown hg HSPLIT
  obtain ⟨wb, wo, rfl, hwb, hc0⟩ := OW.out.sees.wd_at (j := 0) (by omega)
  rw [Nat.add_zero] at hc0
  have hlen := hn
  obtain ⟨_, _, he1, _, wc1⟩ := OW.out.sees.wd_at (j := 1) (by rw [hlen]; decide)
  injection he1 with he1
  injection he1 with hea1 heb1
  subst hea1 heb1
  have hw1 : (M.wd ws 1).length ≤ 1048575 := by
    have h9 := HMEM.out (M.wd ws 1) (by rw [wd_eq (by rw [hlen]; decide)]; exact List.getElem_mem _)
    rw [hlen] at h9
    omega
  have HNUM := Lib.hid (fun W (hW : w.grownBy W none) => numberOf_impl (HL.out.on hW) (M.wd ws 1) (by omega))
  have HK := Lib.hid (fun W => isKind_any (M.numOr (M.wd ws 1)) W)
  generalize tb (M.wd ws 0) = X0 at *
  generalize tb (M.wd ws 1) = X1 at *
  obtain ⟨z, hz⟩ : ∃ z, z = M.numOr (M.wd ws 1) := ⟨_, rfl⟩
  rw [← hz] at HNUM HK HKS
  clear hz
  rw [hn] at *
  have t0' : X0.toList = _ := beq_iff_eq.1 t0
  clear t0 hn hlen
  by_cases hk : M.inR z 1 4 = true
  · have hkr := M.inR_true hk
    rw [hk] at HK
    have HX : Hid (M.kindS S (M.wd ws 1) = (⟨S.list, z⟩, M.tOk)) := Lib.hid (by rw [HKS.out, if_pos hk])
    clear hk HKS
    go_wp2_with fail
    refine (HNUM.out _ G.out).mono ?_
    rintro e w2 ⟨rfl, hg⟩
    have G2 := Lib.hid (gb_trans G.out hg)
    clear hg
    have R2 := Lib.hid (HROW.out.grown G2.out (by simp))
    have q1 := R2.out.cell 1
    have qf := R2.out.frozen 1
    simp only [List.getElem?_cons_zero, List.getElem?_cons_succ] at q1
    go_wp2_with (go_at_call 37; refine (HK.out _).mono ?_; rintro e w' ⟨rfl, rfl⟩)
    go_ret
    refine ⟨by rw [HX.out]; rfl, ?_, gb_setCell (gb_some G2.out _) (.inr rfl) _⟩
    rw [HX.out]
    exact SesAt.setKind R2.out hcl ((HRD.out.keep G2.out (Nat.le_refl _)).wide (Nat.le_refl _) G2.out.size) ⟨HGOOD.out.1, hkr.1, hkr.2⟩
  · have hkf : M.inR z 1 4 = false := by simpa using hk
    rw [hkf] at HK
    have HX : Hid (M.kindS S (M.wd ws 1) = (S, M.tNo)) := Lib.hid (by rw [HKS.out, if_neg hk])
    clear hk hkf HKS
    go_wp2_with fail
    refine (HNUM.out _ G.out).mono ?_
    rintro e w2 ⟨rfl, hg⟩
    have G2 := Lib.hid (gb_trans G.out hg)
    clear hg
    go_wp2_with (go_at_call 37; refine (HK.out _).mono ?_; rintro e w' ⟨rfl, rfl⟩)
    go_ret
    rw [HX.out]
    exact RunGot.same HS2.out G2.out rfl
set_option maxHeartbeats 2000000 in
theorem run_drop {w : World} {g : Nat} {S : M.Ses} (h : SesAt 43 w g S) (hl : LibOk w) (l : List UInt8) (hs : l.length ≤ 1048576)
    (h0 : M.wd (M.cut 32 l) 0 = M.tDrop) (hn : (M.cut 32 l).length = 2) :
    Calls Tryz.prog 24 #[.pointer (some ⟨g, 0, none⟩), .string (tb l)] w (RunGot 43 w g (M.dropS S (M.wd (M.cut 32 l) 1))) := by
  have HS2 := Lib.hid h
  obtain ⟨A, c, hrow, hcl, hrd, hgood⟩ := h
  have HROW := Lib.hid hrow
  have HRD := Lib.hid hrd
  have HGOOD := Lib.hid hgood
  have HL := Lib.hid hl
  have HSPLIT := Lib.hid (split_any hl l 32 hs)
  have hn1 := step_words l
  have hnl := M.cut_len 32 l
  have hll := (M.validStore_of hgood.1).1
  have HMEM := Lib.hid (fun x (hx : x ∈ M.cut 32 l) => M.cut_mem hx)
  clear hrow hrd hgood hl
  have t0 := text_eq h0
  unfold M.tDrop at t0
  clear h0
  generalize M.cut 32 l = ws at *
  have HKS : Hid (M.dropS S (M.wd ws 1) = match M.DropItem S.list (M.numOr (M.wd ws 1)) with | some L => (⟨L, S.kind⟩, M.tOk) | none => (S, M.tNo)) := Lib.hid rfl
  generalize tb l = LN at *
  go_enter Tryz.func24, Tryz.ntmps24
  go_wp2_with fail
  refine HSPLIT.out.mono ?_
  rintro e w1 ⟨B, d, rfl, hd, hown, hg⟩
  have OW := Lib.hid hown
  have G := Lib.hid hg
  have ROW1 := Lib.hid (HROW.out.grown hg (by simp))
  have HLT := Lib.hid HROW.out.lt
  clear hown hg HSPLIT
  obtain ⟨wb, wo, rfl, hwb, hc0⟩ := OW.out.sees.wd_at (j := 0) (by omega)
  rw [Nat.add_zero] at hc0
  have hlen := hn
  obtain ⟨_, _, he1, _, wc1⟩ := OW.out.sees.wd_at (j := 1) (by rw [hlen]; decide)
  injection he1 with he1
  injection he1 with hea1 heb1
  subst hea1 heb1
  have hw1 : (M.wd ws 1).length ≤ 1048575 := by
    have h9 := HMEM.out (M.wd ws 1) (by rw [wd_eq (by rw [hlen]; decide)]; exact List.getElem_mem _)
    rw [hlen] at h9
    omega
  have q0 := ROW1.out.cell 0
  have q1 := ROW1.out.cell 1
  simp only [List.getElem?_cons_zero, List.getElem?_cons_succ] at q0 q1
  have HCE : Hid (∀ V, w1.grownBy V none → V.cell? ⟨g, 0, none⟩ = some (.slice A S.list.length c) ∧ V.cell? ⟨g, 1, none⟩ = some (.int .i64 S.kind)) := Lib.hid fun V hV => ⟨hV.cell q0 (by simp), hV.cell q1 (by simp)⟩
  have HSEE : Hid (∀ V, w1.grownBy V none → SeesI V A S.list) := Lib.hid fun V hV => ⟨((HRD.out.keep (gb_trans G.out hV) (Nat.le_refl _)).wide (Nat.zero_le _) (gb_trans G.out hV).size), Small.of_valid HGOOD.out.1⟩
  have HNUM := Lib.hid (fun W (hW : w1.grownBy W none) => numberOf_impl (HL.out.on (gb_trans G.out hW)) (M.wd ws 1) (by omega))
  generalize tb (M.wd ws 0) = X0 at *
  generalize tb (M.wd ws 1) = X1 at *
  obtain ⟨z, hz⟩ : ∃ z, z = M.numOr (M.wd ws 1) := ⟨_, rfl⟩
  rw [← hz] at HNUM HKS
  clear hz
  have HDROP := Lib.hid (fun V (hV : w1.grownBy V none) => DropItem_impl (c := c) (q := z) (HSEE.out V hV))
  have HSX : Hid (∀ V, w1.grownBy V none → (V.cell? ⟨g, 0, none⟩ = some (.slice A S.list.length c) ∧ V.cell? ⟨wb, wo + 1, none⟩ = some (.string X1))) := Lib.hid fun V hV => ⟨(HCE.out V hV).1, hV.cell wc1 (by simp)⟩
  rw [hn] at *
  have t0' : X0.toList = _ := beq_iff_eq.1 t0
  clear t0 hn hlen wc1 q0 q1 HCE
  generalize hm : S.list.length = m at *
  have HMM := Lib.hid hm
  clear hm
  obtain ⟨r, hr⟩ : ∃ r, r = M.DropItem S.list z := ⟨_, rfl⟩
  rw [← hr] at HDROP HKS
  cases r with
  | none =>
    have HX : Hid (M.dropS S (M.wd ws 1) = (S, M.tNo)) := Lib.hid HKS.out
    clear hr HKS
    go_wp2_with fail
    go_region_held3 (fun V => V.cell? ⟨g, 0, none⟩ = some (.slice A m c) ∧ V.cell? ⟨wb, wo + 1, none⟩ = some (.string X1))
      (first | exact HSX.out _ S5.out | exact HSX.out _ S6.out | exact HSX.out _ (gb_drew (gb_refl _ _)) | exact HSX.out _ (gb_refl _ _))
      (first
        | (go_at_call 31; refine (HNUM.out w1.drew (gb_drew (gb_refl _ _))).mono ?_; rintro e w5 ⟨rfl, hg⟩; have S5 : Hid (w1.grownBy w5 none) := Lib.hid (gb_trans (gb_drew (gb_refl _ none)) hg); clear hg)
        | (go_at_call 32; refine (HDROP.out w5 S5.out).mono ?_; rintro e w6 hp; obtain ⟨A6, c6, rfl, hc6, ho6, hn6, hg6⟩ := PutDone.got hp; have S6 : Hid (w1.grownBy w6 none) := Lib.hid (gb_trans S5.out hg6); clear hp ho6 hc6 hg6 hn6)
        | fail)
    go_wp2_with fail
    go_ret
    rw [HX.out]
    exact RunGot.same HS2.out (gb_trans G.out S6.out) rfl
  | some K =>
    have HX : Hid (M.dropS S (M.wd ws 1) = (⟨K, S.kind⟩, M.tOk)) := Lib.hid HKS.out
    have HV : Hid (M.validStore K = true) := Lib.hid (M.DropItem_valid hr.symm)
    clear hr HKS
    go_wp2_with fail
    go_region_held3 (fun V => V.cell? ⟨g, 0, none⟩ = some (.slice A m c) ∧ V.cell? ⟨wb, wo + 1, none⟩ = some (.string X1))
      (first | exact HSX.out _ S5.out | exact HSX.out _ S6.out | exact HSX.out _ (gb_drew (gb_refl _ _)) | exact HSX.out _ (gb_refl _ _))
      (first
        | (go_at_call 31; refine (HNUM.out w1.drew (gb_drew (gb_refl _ _))).mono ?_; rintro e w5 ⟨rfl, hg⟩; have S5 : Hid (w1.grownBy w5 none) := Lib.hid (gb_trans (gb_drew (gb_refl _ none)) hg); clear hg)
        | (go_at_call 32; refine (HDROP.out w5 S5.out).mono ?_; rintro e w6 hp; obtain ⟨A6, c6, rfl, hc6, ho6, hn6, hg6⟩ := PutDone.got hp; have S6 : Hid (w1.grownBy w6 none) := Lib.hid (gb_trans S5.out hg6); have HO := Lib.hid ho6; have HC := Lib.hid hc6; clear hp ho6 hc6 hg6 hn6)
        | fail)
    have G6 := Lib.hid (gb_trans G.out S6.out)
    have R6 := Lib.hid (HROW.out.grown G6.out (by simp))
    have p0 := R6.out.cell 0
    have pf := R6.out.frozen 0
    simp only [List.getElem?_cons_zero] at p0
    have hgs : g + 1 ≤ w5.heap.size := by have := HLT.out; have := (gb_trans G.out S5.out).size; omega
    go_wp2_with fail
    go_ret
    refine ⟨by rw [HX.out]; rfl, ?_, gb_setCell (gb_some G6.out _) (.inr rfl) _⟩
    rw [HX.out]
    exact SesAt.setList R6.out HC.out ((OwnItems.rd HO.out).rd.wide hgs (Nat.le_refl _)) ⟨HV.out, HGOOD.out.2.1, HGOOD.out.2.2⟩

theorem putItem_vec {L K : List M.Item} {x : M.Item} (h : M.PutItem L x = some K) : M.isVec x.pos = true := by
  unfold M.PutItem at h
  split at h
  · rename_i hh
    have := hh.2.1
    unfold M.validItem at this
    simp only [Bool.and_eq_true] at this
    exact this.1.2
  · cases h
set_option maxHeartbeats 2000000 in
theorem run_put {w : World} {g : Nat} {S : M.Ses} (h : SesAt 43 w g S) (hl : LibOk w) (l : List UInt8) (hs : l.length ≤ 1048576)
    (h0 : M.wd (M.cut 32 l) 0 = M.tPut) (hn : (M.cut 32 l).length = 4) :
    Calls Tryz.prog 24 #[.pointer (some ⟨g, 0, none⟩), .string (tb l)] w (RunGot 43 w g (M.putS S (M.wd (M.cut 32 l) 1) (M.wd (M.cut 32 l) 2) (M.wd (M.cut 32 l) 3))) := by
  have HS2 := Lib.hid h
  obtain ⟨A, c, hrow, hcl, hrd, hgood⟩ := h
  have HROW := Lib.hid hrow
  have HRD := Lib.hid hrd
  have HGOOD := Lib.hid hgood
  have HL := Lib.hid hl
  have HSPLIT := Lib.hid (split_any hl l 32 hs)
  have hn1 := step_words l
  have hnl := M.cut_len 32 l
  have hll := (M.validStore_of hgood.1).1
  have HMEM := Lib.hid (fun x (hx : x ∈ M.cut 32 l) => M.cut_mem hx)
  clear hrow hrd hgood hl
  have t0 := text_eq h0
  unfold M.tPut at t0
  clear h0
  generalize M.cut 32 l = ws at *
  have HKS : Hid (M.putS S (M.wd ws 1) (M.wd ws 2) (M.wd ws 3) = match M.PutItem S.list ⟨M.numOr (M.wd ws 1), M.vec (M.wd ws 2), M.numOr (M.wd ws 3)⟩ with | some L => (⟨L, S.kind⟩, M.tOk) | none => (S, M.tNo)) := Lib.hid rfl
  generalize tb l = LN at *
  go_enter Tryz.func24, Tryz.ntmps24
  go_wp2_with fail
  refine HSPLIT.out.mono ?_
  rintro e w1 ⟨B, d, rfl, hd, hown, hg⟩
  have OW := Lib.hid hown
  have G := Lib.hid hg
  have ROW1 := Lib.hid (HROW.out.grown hg (by simp))
  have HLT := Lib.hid HROW.out.lt
  clear hown hg HSPLIT
  obtain ⟨wb, wo, rfl, hwb, hc0⟩ := OW.out.sees.wd_at (j := 0) (by omega)
  rw [Nat.add_zero] at hc0
  have hlen := hn
  obtain ⟨_, _, he1, _, wc1⟩ := OW.out.sees.wd_at (j := 1) (by rw [hlen]; decide)
  injection he1 with he1
  injection he1 with hea1 heb1
  subst hea1 heb1
  have hw1 : (M.wd ws 1).length ≤ 1048575 := by
    have h9 := HMEM.out (M.wd ws 1) (by rw [wd_eq (by rw [hlen]; decide)]; exact List.getElem_mem _)
    rw [hlen] at h9
    omega
  obtain ⟨_, _, he2, _, wc2⟩ := OW.out.sees.wd_at (j := 2) (by rw [hlen]; decide)
  injection he2 with he2
  injection he2 with hea2 heb2
  subst hea2 heb2
  have hw2 : (M.wd ws 2).length ≤ 1048575 := by
    have h9 := HMEM.out (M.wd ws 2) (by rw [wd_eq (by rw [hlen]; decide)]; exact List.getElem_mem _)
    rw [hlen] at h9
    omega
  obtain ⟨_, _, he3, _, wc3⟩ := OW.out.sees.wd_at (j := 3) (by rw [hlen]; decide)
  injection he3 with he3
  injection he3 with hea3 heb3
  subst hea3 heb3
  have hw3 : (M.wd ws 3).length ≤ 1048575 := by
    have h9 := HMEM.out (M.wd ws 3) (by rw [wd_eq (by rw [hlen]; decide)]; exact List.getElem_mem _)
    rw [hlen] at h9
    omega
  have HVEC := Lib.hid (readVector_impl (w := w1) (HL.out.on G.out) (M.wd ws 2) hw2)
  generalize tb (M.wd ws 0) = X0 at *
  rw [hn] at *
  have t0' : X0.toList = _ := beq_iff_eq.1 t0
  clear t0 hn hlen
  generalize tb (M.wd ws 2) = X2 at *
  generalize M.wd ws 1 = y1 at *
  generalize M.wd ws 2 = y2 at *
  generalize M.wd ws 3 = y3 at *
  go_wp2_with fail
  refine HVEC.out.mono ?_
  rintro e w2 ⟨Av, cv, bv, rfl, hbv, hcv, hav, hg⟩
  have SV := Lib.hid hav
  have HBV := Lib.hid hbv
  have G2 := Lib.hid (gb_trans G.out hg)
  have ROW2 := Lib.hid (ROW1.out.grown hg (by simp))
  have d1 : w2.cell? ⟨wb, wo + 1, none⟩ = some (.string (tb y1)) := hg.cell wc1 (by simp)
  have d3 : w2.cell? ⟨wb, wo + 3, none⟩ = some (.string (tb y3)) := hg.cell wc3 (by simp)
  have hvl := hav.2
  have HCV := Lib.hid hcv
  clear hav hbv hg wc1 wc2 wc3 HVEC hcv
  have q0 := ROW2.out.cell 0
  simp only [List.getElem?_cons_zero] at q0
  have HSX : Hid (∀ V, w2.grownBy V none → (V.cell? ⟨g, 0, none⟩ = some (.slice A S.list.length c) ∧ V.cell? ⟨wb, wo + 1, none⟩ = some (.string (tb y1)) ∧ V.cell? ⟨wb, wo + 3, none⟩ = some (.string (tb y3)))) := Lib.hid fun V hV => ⟨hV.cell q0 (by simp), hV.cell d1 (by simp), hV.cell d3 (by simp)⟩
  have HSEE : Hid (∀ V, w2.grownBy V none → SeesI V A S.list) := Lib.hid fun V hV => ⟨((HRD.out.keep (gb_trans G2.out hV) (Nat.le_refl _)).wide (Nat.zero_le _) (gb_trans G2.out hV).size), Small.of_valid HGOOD.out.1⟩
  have hy1 : y1.length ≤ 1048576 := by omega
  have hy3 : y3.length ≤ 1048576 := by omega
  obtain ⟨vn, hvn⟩ : ∃ vn, vn = (M.vec y2).length := ⟨_, rfl⟩
  have HPUT : Hid (∀ V, w2.grownBy V none → Calls Tryz.prog 30 #[.slice A S.list.length c, .agg #[.int .i64 (M.numOr y1), .slice Av vn cv, .int .i64 (M.numOr y3)]] V (PutDone V (M.PutItem S.list ⟨M.numOr y1, M.vec y2, M.numOr y3⟩))) := Lib.hid fun V hV => by
    have D := HSEE.out V hV
    have h9 := SV.out.on hV
    have hx : RdInts .i64 V 0 V.heap.size (.slice Av vn cv) (M.vec y2) := ⟨Av, cv, by rw [hvn], HCV.out, h9.1⟩
    exact PutItem_impl (c := c) (x := ⟨M.numOr y1, M.vec y2, M.numOr y3⟩) D hx h9.2
  have HNUM : Hid (∀ (y : List UInt8), y.length ≤ 1048576 → ∀ V, w2.grownBy V none → Calls Tryz.prog 31 #[.string (tb y)] V fun e w' => e = .returned (.int .i64 (M.numOr y)) ∧ V.grownBy w' none) := Lib.hid fun y hy V hV => numberOf_impl (HL.out.on (gb_trans G2.out hV)) y hy
  rw [← hvn]
  clear q0 d1 d3 hvn
  generalize hm : S.list.length = m at *
  have HMM := Lib.hid hm
  clear hm
  obtain ⟨r, hr⟩ : ∃ r, r = M.PutItem S.list ⟨M.numOr y1, M.vec y2, M.numOr y3⟩ := ⟨_, rfl⟩
  rw [← hr] at HPUT HKS
  cases r with
  | none =>
    have HX : Hid (M.putS S y1 y2 y3 = (S, M.tNo)) := Lib.hid HKS.out
    clear hr HKS
    cases bv
    all_goals
      go_wp2_with fail
      go_region_held3 (fun V => V.cell? ⟨g, 0, none⟩ = some (.slice A m c) ∧ V.cell? ⟨wb, wo + 1, none⟩ = some (.string (tb y1)) ∧ V.cell? ⟨wb, wo + 3, none⟩ = some (.string (tb y3)))
        (first | exact HSX.out _ S5.out | exact HSX.out _ S6.out | exact HSX.out _ S7.out | exact HSX.out _ (gb_drew (gb_refl _ _)) | exact HSX.out _ (gb_refl _ _))
        (first
          | (go_at_call 31; refine Calls.mono (HNUM.out _ (by assumption) w2.drew (gb_drew (gb_refl _ _))) ?_; rintro e w5 ⟨rfl, hg⟩; have S5 : Hid (w2.grownBy w5 none) := Lib.hid (gb_trans (gb_drew (gb_refl _ none)) hg); clear hg)
          | (go_at_call 31; refine Calls.mono (HNUM.out _ (by assumption) w5 S5.out) ?_; rintro e w6 ⟨rfl, hg⟩; have S6 : Hid (w2.grownBy w6 none) := Lib.hid (gb_trans S5.out hg); clear hg)
          | (go_at_call 30; refine Calls.mono (HPUT.out w6 S6.out) ?_; rintro e w7 hp; obtain ⟨A7, c7, rfl, hc7, ho7, hn7, hg7⟩ := PutDone.got hp; have S7 : Hid (w2.grownBy w7 none) := Lib.hid (gb_trans S6.out hg7); clear hp ho7 hc7 hg7 hn7)
          | fail)
      go_wp2_with fail
      go_ret
      rw [HX.out]
      exact RunGot.same HS2.out (gb_trans G2.out S7.out) rfl
  | some K =>
    have HX : Hid (M.putS S y1 y2 y3 = (⟨K, S.kind⟩, M.tOk)) := Lib.hid HKS.out
    have HV : Hid (M.validStore K = true) := Lib.hid (M.PutItem_valid hr.symm)
    have hbt : bv = true := by rw [HBV.out]; exact putItem_vec hr.symm
    subst hbt
    replace G := G2
    clear hr HKS
    go_wp2_with fail
    go_region_held3 (fun V => V.cell? ⟨g, 0, none⟩ = some (.slice A m c) ∧ V.cell? ⟨wb, wo + 1, none⟩ = some (.string (tb y1)) ∧ V.cell? ⟨wb, wo + 3, none⟩ = some (.string (tb y3)))
      (first | exact HSX.out _ S5.out | exact HSX.out _ S6.out | exact HSX.out _ S7.out | exact HSX.out _ (gb_drew (gb_refl _ _)) | exact HSX.out _ (gb_refl _ _))
      (first
        | (go_at_call 31; refine Calls.mono (HNUM.out _ (by assumption) w2.drew (gb_drew (gb_refl _ _))) ?_; rintro e w5 ⟨rfl, hg⟩; have S5 : Hid (w2.grownBy w5 none) := Lib.hid (gb_trans (gb_drew (gb_refl _ none)) hg); clear hg)
        | (go_at_call 31; refine Calls.mono (HNUM.out _ (by assumption) w5 S5.out) ?_; rintro e w6 ⟨rfl, hg⟩; have S6 : Hid (w2.grownBy w6 none) := Lib.hid (gb_trans S5.out hg); clear hg)
        | (go_at_call 30; refine Calls.mono (HPUT.out w6 S6.out) ?_; rintro e w7 hp; obtain ⟨A7, c7, rfl, hc7, ho7, hn7, hg7⟩ := PutDone.got hp; have S7 : Hid (w2.grownBy w7 none) := Lib.hid (gb_trans S6.out hg7); have HO := Lib.hid ho7; have HC := Lib.hid hc7; clear hp ho7 hc7 hg7 hn7)
        | fail)
    have G6 := Lib.hid (gb_trans G.out S7.out)
    have R6 := Lib.hid (HROW.out.grown G6.out (by simp))
    have p0 := R6.out.cell 0
    have pf := R6.out.frozen 0
    simp only [List.getElem?_cons_zero] at p0
    have hgs : g + 1 ≤ w6.heap.size := by have := HLT.out; have := (gb_trans G.out S6.out).size; omega
    go_wp2_with fail
    go_ret
    refine ⟨by rw [HX.out]; rfl, ?_, gb_setCell (gb_some G6.out _) (.inr rfl) _⟩
    rw [HX.out]
    exact SesAt.setList R6.out HC.out ((OwnItems.rd HO.out).rd.wide hgs (Nat.le_refl _)) ⟨HV.out, HGOOD.out.2.1, HGOOD.out.2.2⟩
end Go.Proofs.YtibbpbbgmgdpdaaGreatDoor

namespace Go.Proofs.YtibbpbbgmgdpdaaGreatDoor
open Go.RowKit
set_option linter.unusedVariables false
set_option linter.unusedSimpArgs false
set_option maxRecDepth 100000

set_option maxHeartbeats 2000000 in
theorem run_near {w : World} {g : Nat} {S : M.Ses} (h : SesAt 43 w g S) (hl : LibOk w) (l : List UInt8) (hs : l.length ≤ 1048576)
    (h0 : M.wd (M.cut 32 l) 0 = M.tNear) (hn : (M.cut 32 l).length = 3) :
    Calls Tryz.prog 24 #[.pointer (some ⟨g, 0, none⟩), .string (tb l)] w (RunGot 43 w g (S, M.nearT S (M.wd (M.cut 32 l) 1) (M.wd (M.cut 32 l) 2))) := by
  have HS2 := Lib.hid h
  obtain ⟨A, c, hrow, hcl, hrd, hgood⟩ := h
  have HROW := Lib.hid hrow
  have HRD := Lib.hid hrd
  have HGOOD := Lib.hid hgood
  have HL := Lib.hid hl
  have HSPLIT := Lib.hid (split_any hl l 32 hs)
  have hn1 := step_words l
  have hnl := M.cut_len 32 l
  have hll := (M.validStore_of hgood.1).1
  have HMEM := Lib.hid (fun x (hx : x ∈ M.cut 32 l) => M.cut_mem hx)
  clear hrow hrd hgood hl
  have t0 := text_eq h0
  unfold M.tNear at t0
  clear h0
  generalize M.cut 32 l = ws at *
  have HKS : Hid (M.nearT S (M.wd ws 1) (M.wd ws 2) = if M.isVec (M.vec (M.wd ws 1)) = true ∧ M.inR (M.numOr (M.wd ws 2)) 1 16 = true then M.hitsT (M.nearest S.list S.kind (M.vec (M.wd ws 1)) (M.numOr (M.wd ws 2)).toNat) else M.tNo) := Lib.hid rfl
  generalize tb l = LN at *
  go_enter Tryz.func24, Tryz.ntmps24
  go_wp2_with fail
  refine HSPLIT.out.mono ?_
  rintro e w1 ⟨B, d, rfl, hd, hown, hg⟩
  have OW := Lib.hid hown
  have G := Lib.hid hg
  have ROW1 := Lib.hid (HROW.out.grown hg (by simp))
  have HLT := Lib.hid HROW.out.lt
  clear hown hg HSPLIT
  obtain ⟨wb, wo, rfl, hwb, hc0⟩ := OW.out.sees.wd_at (j := 0) (by omega)
  rw [Nat.add_zero] at hc0
  have hlen := hn
  obtain ⟨_, _, he1, _, wc1⟩ := OW.out.sees.wd_at (j := 1) (by rw [hlen]; decide)
  injection he1 with he1
  injection he1 with hea1 heb1
  subst hea1 heb1
  have hw1 : (M.wd ws 1).length ≤ 1048575 := by
    have h9 := HMEM.out (M.wd ws 1) (by rw [wd_eq (by rw [hlen]; decide)]; exact List.getElem_mem _)
    rw [hlen] at h9
    omega
  obtain ⟨_, _, he2, _, wc2⟩ := OW.out.sees.wd_at (j := 2) (by rw [hlen]; decide)
  injection he2 with he2
  injection he2 with hea2 heb2
  subst hea2 heb2
  have hw2 : (M.wd ws 2).length ≤ 1048575 := by
    have h9 := HMEM.out (M.wd ws 2) (by rw [wd_eq (by rw [hlen]; decide)]; exact List.getElem_mem _)
    rw [hlen] at h9
    omega
  have HVEC := Lib.hid (readVector_impl (w := w1) (HL.out.on G.out) (M.wd ws 1) hw1)
  generalize tb (M.wd ws 0) = X0 at *
  rw [hn] at *
  have t0' : X0.toList = _ := beq_iff_eq.1 t0
  clear t0 hn hlen
  generalize M.wd ws 1 = y1 at *
  generalize M.wd ws 2 = y2 at *
  have HNUM := Lib.hid (fun V (hV : w.grownBy V none) => numberOf_impl (HL.out.on hV) y2 (by omega))
  generalize tb y1 = X1 at *
  generalize tb y2 = X2 at *
  go_wp2_with fail
  refine HVEC.out.mono ?_
  rintro e w2 ⟨Av, cv, bv, rfl, hbv, hcv, hav, hg⟩
  have SV := Lib.hid hav
  have HBV := Lib.hid hbv
  have HCV := Lib.hid hcv
  have G2 := Lib.hid (gb_trans G.out hg)
  have d2 : w2.cell? ⟨wb, wo + 2, none⟩ = some (.string X2) := hg.cell wc2 (by simp)
  have hvl := hav.2
  clear hav hbv hg wc1 wc2 HVEC hcv
  obtain ⟨vn, hvn⟩ : ∃ vn, vn = (M.vec y1).length := ⟨_, rfl⟩
  have HVN := Lib.hid hvn
  rw [← hvn] at hvl ⊢
  clear hvn
  go_wp2_with fail
  refine (HNUM.out _ G2.out).mono ?_
  rintro e w3 ⟨rfl, hg⟩
  have G3 := Lib.hid (gb_trans G2.out hg)
  have SV3 := Lib.hid (SV.out.on hg)
  have ROW3 := Lib.hid (HROW.out.grown G3.out (by simp))
  clear hg d2 HNUM
  have q0 := ROW3.out.cell 0
  have q1 := ROW3.out.cell 1
  simp only [List.getElem?_cons_zero, List.getElem?_cons_succ] at q0 q1
  have HSX : Hid (∀ V, w3.grownBy V none → (V.cell? ⟨g, 0, none⟩ = some (.slice A S.list.length c) ∧ V.cell? ⟨g, 1, none⟩ = some (.int .i64 S.kind))) := Lib.hid fun V hV => ⟨hV.cell q0 (by simp), hV.cell q1 (by simp)⟩
  have HSEE : Hid (∀ V, w3.grownBy V none → SeesI V A S.list) := Lib.hid fun V hV => ⟨((HRD.out.keep (gb_trans G3.out hV) (Nat.le_refl _)).wide (Nat.zero_le _) (gb_trans G3.out hV).size), Small.of_valid HGOOD.out.1⟩
  cases hvec : M.isVec (M.vec y1) with
  | false =>
    have HX : Hid (M.nearT S y1 y2 = M.tNo) := Lib.hid (by rw [HKS.out, if_neg]; rw [hvec]; rintro ⟨h9, _⟩; cases h9)
    have hb0 : bv = false := by rw [HBV.out, hvec]
    subst hb0
    clear hvec HKS
    generalize M.numOr y2 = k at *
    generalize S.list.length = m at *
    go_wp2_with fail
    go_region
    all_goals
      go_wp2_with fail
      go_ret
      rw [HX.out]
      exact RunGot.same HS2.out (gb_drew G3.out) rfl
  | true =>
    have hb0 : bv = true := by rw [HBV.out, hvec]
    subst hb0
    obtain ⟨k, hk⟩ : ∃ k, k = M.numOr y2 := ⟨_, rfl⟩
    rw [← hk] at HKS ⊢
    have HCF : Hid (∀ V, w3.grownBy V none → Calls Tryz.prog 33 #[.slice A S.list.length c, .int .i64 S.kind, .slice Av vn cv, .int .i64 k] V fun e w' => e = .returned (.bool (M.inR k 1 16)) ∧ V.grownBy w' none) := Lib.hid fun V hV => by
      have h9 := canFind_any (c := c) (d := cv) (k := k) (kind := S.kind) (HSEE.out V hV) (SV3.out.on hV)
      rw [← HVN.out] at h9
      have e9 : M.canFind S.list S.kind (M.vec y1) k = M.inR k 1 16 := by
        unfold M.canFind
        rw [HGOOD.out.1, M.inR_of HGOOD.out.2.1 HGOOD.out.2.2, hvec]
        rfl
      rw [e9] at h9
      exact h9
    cases hin : M.inR k 1 16 with
    | false =>
      have HX : Hid (M.nearT S y1 y2 = M.tNo) := Lib.hid (by rw [HKS.out, if_neg]; rw [hin]; rintro ⟨_, h9⟩; cases h9)
      rw [hin] at HCF
      clear hvec HKS hin hk
      generalize S.list.length = m at *
      go_wp2_with fail
      go_region_held3 (fun V => V.cell? ⟨g, 0, none⟩ = some (.slice A m c) ∧ V.cell? ⟨g, 1, none⟩ = some (.int .i64 S.kind))
        (first | exact HSX.out _ S5.out | exact HSX.out _ (gb_drew (gb_refl _ _)) | exact HSX.out _ (gb_refl _ _))
        (first
          | (go_at_call 33; refine (HCF.out w3.drew (gb_drew (gb_refl _ _))).mono ?_; rintro e w5 ⟨rfl, hg⟩; have S5 : Hid (w3.grownBy w5 none) := Lib.hid (gb_trans (gb_drew (gb_refl _ none)) hg); clear hg)
          | fail)
      go_wp2_with fail
      go_ret
      rw [HX.out]
      exact RunGot.same HS2.out (gb_trans G3.out S5.out) rfl
    | true =>
      have hkr := M.inR_true hin
      obtain ⟨hs, hhs⟩ : ∃ hs, hs = M.nearest S.list S.kind (M.vec y1) k.toNat := ⟨_, rfl⟩
      have HX : Hid (M.nearT S y1 y2 = M.hitsT hs) := Lib.hid (by rw [HKS.out, if_pos ⟨hvec, hin⟩, hhs])
      have HNR : Hid (∀ V, w3.grownBy V none → Calls Tryz.prog 34 #[.slice A S.list.length c, .int .i64 S.kind, .slice Av vn cv, .int .i64 k] V (HitsMade V hs)) := Lib.hid fun V hV => by
        have h9 := nearest_impl (c := c) (d := cv) (kind := S.kind) hll (fun x hx => (M.item_of HGOOD.out.1 hx).2.1) (HSEE.out V hV).1 (Nat.le_refl _) (SV3.out.on hV) hvec hkr.1 hkr.2
        rw [← HVN.out, ← hhs] at h9
        exact h9
      have HOK := Lib.hid (fun x (hx : x ∈ hs) => M.nearest_ok HGOOD.out.1 hvec k.toNat (kind := S.kind) x (hhs ▸ hx))
      have hl16 : hs.length ≤ 16 := by rw [hhs]; exact M.nearest_len16 HGOOD.out.1 _ _ _
      rw [hin] at HCF
      clear hvec HKS hin hk hhs
      generalize S.list.length = m at *
      go_wp2_with fail
      go_region_held3 (fun V => V.cell? ⟨g, 0, none⟩ = some (.slice A m c) ∧ V.cell? ⟨g, 1, none⟩ = some (.int .i64 S.kind))
        (first | exact HSX.out _ S5.out | exact HSX.out _ (gb_drew (gb_refl _ _)) | exact HSX.out _ (gb_refl _ _))
        (first
          | (go_at_call 33; refine (HCF.out w3.drew (gb_drew (gb_refl _ _))).mono ?_; rintro e w5 ⟨rfl, hg⟩; have S5 : Hid (w3.grownBy w5 none) := Lib.hid (gb_trans (gb_drew (gb_refl _ none)) hg); clear hg)
          | fail)
      have O0 := Lib.hid (World.ownsRow_made (base := w5.heap.size) (e := 9) (size := 1) w5 #[] 0 (Nat.le_refl _) (by decide) rfl)
      go_wp2_with fail
      go_region_held3 (fun V => V.cell? ⟨g, 0, none⟩ = some (.slice A m c) ∧ V.cell? ⟨g, 1, none⟩ = some (.int .i64 S.kind))
        (first | exact HSX.out _ S6.out | exact HSX.out _ (gb_drew (gb_alloc S5.out _)) | exact HSX.out _ (gb_alloc S5.out _))
        (first
          | (go_at_call 34; refine (HNR.out (w5.alloc (.cells #[] 9)).drew (gb_drew (gb_alloc S5.out _))).mono ?_; rintro e w6 ⟨Ah, ch, rfl, hch, hox, hg⟩; have S6 : Hid (w3.grownBy w6 none) := Lib.hid (gb_trans (gb_drew (gb_alloc S5.out _)) hg); have HOX := Lib.hid hox; have HG6 := Lib.hid hg; clear hox hg)
          | fail)
      have O6 : Hid (OwnT w6 w5.heap.size (.slice (some ⟨w5.heap.size, 0, none⟩) 0 0) []) := Lib.hid (by
        have h9 : (w5.alloc (.cells #[] 9)).ownsRow w5.heap.size 9 1 (.slice (some ⟨w5.heap.size, 0, none⟩) 0 0) 0 [] := O0.out
        exact (show OwnT (w5.alloc (.cells #[] 9)) w5.heap.size (.slice (some ⟨w5.heap.size, 0, none⟩) 0 0) [] from h9).on (gb_trans (gb_drew (gb_refl _ none)) HG6.out))
      have HX6 : Hid (OwnX w6 w5.heap.size (.slice Ah hs.length ch) hs) := Lib.hid (HOX.out.wide (by show w5.heap.size ≤ (w5.alloc _).heap.size; simp))
      have hs5 : w5.heap.size ≤ w6.heap.size := by have := HG6.out.size; simp at this; omega
      obtain ⟨nh, hnh⟩ : ∃ nh, nh = hs.length := ⟨_, rfl⟩
      have HNH := Lib.hid hnh
      rw [← hnh] at hch hl16 HX6 ⊢
      clear hnh O0 HOX HG6 HCF HNR
      obtain ⟨i0, hi0, hz0, hz1, hz2⟩ := info_parts info_string
      go_wp2_with fail
      go_loopw [15, 147] (fun v iv wr => ∃ j : Nat, j ≤ nh ∧ iv = .int .i64 j ∧ OwnT wr w5.heap.size v ((hs.take j).map M.hitT) ∧ OwnX wr w5.heap.size (.slice Ah nh ch) hs ∧ w5.heap.size ≤ wr.heap.size ∧ w3.grownBy wr none) (fun _ i _ => nh - (intOf i).toNat)
      case atStart => exact ⟨0, Nat.zero_le _, rfl, O6.out, HX6.out, hs5, S6.out⟩
      case round =>
        obtain ⟨j, hj, rfl, ho, hox, hs5w, hg⟩ := hrel
        have HO := Lib.hid ho
        have HOX := Lib.hid hox
        have GR := Lib.hid hg
        obtain ⟨Ap, cp, rfl, hcp⟩ := ho.form
        have hlj : ((hs.take j).map M.hitT).length = j := by rw [List.length_map, List.length_take, ← HNH.out]; omega
        have HLJ := Lib.hid hlj
        rw [hlj] at hcp ⊢
        have hsz := hg.size
        clear ho hox hg O6 HX6
        by_cases hlt : j < nh
        · have hjl : j < hs.length := by rw [← HNH.out]; exact hlt
          have hox' : OwnX wr w5.heap.size (.slice Ah hs.length ch) hs := by rw [← HNH.out]; exact HOX.out
          obtain ⟨hb, ho, rfl, _, hbl, c0, c1⟩ := Rd.hit hox'.rd (List.getElem?_eq_getElem hjl)
          have hok := HOK.out _ (List.getElem_mem hjl)
          have HTK : Hid ((hs.take (j + 1)).map M.hitT = (hs.take j).map M.hitT ++ [M.hitT hs[j]]) := Lib.hid (by rw [List.take_succ_eq_append_getElem hjl, List.map_append]; rfl)
          generalize hs[j] = x at *
          obtain ⟨⟨k1, k2⟩, k3, k4⟩ := hok
          have b1 : -1000000 ≤ x.key ∧ x.key ≤ 1000000 := by omega
          have b2 : -1000000 ≤ x.dist ∧ x.dist ≤ 1000000 := by omega
          have a1 := fun W => tb_add Tryz.prog W (Lib.itoa x.key) [58] (by have := M.itoa_le (n := x.key) b1; simp only [List.length_cons, List.length_nil]; omega)
          have a2 := fun W => tb_add Tryz.prog W (Lib.itoa x.key ++ [58]) (Lib.itoa x.dist) (by have := M.itoa_le (n := x.key) b1; have := M.itoa_le (n := x.dist) b2; simp only [List.length_append, List.length_cons, List.length_nil]; omega)
          rw [show tb [58] = (⟨#[58]⟩ : ByteArray) from rfl] at a1
          rw [show Lib.itoa x.key ++ [58] ++ Lib.itoa x.dist = M.hitT x by simp [M.hitT]] at a2
          generalize tb (Lib.itoa x.key ++ [58]) = Y1 at *
          obtain ⟨Y, hY⟩ : ∃ Y, Y = tb (M.hitT x) := ⟨_, rfl⟩
          rw [← hY] at a2
          have HY := Lib.hid hY
          have jn : (j : Int) < nh := by omega
          have j0 : (0 : Int) ≤ j := by omega
          clear hox' hY
          go_wp2_with fail
          refine wp_name (fun V => Row V wr.heap.size 65 [.int .i64 x.key, .int .i64 x.dist] ∧ wr.grownBy V none) ⟨Row.new wr _ rfl, World.grownBy_alloc wr _ none⟩ ?_
          rintro W ⟨hB, hg⟩
          have x0 := hB.cell 0
          have x1 := hB.cell 1
          simp only [List.getElem?_cons_zero, List.getElem?_cons_succ] at x0 x1
          have H2 : Hid (W.ownsRow w5.heap.size 9 1 (.slice Ap j cp) j (((hs.take j).map M.hitT).map fun l => .string (tb l))) := Lib.hid (by
            have h := HO.out.on hg
            unfold OwnT at h
            rw [HLJ.out] at h
            exact h)
          have HOXW := Lib.hid (HOX.out.on hg)
          have GX := Lib.hid (gb_trans GR.out hg)
          have GW3 := Lib.hid (gb_trans G3.out GX.out)
          have HIT : Hid (∀ z : Int, (-1000000 ≤ z ∧ z ≤ 1000000) → ∀ V, W.grownBy V none → Calls Tryz.prog 35 #[.int .i64 z] V fun e w' => e = .returned (.string (tb (Lib.itoa z))) ∧ V.grownBy w' none) := Lib.hid fun z hz V hV => itoa_any (HL.out.on (gb_trans GW3.out hV)) z (by omega) (by omega)
          have HCE : Hid (∀ V, W.grownBy V none → V.cell? ⟨wr.heap.size, 0, none⟩ = some (.int .i64 x.key) ∧ V.cell? ⟨wr.heap.size, 1, none⟩ = some (.int .i64 x.dist)) := Lib.hid fun V hV => ⟨hV.cell x0 (by simp), hV.cell x1 (by simp)⟩
          have HBL : Hid (∀ V r, W.grownBy V r → (∀ g, r = some g → g < wr.heap.size) → V.cell? ⟨wr.heap.size, 0, none⟩ = some (.int .i64 x.key) ∧ V.cell? ⟨wr.heap.size, 1, none⟩ = some (.int .i64 x.dist)) := Lib.hid fun V r hV hr => ⟨hV.cell x0 (by intro e; have := hr _ e.symm; simp at this), hV.cell x1 (by intro e; have := hr _ e.symm; simp at this)⟩
          have HLTB : Hid (∀ g, Value.ownBlock (.slice Ap j cp) = some g → g < wr.heap.size) := Lib.hid fun g e => by
            have h := HO.out
            unfold OwnT at h
            rw [HLJ.out] at h
            exact (h.lt g e).2
          have hws : w5.heap.size ≤ W.heap.size := by have := hg.size; omega
          clear hB hg c0 c1
          go_region_held3 (fun V => V.cell? ⟨wr.heap.size, 0, none⟩ = some (.int .i64 x.key) ∧ V.cell? ⟨wr.heap.size, 1, none⟩ = some (.int .i64 x.dist))
            (first | exact S9.out | exact HCE.out _ S8.out | exact HCE.out _ S7.out | exact HCE.out _ (gb_alloc S8.out _) | exact HCE.out _ (gb_drew (gb_refl _ _)))
            (first
              | (go_at_call 35; refine Calls.mono (HIT.out _ (by assumption) W.drew (gb_drew (gb_refl _ _))) ?_; rintro e w7 ⟨rfl, hg⟩; have S7 : Hid (W.grownBy w7 none) := Lib.hid (gb_trans (gb_drew (gb_refl _ none)) hg); clear hg)
              | (go_at_call 35; refine Calls.mono (HIT.out _ (by assumption) w7 S7.out) ?_; rintro e w8 ⟨rfl, hg⟩; have S8 : Hid (W.grownBy w8 none) := Lib.hid (gb_trans S7.out hg); have H8 := Lib.hid (H2.out.kept S8.out (own_ge H2.out (by simp))); have hs8 := S8.out.size; clear hg)
              | (refine step_append_lies _ (by rfl) (.tmp 151) (.tmp 160) 23 (by rfl) w5.heap.size 9 i0 _ 1 16 Tryz.underlying23 hi0 hz0 hz1 hz2 rfl (by omega) (.slice Ap j cp) j (((hs.take j).map M.hitT).map fun l => .string (tb l)) (by rfl) (H8.out.alloc (.cells #[.string Y] 9)) ⟨w8.heap.size, 0, none⟩ 1 1 [.string Y] (by rfl) (by rfl) one_cell_new (one_cells rfl) (by omega) (by unfold maxLen; omega) (by omega) (Nat.le_trans hws (Nat.le_trans hs8 (by simp))) _ rfl ?_; intro gg cap w9 hown' hgrow hat hlt4; have T1 := Lib.hid hown'; have T2 := Lib.hid hgrow; have S9 := Lib.hid (HBL.out _ _ (gb_trans (gb_alloc (gb_some S8.out _) (.cells #[.string Y] 9)) hgrow) HLTB.out); clear hown' hgrow hat)
              | fail)
          go_wp2_with fail
          go_roundw
          case rel =>
            have h35 := S5.out.size
            have h99 := T2.out.size
            refine ⟨j + 1, by omega, by go_num, ?_, ?_, ?_, gb_new (gb_alloc (gb_trans GX.out S8.out) (.cells #[.string Y] 9)) T2.out (fun g hg => .inl (by have := (H8.out.lt g hg).1; omega))⟩
            · rw [HTK.out]
              unfold OwnT
              rw [List.map_append, List.length_append, HLJ.out]
              have h9 := T1.out
              rw [HY.out] at h9
              exact h9
            · exact World.ownsRow.kept ((HOXW.out.on S8.out).on (World.grownBy_alloc _ _ none)) T2.out (own_types_ne (t := 65) ((HOXW.out.on S8.out).on (World.grownBy_alloc _ (.cells #[.string Y] 9) none)) (H8.out.alloc (.cells #[.string Y] 9)) (by decide))
            · simp at h99; omega
          case measure => simp [intOf]; omega
        · obtain rfl : j = nh := by omega
          have HALL : Hid ((hs.take j).map M.hitT = hs.map M.hitT) := Lib.hid (by rw [List.take_of_length_le (by rw [← HNH.out]; exact Nat.le_refl _)])
          have HJN : Hid (∀ V, wr.grownBy V none → Calls Tryz.prog 36 #[.slice Ap j cp, .string ⟨#[32]⟩] V fun e w' => e = .returned (.string (tb (M.hitsT hs))) ∧ V.grownBy w' none) := Lib.hid fun V hV => by
            have h9 := HO.out.on hV
            have h8 := h9.sees
            have h7 := M.hitsT_le HOK.out (by rw [← HNH.out]; exact hl16)
            rw [HALL.out] at h8
            have h6 := join_any (c := cp) h8 (by rw [List.length_map, ← HNH.out]; exact hcp) (by rw [List.length_map, ← HNH.out]; omega) (Nat.le_trans h7 (by omega))
            rw [List.length_map, ← HNH.out] at h6
            exact h6
          have GR3 := Lib.hid (gb_trans G3.out GR.out)
          go_wp2_with fail
          refine (HJN.out _ (gb_refl _ _)).mono ?_
          rintro e w9 ⟨rfl, hg⟩
          have G9 := Lib.hid (gb_trans GR3.out hg)
          clear hg
          go_wp2_with fail
          go_ret
          rw [HX.out]
          exact RunGot.same HS2.out G9.out rfl
end Go.Proofs.YtibbpbbgmgdpdaaGreatDoor

namespace Go.Proofs.YtibbpbbgmgdpdaaGreatDoor
open Go.RowKit
set_option linter.unusedVariables false
set_option linter.unusedSimpArgs false
set_option maxRecDepth 100000

theorem pair_word : M.wd (M.cut 32 M.tPair) 0 = M.tPair := by decide
theorem count_word : M.wd (M.cut 32 M.tCount) 0 = M.tCount := by decide
theorem not_pair {l : List UInt8} (h : M.wd (M.cut 32 l) 0 ≠ M.tPair) : l ≠ M.tPair := fun e => h (by rw [e]; exact pair_word)
theorem not_count {l : List UInt8} (h : M.wd (M.cut 32 l) 0 ≠ M.tCount) : l ≠ M.tCount := fun e => h (by rw [e]; exact count_word)
theorem run_impl {w : World} {g : Nat} {S : M.Ses} (h : SesAt 43 w g S) (hl : LibOk w) (l : List UInt8) (hs : l.length ≤ 1048576) :
    Calls Tryz.prog 24 #[.pointer (some ⟨g, 0, none⟩), .string (tb l)] w (RunGot 43 w g (M.step S l)) := by
  by_cases h1 : M.wd (M.cut 32 l) 0 = M.tPut
  · have hp : l ≠ M.tPair := not_pair (by rw [h1]; decide)
    have hq : l ≠ M.tCount := not_count (by rw [h1]; decide)
    by_cases hn : (M.cut 32 l).length = 4
    · have e : M.step S l = M.putS S (M.wd (M.cut 32 l) 1) (M.wd (M.cut 32 l) 2) (M.wd (M.cut 32 l) 3) := by unfold M.step; simp only; rw [if_pos ⟨h1, hn⟩]
      rw [e]; exact run_put h hl l hs h1 hn
    · have e : M.step S l = (S, M.tWhat) := by
        unfold M.step; simp only
        rw [if_neg (fun x => hn x.2), h1, if_neg (by rintro ⟨x, _⟩; revert x; decide), if_neg (by rintro ⟨x, _⟩; revert x; decide), if_neg (by rintro ⟨x, _⟩; revert x; decide), if_neg hp, if_neg hq]
      rw [e]; exact run_put_wrong h hl l hs h1 hn hp hq
  by_cases h2 : M.wd (M.cut 32 l) 0 = M.tDrop
  · have hp : l ≠ M.tPair := not_pair (by rw [h2]; decide)
    have hq : l ≠ M.tCount := not_count (by rw [h2]; decide)
    by_cases hn : (M.cut 32 l).length = 2
    · have e : M.step S l = M.dropS S (M.wd (M.cut 32 l) 1) := by unfold M.step; simp only; rw [if_neg (fun x => h1 x.1), if_pos ⟨h2, hn⟩]
      rw [e]; exact run_drop h hl l hs h2 hn
    · have e : M.step S l = (S, M.tWhat) := by
        unfold M.step; simp only
        rw [if_neg (fun x => h1 x.1), if_neg (fun x => hn x.2), h2, if_neg (by rintro ⟨x, _⟩; revert x; decide), if_neg (by rintro ⟨x, _⟩; revert x; decide), if_neg hp, if_neg hq]
      rw [e]; exact run_drop_wrong h hl l hs h2 hn hp hq
  by_cases h3 : M.wd (M.cut 32 l) 0 = M.tNear
  · have hp : l ≠ M.tPair := not_pair (by rw [h3]; decide)
    have hq : l ≠ M.tCount := not_count (by rw [h3]; decide)
    by_cases hn : (M.cut 32 l).length = 3
    · have e : M.step S l = (S, M.nearT S (M.wd (M.cut 32 l) 1) (M.wd (M.cut 32 l) 2)) := by unfold M.step; simp only; rw [if_neg (fun x => h1 x.1), if_neg (fun x => h2 x.1), if_pos ⟨h3, hn⟩]
      rw [e]; exact run_near h hl l hs h3 hn
    · have e : M.step S l = (S, M.tWhat) := by
        unfold M.step; simp only
        rw [if_neg (fun x => h1 x.1), if_neg (fun x => h2 x.1), if_neg (fun x => hn x.2), h3, if_neg (by rintro ⟨x, _⟩; revert x; decide), if_neg hp, if_neg hq]
      rw [e]; exact run_near_wrong h hl l hs h3 hn hp hq
  by_cases h4 : M.wd (M.cut 32 l) 0 = M.tKind
  · have hp : l ≠ M.tPair := not_pair (by rw [h4]; decide)
    have hq : l ≠ M.tCount := not_count (by rw [h4]; decide)
    by_cases hn : (M.cut 32 l).length = 2
    · have e : M.step S l = M.kindS S (M.wd (M.cut 32 l) 1) := by unfold M.step; simp only; rw [if_neg (fun x => h1 x.1), if_neg (fun x => h2 x.1), if_neg (fun x => h3 x.1), if_pos ⟨h4, hn⟩]
      rw [e]; exact run_kind h hl l hs h4 hn
    · have e : M.step S l = (S, M.tWhat) := by
        unfold M.step; simp only
        rw [if_neg (fun x => h1 x.1), if_neg (fun x => h2 x.1), if_neg (fun x => h3 x.1), if_neg (fun x => hn x.2), if_neg hp, if_neg hq]
      rw [e]; exact run_kind_wrong h hl l hs h4 hn hp hq
  have e0 : M.step S l = if l = M.tPair then (S, M.pairT S) else if l = M.tCount then (S, Lib.itoa S.list.length) else (S, M.tWhat) := by
    unfold M.step; simp only
    rw [if_neg (fun x => h1 x.1), if_neg (fun x => h2 x.1), if_neg (fun x => h3 x.1), if_neg (fun x => h4 x.1)]
  by_cases h5 : l = M.tPair
  · rw [e0, if_pos h5, h5]; exact run_pair h hl
  by_cases h6 : l = M.tCount
  · rw [e0, if_neg h5, if_pos h6, h6]; exact run_count h hl
  · rw [e0, if_neg h5, if_neg h6]; exact run_other h hl l hs h1 h2 h3 h4 h5 h6
theorem states_succ {ls : List (List UInt8)} {k : Nat} (hk : k < ls.length) : M.states M.start (ls.take (k + 1)) = (M.step (M.states M.start (ls.take k)) ls[k]).1 := by
  rw [List.take_succ_eq_append_getElem hk, M.states_append]; rfl
theorem texts_succ {ls : List (List UInt8)} {k : Nat} (hk : k < ls.length) : M.texts M.start (ls.take (k + 1)) = M.texts M.start (ls.take k) ++ ((M.step (M.states M.start (ls.take k)) ls[k]).2 ++ [10]) := by
  rw [List.take_succ_eq_append_getElem hk, M.texts_append]; rfl
theorem ses_start {t : TypeId} {w : World} {g : Nat} {A : Option Addr} {c : Nat} (h : Row w g t [.slice A 0 c, .int .i64 1]) : SesAt t w g M.start := ⟨A, c, h, Nat.zero_le _, RdI.nil_ _ _ _ _, M.good_start⟩
set_option maxHeartbeats 1000000 in
theorem RunSession_impl {w : World} {A : Option Addr} {c : Nat} {ls : List (List UInt8)} (hl : LibOk w) (D : SeesT w A ls) (hx : ∀ x ∈ ls, x.length ≤ 1048576) (hc : ls.length ≤ c) :
    Calls Tryz.prog 10 #[.slice A ls.length c] w fun e w' => e = .returned (.string (tb (M.session ls))) ∧ w.grownBy w' none := by
  have HL := Lib.hid hl
  have HD := Lib.hid D
  have HX := Lib.hid hx
  obtain ⟨n, hn⟩ : ∃ n, n = ls.length := ⟨_, rfl⟩
  rw [← hn] at hc ⊢
  have HN := Lib.hid hn
  obtain ⟨m, hm⟩ : ∃ m : Nat, m = min n 20 := ⟨_, rfl⟩
  have hmin : min (n : Int) 20 = (m : Int) := by omega
  have hmn : m ≤ n := by omega
  have hm20 : m ≤ 20 := by omega
  have hmc : (m : Int) ≤ c := by omega
  have hm0 : (0 : Int) ≤ m := by omega
  have HALL : Hid (M.texts M.start (ls.take m) = M.session ls) := Lib.hid (by
    unfold M.session
    by_cases h : n ≤ 20
    · rw [show m = n by omega, List.take_of_length_le (by omega), List.take_of_length_le (by omega)]
    · rw [show m = 20 by omega])
  clear hl D hx hn hm
  have R0 := Lib.hid (Row.new w 43 (ca := #[.slice none 0 0, .int .i64 1]) rfl)
  go_enter Tryz.func10, Tryz.ntmps10
  go_wp2_with fail
  go_loopw [4, 15] (fun v iv wr => ∃ k : Nat, k ≤ m ∧ v = .string (tb (M.texts M.start (ls.take k))) ∧ iv = .int .i64 k ∧ SesAt 43 wr w.heap.size (M.states M.start (ls.take k)) ∧ w.grownBy wr none) (fun _ i _ => m - (intOf i).toNat)
  case atStart => exact ⟨0, Nat.zero_le _, rfl, rfl, ses_start R0.out, World.grownBy_alloc w _ none⟩
  case round =>
    obtain ⟨k, hk, rfl, rfl, hses, hg⟩ := hrel
    have HS := Lib.hid hses
    have G := Lib.hid hg
    clear hses hg R0
    by_cases hlt : k < m
    · have hkl : k < ls.length := by rw [← HN.out]; omega
      obtain ⟨b, o, rfl, hb, hcell⟩ := (HD.out.on G.out).at_ hkl
      have HTX := Lib.hid (texts_succ hkl)
      have HST := Lib.hid (states_succ hkl)
      have HRUN := Lib.hid (run_impl HS.out (HL.out.on G.out) ls[k] (HX.out _ (List.getElem_mem hkl)))
      have hgood : M.Good (M.states M.start (ls.take k)) := by obtain ⟨_, _, _, _, _, h⟩ := HS.out; exact h
      have hle := M.step_le hgood ls[k]
      have htl := M.texts_le M.good_start (ls.take k)
      have hkk : (ls.take k).length ≤ 20 := by rw [List.length_take]; omega
      have kn : (k : Int) < m := by omega
      have k0 : (0 : Int) ≤ k := by omega
      generalize M.step (M.states M.start (ls.take k)) ls[k] = r at *
      generalize ls[k] = x at *
      have a1 := fun W => tb_add Tryz.prog W r.2 [10] (by simp only [List.length_cons, List.length_nil]; omega)
      have a2 := fun W => tb_add Tryz.prog W (M.texts M.start (ls.take k)) (r.2 ++ [10]) (by simp only [List.length_append, List.length_cons, List.length_nil]; omega)
      rw [show tb [10] = (⟨#[10]⟩ : ByteArray) from rfl] at a1
      rw [← HTX.out] at a2
      generalize tb (r.2 ++ [10]) = Y1 at *
      clear hgood hle htl hkk hkl
      go_wp2_with fail
      refine HRUN.out.mono ?_
      rintro e w2 ⟨rfl, hses, hg⟩
      have HS2 := Lib.hid hses
      have G2 := Lib.hid (gb_new G.out hg (fun b hb => .inl (by injection hb with hb; omega)))
      clear hses hg
      go_wp2_with fail
      go_roundw
      case rel => exact ⟨k + 1, by omega, rfl, by go_num, by rw [HST.out]; exact HS2.out, G2.out⟩
      case measure => simp [intOf]; omega
    · obtain rfl : k = m := by omega
      rw [HALL.out]
      go_wp2_with fail
      go_ret
      exact ⟨rfl, G.out⟩
end Go.Proofs.YtibbpbbgmgdpdaaGreatDoor
