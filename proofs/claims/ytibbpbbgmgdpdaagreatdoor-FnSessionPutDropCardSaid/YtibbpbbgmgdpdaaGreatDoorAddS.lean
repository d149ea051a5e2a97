/- The walks of the reference's order of hits. -/
import Derived.Test.YtibbpbbgmgdpdaaGreatDoorNear
import Derived.Test.YtibbpbbgmgdpdaaGreatDoorHitM
import Derived.Test.YtibbpbbgmgdpdaaGreatDoorDistW
import Derived.Deep.AppendLies
import Derived.Deep.RegionHeld3
import Derived.Deep.DeepCutAuto
namespace Go.Proofs.YtibbpbbgmgdpdaaGreatDoor
open Go.RowKit
set_option linter.unusedVariables false
set_option linter.unusedSimpArgs false
set_option maxRecDepth 100000

/-- append(x, xs..) onto a row of the call's own, in a region that draws its order; the source nil or not -/
theorem step_append_rd {P : Program} (w : World) {ops : Array Oper} {o : Oper} {a : Act} {K : Act → World → Prop} {Q : Exit → Act → World → Prop} {E : Prop} (hgd : o.guard = none) (s x : Operand) (t : TypeId)
    (ho : o.op = .call { callee := .builtin .append, args := #[s, x], argTypes := #[t, t] })
    (base : Nat) (e : TypeId) (i : TypeInfo) (z : Value) (size bytes : Nat) (ht : P.underlying t = some (.slice e)) (hi : P.info? e = some i) (hz : i.zero = some z)
    (hsize : i.size = size) (hby : i.bytes = bytes) (hzs : z.cells.size = size) (hsz : 0 < size)
    (v : Value) (n : Nat) (xs : List Value) (hs : a.eval s = v) (hown : w.ownsRow base e size v n xs) (A : Option Addr) (m c lo hi' : Nat) (news : List Value) (hx : a.eval x = .slice A m c)
    (hl : news.length = m * size) (hr : Rd w lo hi' A news) (h1 : ∀ u ∈ news, u.oneCell' = true) (h63 : n + m ≤ maxLen) (hbytes : (n + m) * bytes ≤ 140737488355328) (hbase : base ≤ w.heap.size)
    (h : ∀ v' w', w'.ownsRow base e size v' (n + m) (xs ++ news) → w.grownBy w' v.ownBlock → K (a.put o.dst v') w') :
    if Region.wanted o (yielded ops a.tmps) = true then Oper.wp P o a w K Q else E := by
  have hw : Region.wanted o (yielded ops a.tmps) = true := by simp [Region.wanted, hgd]
  rw [if_pos hw]
  cases A with
  | none =>
    have hn : news = [] := by
      cases hnw : news with
      | nil => rfl
      | cons u r =>
        obtain ⟨_, _, e, _⟩ := hr (by rw [hnw]; simp)
        cases e
    have hm : m = 0 := by
      rw [hn] at hl
      rcases Nat.eq_zero_or_pos m with h0 | h0
      · exact h0
      · have := Nat.mul_pos h0 hsz
        simp at hl
        omega
    subst hn hm
    have hrun := run_append_nil_c (P := P) w base t o.type e i size ht hi v n xs hown c
    unfold Oper.wp execOp
    simp only [ho, resolve, invoke, builtin, Sem.run_bind, Sem.run_pure, Result.andThen_ok, List.map_toArray, List.map_cons, List.map_nil, hs, hx, hrun]
    exact h v w (by simpa using hown) (gb_refl _ _)
  | some ad =>
    obtain ⟨v', w', hrun, h2, h3, _⟩ := run_append_own (P := P) (w := w) base t o.type e i z size bytes ht hi hz hsize hby hzs hsz v n xs hown ad m c news hl (fun j u hu => by
      obtain ⟨b, o', e', _, _, hc⟩ := hr (by intro hn; subst hn; simp at hu)
      injection e' with e'
      subst e'
      rw [Addr.add_lit]
      exact hc j u hu) h1 h63 hbytes hbase
    unfold Oper.wp execOp
    simp only [ho, resolve, invoke, builtin, Sem.run_bind, Sem.run_pure, Result.andThen_ok, List.map_toArray, List.map_cons, List.map_nil, hs, hx, hrun]
    exact h v' w' h2 h3
theorem cellsX_cell1 (l : List M.Hit) : ∀ u ∈ cellsX l, u.oneCell' = true := by
  intro u hu
  obtain ⟨h, _, hh⟩ := List.mem_flatMap.1 hu
  exact hit_oneCell u hh
theorem take_min {α : Type} (s : List α) (a : Nat) {b : Nat} (h : s.length = b) : s.take (min a b) = s.take a := by
  by_cases h9 : a ≤ b
  · rw [Nat.min_eq_left h9]
  · rw [Nat.min_eq_right (by omega), List.take_of_length_le (by omega), List.take_of_length_le (by omega)]
theorem two_row {w : World} {g : Nat} {t : TypeId} {x y : Value} (h : Row w g t [x, y]) : ∀ (j : Nat) (u : Value), [x, y][j]? = some u → w.cell? ((⟨g, 0, none⟩ : Addr).add j) = some u := by
  intro j u hu
  rw [Addr.add_lit, Nat.zero_add, h.cell]
  exact hu
/-- the first hits of a row of the call's own -/
theorem OwnX.cut {w : World} {lo n c j : Nat} {A : Option Addr} {l : List M.Hit} (h : w.ownsRow lo 65 2 (.slice A n c) n (cellsX l)) (hj : j ≤ n) (hl : l.length = n) : OwnX w lo (.slice A j c) (l.take j) := by
  have hlj : (l.take j).length = j := by rw [List.length_take]; omega
  unfold OwnX
  rw [hlj]
  refine ⟨by rw [cellsX_length, hlj], ?_⟩
  rcases h.2 with ⟨e, h0⟩ | ⟨g, cap, cur, e, hg, hh, hnc, hcm, hcs, ht⟩
  · injection e with e1 e2 e3
    subst e1 e3
    have : j = 0 := by omega
    subst this
    exact .inl ⟨rfl, rfl⟩
  · injection e with e1 e2 e3
    subst e1 e3
    refine .inr ⟨g, c, cur, rfl, hg, hh, by omega, hcm, hcs, ?_⟩
    rw [← cellsX_take, ← ht, List.take_take, Nat.min_eq_left (by omega)]

theorem swap_row {X : World} {lo g n c j : Nat} {P R : List M.Hit} {y h : M.Hit} (hP : P.length = j) (hO : X.ownsRow lo 65 2 (.slice (some ⟨g, 0, none⟩) n c) n (cellsX (P ++ y :: h :: R))) :
    let X1 := X.setCell ⟨g, (j + 1) * 2, none⟩ (.int .i64 y.key)
    let X2 := X1.setCell ⟨g, (j + 1) * 2 + 1, none⟩ (.int .i64 y.dist)
    let X3 := X2.setCell ⟨g, j * 2, none⟩ (.int .i64 h.key)
    let X4 := X3.setCell ⟨g, j * 2 + 1, none⟩ (.int .i64 h.dist)
    X4.ownsRow lo 65 2 (.slice (some ⟨g, 0, none⟩) n c) n (cellsX (P ++ h :: y :: R)) ∧ X.grownBy X4 (some g) ∧
      (X.frozen? ⟨g, (j + 1) * 2, none⟩ = false ∧ X1.frozen? ⟨g, (j + 1) * 2 + 1, none⟩ = false ∧ X2.frozen? ⟨g, j * 2, none⟩ = false ∧ X3.frozen? ⟨g, j * 2 + 1, none⟩ = false) ∧
      (X1.cell? ⟨g, (j + 1) * 2 + 1, none⟩ = some (.int .i64 h.dist) ∧ X2.cell? ⟨g, j * 2, none⟩ = some (.int .i64 y.key) ∧ X3.cell? ⟨g, j * 2 + 1, none⟩ = some (.int .i64 y.dist)) := by
  intro X1 X2 X3 X4
  have hPy : (P ++ [y]).length = j + 1 := by rw [List.length_append, hP]; rfl
  have e0 : P ++ y :: h :: R = (P ++ [y]) ++ h :: R := by rw [List.append_assoc]; rfl
  rw [e0] at hO
  have hlen := hO.1
  have hn : j + 1 < n := by
    rw [cellsX_length, List.length_append, hPy, List.length_cons] at hlen
    omega
  have s1 := hO.stored ((j + 1) * 2) (.int .i64 y.key)
  have e1 := cellsX_set0 (P ++ [y]) R h y.key
  rw [hPy] at e1
  rw [e1] at s1
  have s2 := s1.1.stored ((j + 1) * 2 + 1) (.int .i64 y.dist)
  have e2 := cellsX_set1 (P ++ [y]) R ⟨y.key, h.dist⟩ y.dist
  rw [hPy] at e2
  rw [e2] at s2
  have e3 : (P ++ [y]) ++ ⟨y.key, y.dist⟩ :: R = P ++ y :: y :: R := by rw [List.append_assoc]; rfl
  rw [e3] at s2
  have s3 := s2.1.stored (j * 2) (.int .i64 h.key)
  have e4 := cellsX_set0 P (y :: R) y h.key
  rw [hP] at e4
  rw [e4] at s3
  have s4 := s3.1.stored (j * 2 + 1) (.int .i64 h.dist)
  have e5 := cellsX_set1 P (y :: R) ⟨h.key, y.dist⟩ h.dist
  rw [hP] at e5
  rw [e5] at s4
  refine ⟨s4.1, gb_trans s1.2 (gb_trans s2.2 (gb_trans s3.2 s4.2)), ⟨hO.frozenAt _, s1.1.frozenAt _, s2.1.frozenAt _, s3.1.frozenAt _⟩, ?_, ?_, ?_⟩
  · rw [s1.1.cellAt _ (by omega)]
    exact (cellsX_at (l := (P ++ [y]) ++ ⟨y.key, h.dist⟩ :: R) (i := j + 1) (h := ⟨y.key, h.dist⟩) (by rw [List.getElem?_append_right (by omega), hPy, Nat.sub_self]; rfl)).2
  · rw [s2.1.cellAt _ (by omega)]
    exact (cellsX_at (l := P ++ y :: y :: R) (i := j) (h := y) (by rw [List.getElem?_append_right (by omega), hP, Nat.sub_self]; rfl)).1
  · rw [s3.1.cellAt _ (by omega)]
    exact (cellsX_at (l := P ++ ⟨h.key, y.dist⟩ :: y :: R) (i := j) (h := ⟨h.key, y.dist⟩) (by rw [List.getElem?_append_right (by omega), hP, Nat.sub_self]; rfl)).2
theorem nearer_any (w : World) (x y : M.Hit) : Calls Tryz.prog 105 #[.agg #[.int .i64 x.key, .int .i64 x.dist], .agg #[.int .i64 y.key, .int .i64 y.dist]] w fun e w' => e = .returned (.bool (M.hlt x y)) ∧ w.grownBy w' none := by
  have HQ : Hid (M.hlt x y = (decide (x.dist < y.dist) || (decide (x.dist = y.dist) && decide (x.key < y.key)))) := Lib.hid rfl
  generalize M.hlt x y = r at HQ ⊢
  by_cases h1 : x.dist < y.dist
  · have HR : Hid (r = true) := Lib.hid (by rw [HQ.out]; simp [h1])
    clear HQ
    go_enter Tryz.func105, Tryz.ntmps105
    go_wp2_with fail
    go_ret
    exact ⟨ret_bool HR.out.symm, gb_alloc (gb_alloc (gb_refl _ _) _) _⟩
  · by_cases h2 : x.dist = y.dist
    · by_cases h3 : x.key < y.key
      · have HR : Hid (r = true) := Lib.hid (by rw [HQ.out]; simp [h2, h3])
        have t2 : (x.dist == y.dist) = true := beq_iff_eq.2 h2
        clear HQ h2
        go_enter Tryz.func105, Tryz.ntmps105
        go_wp2_with fail
        go_ret
        exact ⟨ret_bool HR.out.symm, gb_alloc (gb_alloc (gb_refl _ _) _) _⟩
      · have HR : Hid (r = false) := Lib.hid (by rw [HQ.out]; simp [h2, h3])
        have t2 : (x.dist == y.dist) = true := beq_iff_eq.2 h2
        clear HQ h2
        go_enter Tryz.func105, Tryz.ntmps105
        go_wp2_with fail
        go_ret
        exact ⟨ret_bool HR.out.symm, gb_alloc (gb_alloc (gb_refl _ _) _) _⟩
    · have HR : Hid (r = false) := Lib.hid (by rw [HQ.out]; simp [h1, h2])
      have t2 : (x.dist == y.dist) = false := beq_eq_false_iff_ne.2 h2
      clear HQ h2
      go_enter Tryz.func105, Tryz.ntmps105
      go_wp2_with fail
      go_ret
      exact ⟨ret_bool HR.out.symm, gb_alloc (gb_alloc (gb_refl _ _) _) _⟩
set_option maxHeartbeats 4000000 in
theorem addHit_any {w : World} {A : Option Addr} {c : Nat} {l : List M.Hit} {h : M.Hit} {k : Int} (D : SeesX w A l) (hw : M.WS l) (hl : l.length ≤ 16) (hk : 1 ≤ k) (hk2 : k ≤ 16) :
    Calls Tryz.prog 86 #[.slice A l.length c, .agg #[.int .i64 h.key, .int .i64 h.dist], .int .i64 k] w (HitsMade w ((M.ins h l).take k.toNat)) := by
  obtain ⟨i0, hi0, hz0, hz1, hz2⟩ := info_parts info_hit
  obtain ⟨n, hn⟩ : ∃ n, n = l.length := ⟨_, rfl⟩
  rw [← hn] at hl ⊢
  have HN := Lib.hid hn
  have HW := Lib.hid hw
  have HD := Lib.hid D
  have HNE := Lib.hid (fun W x y => nearer_any W x y)
  clear hn hw D
  go_enter Tryz.func86, Tryz.ntmps86
  go_wp2_with fail
  refine wp_name (fun V => Row V w.heap.size 65 [.int .i64 h.key, .int .i64 h.dist] ∧ w.grownBy V none) ⟨Row.new w _ rfl, World.grownBy_alloc w _ none⟩ ?_
  rintro W ⟨hB, hg⟩
  have x0 := hB.cell 0
  have x1 := hB.cell 1
  simp only [List.getElem?_cons_zero, List.getElem?_cons_succ] at x0 x1
  have hgt := hB.lt
  have HG := Lib.hid hg
  have HR : Hid (Rd W 0 W.heap.size A (cellsX l)) := Lib.hid (HD.out.on hg).1
  have HCE : Hid (∀ V, W.grownBy V none → V.cell? ⟨w.heap.size, 0, none⟩ = some (.int .i64 h.key) ∧ V.cell? ⟨w.heap.size, 1, none⟩ = some (.int .i64 h.dist)) := Lib.hid fun V hV => ⟨hV.cell x0 (by simp), hV.cell x1 (by simp)⟩
  have M1 : Hid ((W.alloc (.cells #[] 65)).ownsRow W.heap.size 65 2 (.slice (some ⟨W.heap.size, 0, none⟩) 0 0) 0 []) := Lib.hid (World.ownsRow_made (e := 65) (size := 2) W #[] 0 (Nat.le_refl _) (by decide) rfl)
  have M3 : Hid (((W.alloc (.cells #[.int .i64 h.key, .int .i64 h.dist] 65)).alloc (.cells #[] 65)).ownsRow W.heap.size 65 2 (.slice (some ⟨W.heap.size + 1, 0, none⟩) 0 0) 0 []) := Lib.hid (by
    have := World.ownsRow_made (e := 65) (size := 2) (base := W.heap.size) (W.alloc (.cells #[.int .i64 h.key, .int .i64 h.dist] 65)) #[] 0 (by simp) (by decide) rfl
    simpa using this)
  have A1 := Lib.hid (World.grownBy_alloc W (.cells #[] 65) none)
  have A2 := Lib.hid (gb_alloc A1.out (.cells #[.int .i64 h.key, .int .i64 h.dist] 65))
  have A3 := Lib.hid (gb_alloc (World.grownBy_alloc W (.cells #[.int .i64 h.key, .int .i64 h.dist] 65) none) (.cells #[] 65))
  have B2 : Hid (Row ((W.alloc (.cells #[] 65)).alloc (.cells #[.int .i64 h.key, .int .i64 h.dist] 65)) (W.heap.size + 1) 65 [.int .i64 h.key, .int .i64 h.dist]) := Lib.hid (by
    have := Row.new (W.alloc (.cells #[] 65)) 65 (ca := #[.int .i64 h.key, .int .i64 h.dist]) rfl
    simpa using this)
  have B3 : Hid (Row ((W.alloc (.cells #[.int .i64 h.key, .int .i64 h.dist] 65)).alloc (.cells #[] 65)) W.heap.size 65 [.int .i64 h.key, .int .i64 h.dist]) := Lib.hid ((Row.new W 65 rfl).alloc _)
  clear hB hg
  go_cut [7] (fun s wx => ∃ (g cx : Nat), s = .slice (some ⟨g, 0, none⟩) (n + 1) cx ∧ n + 1 ≤ cx ∧ wx.ownsRow W.heap.size 65 2 (.slice (some ⟨g, 0, none⟩) (n + 1) cx) (n + 1) (cellsX (l ++ [h])) ∧ W.grownBy wx none)
  case first =>
    go_region_held3 (fun V => V.cell? ⟨w.heap.size, 0, none⟩ = some (.int .i64 h.key) ∧ V.cell? ⟨w.heap.size, 1, none⟩ = some (.int .i64 h.dist))
      (first | exact HCE.out _ S6.out | exact HCE.out _ (gb_alloc S5.out _) | exact HCE.out _ S5.out | exact HCE.out _ (gb_drew A2.out) | exact HCE.out _ (gb_drew A3.out) | exact HCE.out _ (gb_drew (World.grownBy_alloc W _ none)) | exact HCE.out _ A2.out | exact HCE.out _ A3.out | exact HCE.out _ (World.grownBy_alloc W _ none) | exact HCE.out _ (gb_drew (gb_refl _ _)))
      (first
        | (refine step_append_rd _ (by rfl) (.tmp 10) (.tmp 11) 62 (by rfl) W.heap.size 65 i0 _ 2 16 Tryz.underlying62 hi0 hz0 hz1 hz2 rfl (by omega) (.slice (some ⟨W.heap.size, 0, none⟩) 0 0) 0 [] (by rfl) M1.out.drew A n c 0 _ (cellsX l) (by rfl) (by rw [cellsX_length, ← HN.out]) (HR.out.keep (gb_drew A1.out) (Nat.le_refl _)) (cellsX_cell1 _) (by unfold maxLen; omega) (by omega) A1.out.size ?_; intro v5 w5 hown' hgrow; have T1 := Lib.hid hown'; have S5 : Hid (W.grownBy w5 none) := Lib.hid (gb_new (gb_drew A1.out) hgrow (fun g hg => .inl (by simp [Value.ownBlock] at hg; omega))); have N5 := True.intro; clear hown' hgrow)
        | (refine step_append_rd _ (by rfl) (.tmp 10) (.tmp 11) 62 (by rfl) W.heap.size 65 i0 _ 2 16 Tryz.underlying62 hi0 hz0 hz1 hz2 rfl (by omega) (.slice (some ⟨W.heap.size, 0, none⟩) 0 0) 0 [] (by rfl) (M1.out.alloc (.cells #[.int .i64 h.key, .int .i64 h.dist] 65)).drew A n c 0 _ (cellsX l) (by rfl) (by rw [cellsX_length, ← HN.out]) (HR.out.keep (gb_drew A2.out) (Nat.le_refl _)) (cellsX_cell1 _) (by unfold maxLen; omega) (by omega) A2.out.size ?_; intro v5 w5 hown' hgrow; have T1 := Lib.hid hown'; have S5 : Hid (W.grownBy w5 none) := Lib.hid (gb_new (gb_drew A2.out) hgrow (fun g hg => .inl (by simp [Value.ownBlock] at hg; omega))); have R5 : Hid (Row w5 (W.heap.size + 1) 65 [.int .i64 h.key, .int .i64 h.dist]) := Lib.hid ((B2.out.drewN 1).grown hgrow (by simp [Value.ownBlock])); clear hown' hgrow)
        | (refine step_append_rd _ (by rfl) (.tmp 10) (.tmp 11) 62 (by rfl) W.heap.size 65 i0 _ 2 16 Tryz.underlying62 hi0 hz0 hz1 hz2 rfl (by omega) (.slice (some ⟨W.heap.size + 1, 0, none⟩) 0 0) 0 [] (by rfl) M3.out.drew A n c 0 _ (cellsX l) (by rfl) (by rw [cellsX_length, ← HN.out]) (HR.out.keep (gb_drew A3.out) (Nat.le_refl _)) (cellsX_cell1 _) (by unfold maxLen; omega) (by omega) A3.out.size ?_; intro v5 w5 hown' hgrow; have T1 := Lib.hid hown'; have S5 : Hid (W.grownBy w5 none) := Lib.hid (gb_new (gb_drew A3.out) hgrow (fun g hg => .inl (by simp [Value.ownBlock] at hg; omega))); have R5 : Hid (Row w5 W.heap.size 65 [.int .i64 h.key, .int .i64 h.dist]) := Lib.hid ((B3.out.drewN 1).grown hgrow (by simp [Value.ownBlock])); clear hown' hgrow)
        | (refine step_append_lies _ (by rfl) (.tmp 12) (.tmp 14) 62 (by rfl) W.heap.size 65 i0 _ 2 16 Tryz.underlying62 hi0 hz0 hz1 hz2 rfl (by omega) v5 (0 + n) ([] ++ cellsX l) (by rfl) (T1.out.alloc (.cells #[.int .i64 h.key, .int .i64 h.dist] 65)) ⟨w5.heap.size, 0, none⟩ 1 1 [.int .i64 h.key, .int .i64 h.dist] (by rfl) (by rfl) (two_cell_at rfl) hit_oneCell (by omega) (by unfold maxLen; omega) (by omega) (gb_alloc S5.out _).size _ rfl ?_; intro gg cap w6 hown' hgrow hat hlt4; have T6 := Lib.hid hown'; have S6 : Hid (W.grownBy w6 none) := Lib.hid (gb_new (gb_alloc S5.out (.cells #[.int .i64 h.key, .int .i64 h.dist] 65)) hgrow (fun g hg => .inl (T1.out.lt g hg).1)); clear hown' hgrow hat)
        | (refine step_append_lies _ (by rfl) (.tmp 12) (.tmp 14) 62 (by rfl) W.heap.size 65 i0 _ 2 16 Tryz.underlying62 hi0 hz0 hz1 hz2 rfl (by omega) v5 (0 + n) ([] ++ cellsX l) (by rfl) T1.out ⟨W.heap.size + 1, 0, none⟩ 1 1 [.int .i64 h.key, .int .i64 h.dist] (by rfl) (by rfl) (two_row R5.out) hit_oneCell (by omega) (by unfold maxLen; omega) (by omega) S5.out.size _ rfl ?_; intro gg cap w6 hown' hgrow hat hlt4; have T6 := Lib.hid hown'; have S6 : Hid (W.grownBy w6 none) := Lib.hid (gb_new S5.out hgrow (fun g hg => .inl (T1.out.lt g hg).1)); clear hown' hgrow hat)
        | (refine step_append_lies _ (by rfl) (.tmp 12) (.tmp 14) 62 (by rfl) W.heap.size 65 i0 _ 2 16 Tryz.underlying62 hi0 hz0 hz1 hz2 rfl (by omega) v5 (0 + n) ([] ++ cellsX l) (by rfl) T1.out ⟨W.heap.size, 0, none⟩ 1 1 [.int .i64 h.key, .int .i64 h.dist] (by rfl) (by rfl) (two_row R5.out) hit_oneCell (by omega) (by unfold maxLen; omega) (by omega) S5.out.size _ rfl ?_; intro gg cap w6 hown' hgrow hat hlt4; have T6 := Lib.hid hown'; have S6 : Hid (W.grownBy w6 none) := Lib.hid (gb_new S5.out hgrow (fun g hg => .inl (T1.out.lt g hg).1)); clear hown' hgrow hat)
        | fail)
    all_goals
      go_wp2_with fail
      go_meet
      refine ⟨gg, cap, rfl, ?_, ?_, S6.out⟩
      · obtain ⟨g', cap', e, _, _⟩ := World.ownsRow.form T6.out (by omega)
        rcases T6.out.2 with ⟨_, h0⟩ | ⟨_, _, _, e, _, _, hnc, _⟩
        · omega
        · injection e with _ e2 e3
          omega
      · have h6 := T6.out
        rw [Nat.zero_add, List.nil_append] at h6
        rw [cellsX_append, cellsX_one]
        exact h6
  case rest =>
    obtain ⟨g, cx, rfl, hncx, hown, hg⟩ := hcut
    obtain ⟨w3, hw3⟩ : ∃ V, V = wc := ⟨_, rfl⟩
    rw [← hw3] at hown hg ⊢
    have HO := Lib.hid hown
    have HGL : Hid (W.heap.size ≤ g ∧ g < w3.heap.size) := Lib.hid (hown.lt g rfl)
    have G3 := Lib.hid (gb_trans HG.out hg)
    have hsz3 := hg.size
    clear hown hg hw3 HCE M1 M3 A1 A2 A3 B2 B3 x0 x1 HR HD
    go_wp2_with fail
    go_loopw [8] (fun i wr => ∃ j : Nat, j ≤ n ∧ i = .int .i64 j ∧ wr.ownsRow W.heap.size 65 2 (.slice (some ⟨g, 0, none⟩) (n + 1) cx) (n + 1) (cellsX (l.take j ++ h :: l.drop j)) ∧ (∀ x ∈ l.drop j, M.hlt h x = true) ∧ w3.grownBy wr (some g)) (fun i _ => (intOf i).toNat)
    case atStart => exact ⟨n, Nat.le_refl _, by go_num, by rw [List.take_of_length_le (by rw [← HN.out]; exact Nat.le_refl _), List.drop_of_length_le (by rw [← HN.out]; exact Nat.le_refl _)]; exact HO.out, by rw [List.drop_of_length_le (by rw [← HN.out]; exact Nat.le_refl _)]; simp, gb_refl _ _⟩
    case round =>
      obtain ⟨j, hj, rfl, hown, hall, hg⟩ := hrel
      have HR := Lib.hid hown
      have HL := Lib.hid hall
      have GW := Lib.hid hg
      clear hown hall hg
      obtain ⟨jj, hjj⟩ : ∃ jj : Nat, jj = min k.toNat (n + 1) := ⟨_, rfl⟩
      have hmin : min k ((n : Int) + 1) = (jj : Int) := by omega
      have hjn : jj ≤ n + 1 := by omega
      have hjn' : (jj : Int) ≤ cx := by omega
      have hj0 : (0 : Int) ≤ jj := by omega
      have hlj : (l.take j ++ h :: l.drop j).length = n + 1 := by
        rw [List.length_append, List.length_cons, List.length_take, List.length_drop, ← HN.out]
        omega
      have HCUT := Lib.hid (fun (W' : World) (hO : W'.ownsRow W.heap.size 65 2 (.slice (some ⟨g, 0, none⟩) (n + 1) cx) (n + 1) (cellsX (l.take j ++ h :: l.drop j))) => OwnX.cut hO hjn hlj)
      have HTK : Hid ((l.take j ++ h :: l.drop j).take jj = (l.take j ++ h :: l.drop j).take k.toNat) := Lib.hid (by
        rw [hjj]
        exact take_min _ _ hlj)
      have HLJ := Lib.hid hlj
      clear hlj hjj
      match j with
      | 0 =>
        have HIN : Hid (M.ins h l = l.take 0 ++ h :: l.drop 0) := Lib.hid (M.ins_at HW.out (Nat.zero_le _) HL.out (fun j hj => by omega))
        clear HL
        go_wp2_with fail
        refine wp_region_later (by kernel_rfl) (by kernel_rfl) ?_
        repeat (go_big_quiet_step ((fail)))
        refine wpQuiet_nil ?_
        rintro _ ⟨x, rfl⟩
        by_cases hkn : k ≤ (n : Int) + 1
        · have hk9 : k ≤ (cx : Int) := by omega
          have hk8 : (0 : Int) ≤ k := by omega
          go_wp2_with fail
          go_ret
          have hO := HR.out.kept x.h (own_ge HR.out (by simp))
          have hC := HCUT.out x.w hO
          rw [HTK.out, ← HIN.out, show jj = k.toNat by omega] at hC
          exact hitsMade_of (w0 := W) hC HG.out.size (gb_new (gb_new G3.out GW.out (fun g' e => .inl (by injection e with e; have := HGL.out; omega))) x.h (by simp))
        · have hk9 : (n : Int) + 1 ≤ cx := by omega
          go_wp2_with fail
          go_ret
          have hO := HR.out.kept x.h (own_ge HR.out (by simp))
          have hC := HCUT.out x.w hO
          rw [HTK.out, ← HIN.out, show jj = n + 1 by omega] at hC
          exact hitsMade_of (w0 := W) hC HG.out.size (gb_new (gb_new G3.out GW.out (fun g' e => .inl (by injection e with e; have := HGL.out; omega))) x.h (by simp))
      | j' + 1 =>
        have hjl : j' < l.length := by rw [← HN.out]; exact hj
        have hpl : (l.take j').length = j' := by rw [List.length_take]; omega
        have hsp : l.take (j' + 1) ++ h :: l.drop (j' + 1) = l.take j' ++ l[j'] :: h :: l.drop (j' + 1) := by rw [List.take_succ_eq_append_getElem hjl, List.append_assoc]; rfl
        have hdr : l.drop j' = l[j'] :: l.drop (j' + 1) := List.drop_eq_getElem_cons hjl
        have hR := HR.out
        rw [hsp] at hR
        have hat0 : (l.take j' ++ l[j'] :: h :: l.drop (j' + 1))[j']? = some l[j'] := by rw [List.getElem?_append_right (by omega), hpl, Nat.sub_self]; rfl
        have hat1 : (l.take j' ++ l[j'] :: h :: l.drop (j' + 1))[j' + 1]? = some h := by rw [List.getElem?_append_right (by omega), hpl, Nat.add_sub_cancel_left]; rfl
        obtain ⟨a0, a1⟩ := cellsX_at hat0
        obtain ⟨a2, a3⟩ := cellsX_at hat1
        have c0 : wr.cell? ⟨g, j' * 2, none⟩ = some (.int .i64 l[j'].key) := (hR.cellAt _ (by omega)).trans a0
        have c1 : wr.cell? ⟨g, j' * 2 + 1, none⟩ = some (.int .i64 l[j'].dist) := (hR.cellAt _ (by omega)).trans a1
        have c2 : wr.cell? ⟨g, (j' + 1) * 2, none⟩ = some (.int .i64 h.key) := (hR.cellAt _ (by omega)).trans a2
        have c3 : wr.cell? ⟨g, (j' + 1) * 2 + 1, none⟩ = some (.int .i64 h.dist) := (hR.cellAt _ (by omega)).trans a3
        have hM : ∀ b, M.hlt h l[j'] = b → (b = true → ∀ x ∈ l.drop j', M.hlt h x = true) ∧ (b = false → M.ins h l = l.take (j' + 1) ++ h :: l.drop (j' + 1)) := fun b hb => by
          refine ⟨fun e x hx => ?_, fun e => M.ins_at HW.out hjl HL.out (fun i hi => ?_)⟩
          · rw [hdr] at hx
            rcases List.mem_cons.1 hx with rfl | hx
            · rw [hb, e]
            · exact HL.out x hx
          · obtain rfl : i = j' := by omega
            rw [List.getD_eq_getElem?_getD, List.getElem?_eq_getElem hjl]
            show M.hlt h l[i] = false
            rw [hb, e]
        have HMM := Lib.hid hM
        have HSP := Lib.hid hsp
        have HDR := Lib.hid hdr
        have HRR := Lib.hid hR
        have HPL := Lib.hid hpl
        clear hat0 hat1 a0 a1 a2 a3 hM hsp hdr hR hpl HL
        generalize l[j'] = y at *
        have l0 : ∀ x : Later wr, x.w.cell? ⟨g, j' * 2, none⟩ = some (.int .i64 y.key) := fun x => x.cell c0
        have l1 : ∀ x : Later wr, x.w.cell? ⟨g, j' * 2 + 1, none⟩ = some (.int .i64 y.dist) := fun x => x.cell c1
        have l2 : ∀ x : Later wr, x.w.cell? ⟨g, (j' + 1) * 2, none⟩ = some (.int .i64 h.key) := fun x => x.cell c2
        have l3 : ∀ x : Later wr, x.w.cell? ⟨g, (j' + 1) * 2 + 1, none⟩ = some (.int .i64 h.dist) := fun x => x.cell c3
        have kn : (j' : Int) + 1 ≤ n := by omega
        have k0 : (0 : Int) ≤ j' := by omega
        clear c0 c1 c2 c3
        cases hb : M.hlt h y
        · have HB := Lib.hid (fun W' => hb ▸ HNE.out W' h y)
          have HIN := Lib.hid ((HMM.out _ hb).2 rfl)
          clear hb
          go_wp2_with fail
          refine wp_region_later (by kernel_rfl) (by kernel_rfl) ?_
          repeat (go_big_quiet_step ((go_at_call 105; exact later_call (HB.out _))))
          refine wpQuiet_nil ?_
          rintro _ ⟨x, rfl⟩
          by_cases hkn : k ≤ (n : Int) + 1
          · have hk9 : k ≤ (cx : Int) := by omega
            have hk8 : (0 : Int) ≤ k := by omega
            go_wp2_with fail
            go_ret
            have hO := HR.out.kept x.h (own_ge HR.out (by simp))
            have hC := HCUT.out x.w hO
            rw [HTK.out, ← HIN.out, show jj = k.toNat by omega] at hC
            exact hitsMade_of (w0 := W) hC HG.out.size (gb_new (gb_new G3.out GW.out (fun g' e => .inl (by injection e with e; have := HGL.out; omega))) x.h (by simp))
          · have hk9 : (n : Int) + 1 ≤ cx := by omega
            go_wp2_with fail
            go_ret
            have hO := HR.out.kept x.h (own_ge HR.out (by simp))
            have hC := HCUT.out x.w hO
            rw [HTK.out, ← HIN.out, show jj = n + 1 by omega] at hC
            exact hitsMade_of (w0 := W) hC HG.out.size (gb_new (gb_new G3.out GW.out (fun g' e => .inl (by injection e with e; have := HGL.out; omega))) x.h (by simp))
        · have HB := Lib.hid (fun W' => hb ▸ HNE.out W' h y)
          have HAL := Lib.hid ((HMM.out _ hb).1 rfl)
          clear hb
          go_wp2_with fail
          refine wp_region_later (by kernel_rfl) (by kernel_rfl) ?_
          repeat (go_big_quiet_step ((go_at_call 105; exact later_call (HB.out _))))
          refine wpQuiet_nil ?_
          rintro _ ⟨x, rfl⟩
          have hRx := HRR.out.kept x.h (own_ge HRR.out (by simp))
          obtain ⟨h4, hg4, ⟨f0, f1, f2, f3⟩, d1, d2, d3⟩ := swap_row HPL.out hRx
          have HX4 := Lib.hid h4
          have HG4 := Lib.hid hg4
          have d0 := l2 x
          have e0 := l0 x
          have e1 := l1 x
          have e3 := l3 x
          have hgx : g < x.w.heap.size := by have := x.h.size; have := GW.out.size; have := HGL.out; omega
          clear h4 hg4 hRx
          go_wp2_with fail
          go_roundw
          case rel =>
            refine ⟨j', by omega, by go_num, ?_, HAL.out, gb_alloc (gb_trans GW.out (gb_trans (gb_some x.h _) HG4.out)) _⟩
            have h9 := HX4.out.alloc (.cells #[.int .i64 h.key, .int .i64 h.dist] 65)
            rw [HDR.out]
            exact h9
          case measure => simp [intOf]
end Go.Proofs.YtibbpbbgmgdpdaaGreatDoor
