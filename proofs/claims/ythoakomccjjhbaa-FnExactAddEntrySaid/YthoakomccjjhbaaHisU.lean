/- The walks of what is made of histories. -/
import Derived.Test.YthoakomccjjhbaaHisW
import Derived.Test.YthoakomccjjhbaaDistW
import Derived.Deep.AppendLies
import Derived.Deep.RegionLaw
import Derived.Deep.DeepCutAuto
namespace Go.Proofs.Ythoakomccjjhbaa
open Go.RowKit
set_option linter.unusedVariables false
set_option linter.unusedSimpArgs false
set_option maxRecDepth 100000

theorem upTo_succ {l : List Int} {k : Nat} (hk : k < l.length) (t : Int) : M.upTo (l.take (k + 1)) t = M.upTo (l.take k) t + if l[k] ≤ t then 1 else 0 := by
  rw [List.take_succ_eq_append_getElem hk, M.upTo_append]
theorem upTo_take_le (l : List Int) (t : Int) (k : Nat) : M.upTo (l.take k) t ≤ k := Nat.le_trans (M.upTo_le _ _) (List.length_take_le _ _)
set_option maxHeartbeats 1000000 in
theorem upTo_spec {w : World} {A B : Option Addr} {m c d : Nat} {ts : List Int} {t : Int} (E : SeesN .i64 w B ts) :
    Calls Try.prog 62 #[.agg #[.slice A m c, .slice B ts.length d], .int .i64 t] w fun e w' => e = .returned (.int .i64 (M.upTo ts t)) ∧ w.grownBy w' none := by
  have hl := E.2
  obtain ⟨n, hn⟩ : ∃ n, n = ts.length := ⟨_, rfl⟩
  rw [← hn] at hl ⊢
  have HN := Lib.hid hn
  have HE := Lib.hid E
  clear hn E
  have B0 := Lib.hid (Row.new w 26 (ca := #[.slice A m c, .slice B n d]) rfl)
  have G0 := Lib.hid (World.grownBy_alloc w (.cells #[.slice A m c, .slice B n d] 26) none)
  go_enter Try.func62, Try.ntmps62
  go_wp2_with fail
  go_loopw [5, 6] (fun v i wr => ∃ k : Nat, k ≤ n ∧ i = .int .i64 k ∧ v = .int .i64 (M.upTo (ts.take k) t) ∧ Row wr w.heap.size 26 [.slice A m c, .slice B n d] ∧ w.grownBy wr none) (fun _ i _ => n - (intOf i).toNat)
  case atStart => exact ⟨0, Nat.zero_le _, rfl, rfl, B0.out, G0.out⟩
  case round =>
    obtain ⟨k, hk, rfl, rfl, hbox, hg⟩ := hrel
    have HG := Lib.hid hg
    have HB := Lib.hid hbox
    have q1 := hbox.cell 1
    simp only [List.getElem?_cons_zero, List.getElem?_cons_succ] at q1
    clear hg hbox
    have hu := upTo_take_le ts t k
    by_cases hlt : k < n
    · have hkl : k < ts.length := by rw [← HN.out]; exact hlt
      obtain ⟨b, o, rfl, _, _, hC⟩ := (HE.out.on HG.out).1.at_ (j := k) (u := .int .i64 ts[k]) (by simp [hkl])
      have HS := Lib.hid (upTo_succ hkl t)
      have kn : (k : Int) < n := by omega
      have k0 : (0 : Int) ≤ k := by omega
      generalize ts[k] = x at *
      by_cases hx : x ≤ t
      · have tx : decide (x ≤ t) = true := decide_eq_true hx
        rw [if_pos hx] at HS
        clear hx
        have HC := Lib.hid (show Calls Try.prog 93 #[.bool true] wr (fun e w' => e = .returned (.int .i64 1) ∧ wr = w') from specToInt_any wr true)
        go_wp2_with fail
        refine HC.out.mono ?_
        rintro e w' ⟨rfl, rfl⟩
        go_wp2_with fail
        go_roundw
        case rel => exact ⟨k + 1, by omega, by go_num, by rw [HS.out]; go_num, HB.out, HG.out⟩
        case measure => simp [intOf]; omega
      · have tx : decide (x ≤ t) = false := decide_eq_false hx
        rw [if_neg hx] at HS
        clear hx
        have HC := Lib.hid (show Calls Try.prog 93 #[.bool false] wr (fun e w' => e = .returned (.int .i64 0) ∧ wr = w') from specToInt_any wr false)
        go_wp2_with fail
        refine HC.out.mono ?_
        rintro e w' ⟨rfl, rfl⟩
        go_wp2_with fail
        go_roundw
        case rel => exact ⟨k + 1, by omega, by go_num, by rw [HS.out]; go_num, HB.out, HG.out⟩
        case measure => simp [intOf]; omega
    · obtain rfl : k = n := by omega
      have HF : Hid (M.upTo (ts.take k) t = M.upTo ts t) := Lib.hid (by rw [HN.out, List.take_length])
      go_wp2_with fail
      go_ret
      exact ⟨ret_int (by rw [HF.out]), HG.out⟩
/-- the log and the times of a history of the call's own, all in blocks apart -/
def OwnH (w : World) (lo : Nat) (v1 v2 : Value) (l : List M.Entry) (ts : List Int) : Prop :=
  ∃ LV : List (M.Entry × Value), LV.map (·.1) = l ∧ w.ownsRow lo 30 4 v1 LV.length (cellsE LV) ∧ (∀ p ∈ LV, OwnInts .i64 3 w lo p.2 p.1.item.pos) ∧
    LV.Pairwise (fun p q => p.2.ownBlock = none ∨ p.2.ownBlock ≠ q.2.ownBlock) ∧ OwnInts .i64 3 w lo v2 ts ∧ ∀ p ∈ LV, p.2.ownBlock = none ∨ p.2.ownBlock ≠ v2.ownBlock
theorem OwnH.entries {w : World} {lo : Nat} {v1 v2 : Value} {l : List M.Entry} {ts : List Int} (h : OwnH w lo v1 v2 l ts) : OwnEntries w lo v1 l := by
  obtain ⟨LV, a, b, c, d, e, f⟩ := h; exact ⟨LV, a, b, c, d⟩
theorem OwnH.times {w : World} {lo : Nat} {v1 v2 : Value} {l : List M.Entry} {ts : List Int} (h : OwnH w lo v1 v2 l ts) : OwnInts .i64 3 w lo v2 ts := by
  obtain ⟨LV, a, b, c, d, e, f⟩ := h; exact e
theorem OwnH.grown {w w' : World} {lo : Nat} {v1 v2 : Value} {l : List M.Entry} {ts : List Int} {r : Option Nat} (h : OwnH w lo v1 v2 l ts) (hg : w.grownBy w' r) (hr : ∀ g, r = some g → g < lo) : OwnH w' lo v1 v2 l ts := by
  obtain ⟨LV, a, b, c, d, e, f⟩ := h
  exact ⟨LV, a, b.kept hg (own_ge b hr), fun p hp => (c p hp).grown hg hr, d, e.grown hg hr, f⟩
theorem OwnH.set_ {w : World} {lo : Nat} {v1 v2 : Value} {l : List M.Entry} {ts : List Int} {p : Addr} (h : OwnH w lo v1 v2 l ts) (hp : p.block < lo) (u : Value) : OwnH (w.setCell p u) lo v1 v2 l ts :=
  h.grown (gb_setCell (gb_refl w (some p.block)) (.inr rfl) u) (fun g e => by injection e with e; omega)
theorem OwnH.wide {w : World} {lo lo' : Nat} {v1 v2 : Value} {l : List M.Entry} {ts : List Int} (h : OwnH w lo v1 v2 l ts) (hl : lo' ≤ lo) : OwnH w lo' v1 v2 l ts := by
  obtain ⟨LV, a, b, c, d, e, f⟩ := h
  refine ⟨LV, a, ⟨b.1, ?_⟩, fun p hp => (c p hp).wide hl, d, e.wide hl, f⟩
  rcases b.2 with h0 | ⟨g, cap, cur, hv, hg, r⟩
  · exact .inl h0
  · exact .inr ⟨g, cap, cur, hv, by omega, r⟩
theorem OwnH.nil_ (w : World) (lo : Nat) : OwnH w lo (.slice none 0 0) (.slice none 0 0) [] [] :=
  ⟨[], rfl, ⟨rfl, .inl ⟨rfl, rfl⟩⟩, by simp, List.Pairwise.nil, ⟨rfl, .inl ⟨rfl, rfl⟩⟩, by simp⟩
theorem owns_ne {w : World} {lo size n g : Nat} {t t' : TypeId} {v : Value} {xs cs : List Value} (h : w.ownsRow lo t size v n xs) (hr : Row w g t' cs) (ht : t ≠ t') : some g ≠ v.ownBlock := by
  rcases h.2 with ⟨rfl, _⟩ | ⟨g', cap, cur, rfl, _, hh, _⟩
  · simp [Value.ownBlock]
  · simp only [Value.ownBlock, ne_eq, Option.some.injEq]
    rintro rfl
    unfold Row at hr
    rw [hh] at hr
    injection hr with h3
    injection h3 with _ h4
    exact ht h4
theorem OwnH.set_row {w : World} {lo g i : Nat} {v1 v2 : Value} {l : List M.Entry} {ts : List Int} {cs : List Value} (h : OwnH w lo v1 v2 l ts) (hr : Row w g 26 cs) (u : Value) : OwnH (w.setCell ⟨g, i, none⟩ u) lo v1 v2 l ts := by
  have hg : w.grownBy (w.setCell ⟨g, i, none⟩ u) (some g) := gb_setCell (gb_refl w (some g)) (.inr rfl) u
  have hk : ∀ {t : TypeId} {size n : Nat} {v : Value} {xs : List Value}, w.ownsRow lo t size v n xs → t ≠ 26 → v.ownBlock = none ∨ v.ownBlock ≠ some g := fun hv ht => .inr (owns_ne hv hr ht).symm
  obtain ⟨LV, a, b, c, d, e, f⟩ := h
  exact ⟨LV, a, b.kept hg (hk b (by decide)), fun p hp => (c p hp).kept hg (hk (c p hp) (by decide)), d, e.kept hg (hk e (by decide)), f⟩
/-- entries and times made one behind the other -/
theorem ownH_of {w : World} {lo mid : Nat} {v1 v2 : Value} {l : List M.Entry} {ts : List Int} {w0 : World} (h1 : OwnEntries w0 lo v1 l) (hm : w0.heap.size ≤ mid) (hg : w0.grownBy w none) (hl : lo ≤ mid) (h2 : OwnInts .i64 3 w mid v2 ts) : OwnH w lo v1 v2 l ts := by
  obtain ⟨LV, a, b, c, d⟩ := h1
  refine ⟨LV, a, b.kept hg (own_ge b (by simp)), fun p hp => (c p hp).grown hg (by simp), d, h2.wide hl, fun p hp => ?_⟩
  cases hb : p.2.ownBlock with
  | none => exact .inl rfl
  | some g =>
    refine .inr fun e => ?_
    have a1 := ((c p hp).lt g hb).2
    have a2 := (h2.lt g e.symm).1
    omega
theorem OwnH.pushE {wr w1 w2 w4 : World} {B : Nat} {v v2 v' u : Value} {LV : List (M.Entry × Value)} {ts : List Int} {y : M.Entry} (hO : wr.ownsRow B 30 4 v LV.length (cellsE LV)) (hI : ∀ p ∈ LV, OwnInts .i64 3 wr B p.2 p.1.item.pos)
    (hP : LV.Pairwise (fun p q => p.2.ownBlock = none ∨ p.2.ownBlock ≠ q.2.ownBlock)) (hT : OwnInts .i64 3 wr B v2 ts) (hD : ∀ p ∈ LV, p.2.ownBlock = none ∨ p.2.ownBlock ≠ v2.ownBlock)
    (h1 : wr.grownBy w1 none) (hc : OwnInts .i64 3 w1 wr.heap.size u y.item.pos) (hB : B ≤ wr.heap.size) (h12 : w1.grownBy w2 none)
    (T1 : w4.ownsRow B 30 4 v' (LV.length + 1) (cellsE LV ++ [.int .i64 y.kind, .int .i64 y.item.key, u, .int .i64 y.item.tags])) (T2 : w2.grownBy w4 v.ownBlock) : OwnH w4 B v' v2 (LV.map (·.1) ++ [y]) ts := by
  have hv2 : w2.ownsRow B 30 4 v LV.length (cellsE LV) := (hO.kept h1 (own_ge hO (by simp))).kept h12 (own_ge hO (by simp))
  refine ⟨LV ++ [(y, u)], by simp, by rw [cellsE_append, cellsE_one, List.length_append]; exact T1, fun q hq => ?_, ?_, ?_, fun q hq => ?_⟩
  · rw [List.mem_append] at hq
    rcases hq with hq | hq
    · have h := ((hI q hq).grown h1 (by simp)).grown h12 (by simp)
      exact h.kept T2 (ent_types h hv2)
    · simp at hq; subst hq
      have h := (hc.grown h12 (by simp)).wide hB
      exact h.kept T2 (ent_types h hv2)
  · rw [List.pairwise_append]
    refine ⟨hP, by simp, fun q hq r hr => ?_⟩
    simp at hr; subst hr
    cases hb : q.2.ownBlock with
    | none => exact .inl rfl
    | some b =>
      refine .inr fun e => ?_
      have a1 := ((hI q hq).lt b hb).2
      have a2 := (hc.lt b e.symm).1
      omega
  · have h := (hT.grown h1 (by simp)).grown h12 (by simp)
    exact h.kept T2 (ent_types h hv2)
  · rw [List.mem_append] at hq
    rcases hq with hq | hq
    · exact hD q hq
    · simp at hq; subst hq
      cases hb : u.ownBlock with
      | none => exact .inl rfl
      | some b =>
        refine .inr fun e => ?_
        have a1 := (hT.lt b e.symm).2
        have a2 := (hc.lt b hb).1
        omega
theorem OwnH.pushT {w5 w5' w6 : World} {B gg n cap : Nat} {v1 v2 : Value} {l : List M.Entry} {ts : List Int} {x : Int} (h : OwnH w5 B v1 v2 l ts) (hg : w5.grownBy w5' none)
    (T1 : w6.ownsRow B 3 1 (.slice (some ⟨gg, 0, none⟩) (n + 1) cap) (n + 1) (ts.map (.int .i64) ++ [.int .i64 x])) (hn : n = ts.length) (T2 : w5'.grownBy w6 v2.ownBlock) (hat : v2.ownBlock = some gg ∨ gg = w5'.heap.size) : OwnH w6 B v1 (.slice (some ⟨gg, 0, none⟩) (n + 1) cap) l (ts ++ [x]) := by
  obtain ⟨LV, a, b, c, d, e, f⟩ := h
  have e' : OwnInts .i64 3 w5' B v2 ts := e.grown hg (by simp)
  have b' := b.kept hg (own_ge b (by simp))
  subst hn
  refine ⟨LV, a, b'.kept T2 ?_, fun p hp => ?_, d, ?_, fun p hp => ?_⟩
  · rcases ent_types e' b' with h | h
    · by_cases h9 : v1.ownBlock = none
      · exact .inl h9
      · exact .inr (by rw [h]; exact h9)
    · exact .inr (fun h2 => h h2.symm)
  · have cp := (c p hp).grown hg (by simp)
    refine cp.kept T2 ?_
    rcases f p hp with h | h
    · exact .inl h
    · exact .inr h
  · unfold OwnInts
    rw [List.map_append, List.length_append]
    exact T1
  · cases hb : p.2.ownBlock with
    | none => exact .inl rfl
    | some g =>
      refine .inr fun e1 => ?_
      simp only [Value.ownBlock, Option.some.injEq] at e1
      subst e1
      rcases hat with h | h
      · rcases f p hp with h2 | h2
        · rw [hb] at h2; cases h2
        · exact h2 (hb.trans h.symm)
      · have := ((c p hp).lt g hb).2
        have := hg.size
        omega
/-- a history is handed back -/
def HisMade (w : World) (lo : Nat) (h : M.Hist) (v : Value) (w' : World) : Prop :=
  ∃ A c B d, v = .agg #[.slice A h.log.length c, .slice B h.times.length d] ∧ h.log.length ≤ c ∧ h.times.length ≤ d ∧ OwnH w' lo (.slice A h.log.length c) (.slice B h.times.length d) h.log h.times ∧ w.grownBy w' none
theorem OwnEntries.set_ {w : World} {lo : Nat} {v : Value} {L : List M.Entry} {p : Addr} (h : OwnEntries w lo v L) (hp : p.block < lo) (u : Value) : OwnEntries (w.setCell p u) lo v L :=
  h.grown (gb_setCell (gb_refl w (some p.block)) (.inr rfl) u) (fun g e => by injection e with e; omega)
theorem his_three (w : World) (x y : Value) : Row (((w.alloc (.cells #[x, y] 26)).alloc (.cells #[.slice none 0 0, .slice none 0 0] 26)).alloc (.cells #[] 30)) w.heap.size 26 [x, y] ∧
    Row (((w.alloc (.cells #[x, y] 26)).alloc (.cells #[.slice none 0 0, .slice none 0 0] 26)).alloc (.cells #[] 30)) (w.heap.size + 1) 26 [.slice none 0 0, .slice none 0 0] ∧
    OwnEntries (((w.alloc (.cells #[x, y] 26)).alloc (.cells #[.slice none 0 0, .slice none 0 0] 26)).alloc (.cells #[] 30)) (w.heap.size + 1 + 1) (.slice (some ⟨w.heap.size + 1 + 1, 0, none⟩) 0 0) [] ∧
    w.grownBy (((w.alloc (.cells #[x, y] 26)).alloc (.cells #[.slice none 0 0, .slice none 0 0] 26)).alloc (.cells #[] 30)) none ∧
    (((w.alloc (.cells #[x, y] 26)).alloc (.cells #[.slice none 0 0, .slice none 0 0] 26)).alloc (.cells #[] 30)).heap.size = w.heap.size + 3 := by
  refine ⟨((Row.new w _ rfl).alloc _).alloc _, ?_, ⟨[], rfl, ?_, by simp, List.Pairwise.nil⟩, gb_alloc (gb_alloc (gb_alloc (gb_refl _ _) _) _) _, by simp⟩
  · have := Row.new (w.alloc (.cells #[x, y] 26)) 26 (ca := #[.slice none 0 0, .slice none 0 0]) rfl
    simp only [World.size_alloc] at this
    exact this.alloc _
  · have := World.ownsRow_made (base := w.heap.size + 1 + 1) (e := 30) (size := 4) ((w.alloc (.cells #[x, y] 26)).alloc (.cells #[.slice none 0 0, .slice none 0 0] 26)) #[] 0 (by simp) (by decide) rfl
    simpa [cellsE] using this
set_option maxHeartbeats 2000000 in
theorem copyHistory_spec {w : World} {A B : Option Addr} {c d q : Nat} {h : M.Hist} (D : SeesH w A B h) (hq1 : q ≤ h.log.length) (hq2 : q ≤ h.times.length) (hq3 : h.times.length ≤ d) (hq32 : q ≤ 32) :
    Calls Try.prog 53 #[.agg #[.slice A h.log.length c, .slice B h.times.length d], .int .i64 q] w fun e w' => ∃ v, e = .returned v ∧ HisMade w w.heap.size (M.takeH h q) v w' := by
  obtain ⟨i0, hi0, hz0, hz1, hz2⟩ := info_parts info_entry'
  obtain ⟨l, ts⟩ := h
  have HD := Lib.hid (show SeesE w A l from D.1)
  have HE := Lib.hid (show SeesN .i64 w B ts from D.2)
  clear D
  show Calls Try.prog 53 #[.agg #[.slice A l.length c, .slice B ts.length d], .int .i64 q] w _
  have hq1 : q ≤ l.length := hq1
  have hq2 : q ≤ ts.length := hq2
  have hq3 : ts.length ≤ d := hq3
  have hl1 := HD.out.2.1
  have hl2 := HE.out.2
  obtain ⟨m, hm⟩ : ∃ m, m = l.length := ⟨_, rfl⟩
  obtain ⟨n, hn⟩ : ∃ n, n = ts.length := ⟨_, rfl⟩
  rw [← hm] at hq1 hl1 ⊢
  rw [← hn] at hq2 hq3 hl2 ⊢
  have HM := Lib.hid hm
  have HN := Lib.hid hn
  clear hm hn
  go_enter Try.func53, Try.ntmps53
  go_wp2_with fail
  refine wp_name (fun W => Row W w.heap.size 26 [.slice A m c, .slice B n d] ∧ Row W (w.heap.size + 1) 26 [.slice none 0 0, .slice none 0 0] ∧ OwnEntries W (w.heap.size + 1 + 1) (.slice (some ⟨w.heap.size + 1 + 1, 0, none⟩) 0 0) [] ∧ w.grownBy W none ∧ W.heap.size = w.heap.size + 3) (his_three w _ _) ?_
  rintro w0 ⟨r0, r1, ho, hg, hz⟩
  have R0 := Lib.hid r0
  have R1 := Lib.hid r1
  have O0 := Lib.hid ho
  have G0 := Lib.hid hg
  clear r0 r1 ho hg
  go_loopw [5, 6] (fun v i wr => ∃ k : Nat, k ≤ q ∧ i = .int .i64 k ∧ OwnEntries wr (w.heap.size + 1 + 1) v (l.take k) ∧ Row wr w.heap.size 26 [.slice A m c, .slice B n d] ∧ Row wr (w.heap.size + 1) 26 [.slice none 0 0, .slice none 0 0] ∧ w.grownBy wr none ∧ w.heap.size + 3 ≤ wr.heap.size) (fun _ i _ => q - (intOf i).toNat)
  case atStart => exact ⟨0, Nat.zero_le _, rfl, O0.out, R0.out, R1.out, G0.out, by omega⟩
  case round =>
    obtain ⟨k, hk, rfl, hown, hr0, hr1, hg, hsz⟩ := hrel
    clear R0 R1 O0 G0
    have O := Lib.hid hown
    have G := Lib.hid hg
    have R0 := Lib.hid hr0
    have R1 := Lib.hid hr1
    have q0 := hr0.cell 0
    have q1 := hr0.cell 1
    simp only [List.getElem?_cons_zero, List.getElem?_cons_succ] at q0 q1
    have hlk : (l.take k).length = k := by rw [List.length_take, ← HM.out]; omega
    clear hown hr0 hr1 hg
    by_cases hlt : k < q
    · have hkl : k < l.length := by rw [← HM.out]; omega
      obtain ⟨b, o, rfl, hb1, hb2, hJ⟩ := (HD.out.on G.out).1.at_ (List.getElem?_eq_getElem hkl)
      obtain ⟨u, c0, c1, c2, c3, hu⟩ := hJ
      obtain ⟨Au, cu, rfl, hcu, hru⟩ := hu
      have HU := Lib.hid (show RdInts .i64 wr 0 wr.heap.size (.slice Au l[k].item.pos.length cu) l[k].item.pos from ⟨_, _, rfl, hcu, hru⟩)
      have hpl : l[k].item.pos.length ≤ 1048576 := HD.out.2.2 _ (List.getElem_mem hkl)
      have HT := Lib.hid (List.take_succ_eq_append_getElem hkl)
      have kn : (k : Int) < m := by omega
      have k0 : (0 : Int) ≤ k := by omega
      clear hcu hru hlk
      generalize l[k] = y at *
      go_wp2_with fail
      refine (copyEntry_spec wr (.slice Au y.item.pos.length cu) y hpl HU.out).mono ?_
      rintro e w3 ⟨Ac, cc, rfl, hc3, hg3⟩
      have G3 := Lib.hid hg3
      have HC3 := Lib.hid hc3
      obtain ⟨LV, hLV, hO, hI9, hP⟩ := O.out
      have hlv : LV.length ≤ 32 := by
        have := congrArg List.length hLV
        rw [List.length_map, List.length_take] at this
        omega
      have H1 := Lib.hid hLV
      have H2 := Lib.hid hO
      have H3 := Lib.hid hI9
      have H4 := Lib.hid hP
      have H2a := Lib.hid ((H2.out.kept G3.out (own_ge H2.out (by simp))).alloc (.cells #[.int .i64 y.kind, .int .i64 y.item.key, .slice Ac y.item.pos.length cc, .int .i64 y.item.tags] 30))
      have hs3 := G3.out.size
      clear hLV hO hI9 hP hg3 hc3 q0 q1 c0 c1 c2 c3
      go_wp2_with (at_builtin; refine wpList_append_own _ rfl (.tmp 13) (.tmp 20) 23 rfl (w.heap.size + 1 + 1) 30 i0 _ 4 48 Try.underlying23 hi0 hz0 hz1 hz2 rfl (by decide) _ LV.length (cellsE LV) rfl H2a.out ⟨w3.heap.size, 0, none⟩ 1 1 [.int .i64 y.kind, .int .i64 y.item.key, .slice Ac y.item.pos.length cc, .int .i64 y.item.tags] rfl rfl (four_cell_at rfl) entry_oneCell (by unfold maxLen; omega) (by omega) (by simp; omega) ?_; intro v' w4 hown' hgrow _; have T1 := Lib.hid hown'; have T2 := Lib.hid hgrow; clear hown' hgrow)
      go_roundw
      case rel =>
        refine ⟨k + 1, by omega, by go_num, ?_, ?_, ?_, ?_, ?_⟩
        · rw [HT.out, ← H1.out]
          exact epush_step H2.out H3.out H4.out G3.out HC3.out (by omega) (World.grownBy_alloc _ _ _) T1.out T2.out
        · exact ((R0.out.grown G3.out (by simp)).alloc _).grown T2.out (fun e => by have := (H2.out.lt _ e.symm).1; omega)
        · exact ((R1.out.grown G3.out (by simp)).alloc _).grown T2.out (fun e => by have := (H2.out.lt _ e.symm).1; omega)
        · exact gb_new (gb_alloc (gb_trans G.out G3.out) _) T2.out (fun b hb => .inl (by have := (H2.out.lt b hb).1; omega))
        · have := T2.out.size
          simp only [World.size_alloc] at this
          omega
      case measure => simp [intOf]; omega
    · obtain rfl : k = q := by omega
      have HLT : Hid ((ts.take k).length = k) := Lib.hid (by rw [List.length_take, ← HN.out]; omega)
      have HCI : Hid (∀ W, wr.grownBy W none → Calls Try.prog 88 #[.slice B k d] W fun e w' => ∃ v, e = .returned v ∧ OwnInts .i64 3 w' W.heap.size v (ts.take k) ∧ W.grownBy w' none) := Lib.hid fun W hW => by
        have E := (HE.out.on G.out).on hW
        have e := copyInts_spec W B d 0 W.heap.size (ts.take k) (by rw [HLT.out]; omega) (by rw [List.map_take]; exact E.1.take k) (Nat.le_refl _)
        rwa [HLT.out] at e
      obtain ⟨Av, cv, hvv, hcv, _⟩ := O.out.rd
      rw [hlk] at hvv hcv
      subst hvv
      have HCV := Lib.hid hcv
      have HLK := Lib.hid hlk
      have e0 := R1.out.cell 0
      have e1 := R1.out.cell 1
      simp only [List.getElem?_cons_zero, List.getElem?_cons_succ] at e0 e1
      have f0 := R1.out.frozen 0
      have f1 := R1.out.frozen 1
      clear hlk hcv
      go_wp2_with fail
      refine (HCI.out _ (gb_refl _ _)).mono ?_
      rintro e w3 ⟨v, rfl, ho, hg3⟩
      obtain ⟨Ai, ci, rfl, hci, _⟩ := ho.rd
      rw [HLT.out] at hci ⊢
      have O3 := Lib.hid ho
      have HCI2 := Lib.hid hci
      have G3 := Lib.hid hg3
      have P1 := Lib.hid (R1.out.grown hg3 (by simp))
      clear ho hci hg3 q0 q1 e0 e1 f0 f1
      have e0 := P1.out.cell 0
      have e1 := P1.out.cell 1
      simp only [List.getElem?_cons_zero, List.getElem?_cons_succ] at e0 e1
      have f0 := P1.out.frozen 0
      have f1 := P1.out.frozen 1
      go_wp2_with fail
      refine bodyPost_ret (v := .agg #[.slice Av k cv, .slice Ai k ci]) (by simp [results, Try.results53, go_sem, e0, e1]) rfl ⟨_, rfl, ?_⟩
      refine ⟨Av, cv, Ai, ci, by show _ = Value.agg #[.slice Av (l.take k).length cv, .slice Ai (ts.take k).length ci]; rw [HLK.out, HLT.out], by show (l.take k).length ≤ cv; rw [HLK.out]; exact HCV.out, by show (ts.take k).length ≤ ci; rw [HLT.out]; exact HCI2.out, ?_, ?_⟩
      · show OwnH _ _ (.slice Av (l.take k).length cv) (.slice Ai (ts.take k).length ci) (l.take k) (ts.take k)
        refine OwnH.wide (lo := w.heap.size + 1 + 1) ?_ (by omega)
        repeat (with_reducible refine OwnH.set_ (p := ⟨_, _, none⟩) ?_ (by show w.heap.size + 1 < _; omega) _)
        rw [HLK.out]
        exact ownH_of O.out (Nat.le_refl _) G3.out (by omega) O3.out
      · repeat (with_reducible refine gb_setCell (p := ⟨_, _, none⟩) ?_ (.inl (by show _ ≤ w.heap.size + 1; omega)) _)
        exact gb_trans G.out G3.out
theorem ownE_nil (w : World) (lo : Nat) : OwnEntries w lo (.slice none 0 0) [] := ⟨[], rfl, ⟨rfl, .inl ⟨rfl, rfl⟩⟩, by simp, List.Pairwise.nil⟩
theorem ownN_nil (k : IntKind) (t : TypeId) (w : World) (lo : Nat) : OwnInts k t w lo (.slice none 0 0) [] := ⟨rfl, .inl ⟨rfl, rfl⟩⟩
theorem his_three' (w : World) (x y : Value) : Row (((w.alloc (.cells #[x, y] 26)).alloc (.cells #[.slice none 0 0, .slice none 0 0] 26)).alloc (.cells #[.slice none 0 0, .slice none 0 0] 26)) w.heap.size 26 [x, y] ∧
    Row (((w.alloc (.cells #[x, y] 26)).alloc (.cells #[.slice none 0 0, .slice none 0 0] 26)).alloc (.cells #[.slice none 0 0, .slice none 0 0] 26)) (w.heap.size + 1) 26 [.slice none 0 0, .slice none 0 0] ∧
    Row (((w.alloc (.cells #[x, y] 26)).alloc (.cells #[.slice none 0 0, .slice none 0 0] 26)).alloc (.cells #[.slice none 0 0, .slice none 0 0] 26)) (w.heap.size + 1 + 1) 26 [.slice none 0 0, .slice none 0 0] ∧
    w.grownBy (((w.alloc (.cells #[x, y] 26)).alloc (.cells #[.slice none 0 0, .slice none 0 0] 26)).alloc (.cells #[.slice none 0 0, .slice none 0 0] 26)) none ∧
    (((w.alloc (.cells #[x, y] 26)).alloc (.cells #[.slice none 0 0, .slice none 0 0] 26)).alloc (.cells #[.slice none 0 0, .slice none 0 0] 26)).heap.size = w.heap.size + 3 := by
  refine ⟨((Row.new w _ rfl).alloc _).alloc _, ?_, ?_, gb_alloc (gb_alloc (gb_alloc (gb_refl _ _) _) _) _, by simp⟩
  · have := Row.new (w.alloc (.cells #[x, y] 26)) 26 (ca := #[.slice none 0 0, .slice none 0 0]) rfl
    simp only [World.size_alloc] at this
    exact this.alloc _
  · have := Row.new ((w.alloc (.cells #[x, y] 26)).alloc (.cells #[.slice none 0 0, .slice none 0 0] 26)) 26 (ca := #[.slice none 0 0, .slice none 0 0]) rfl
    simpa using this
theorem min_succ_lt {k u : Nat} (h : k < u) : min (k + 1) u = min k u + 1 := by omega
theorem min_succ_ge {k u : Nat} (h : ¬ k < u) : min (k + 1) u = min k u := by omega
theorem take_min_succ {α : Type} {l : List α} {k u : Nat} (h : k < u) (hk : k < l.length) : l.take (min (k + 1) u) = l.take (min k u) ++ [l[k]] := by
  rw [min_succ_lt h, show min k u = k by omega]
  exact List.take_succ_eq_append_getElem hk
/-- an owned history with an entry more in its log, the box written -/
def HisPart (w w1 : World) (lo go : Nat) (v2 : Value) (l : List M.Entry) (ts : List Int) (n : Nat) (W : World) : Prop :=
  ∃ gg cap, Row W go 26 [.slice (some ⟨gg, 0, none⟩) (n + 1) cap, v2] ∧ OwnH W lo (.slice (some ⟨gg, 0, none⟩) (n + 1) cap) v2 l ts ∧ w.grownBy W none ∧ w1.heap.size ≤ W.heap.size ∧ ∀ b, b < w1.heap.size → b < lo → b ≠ go → W.heap[b]? = w1.heap[b]?
theorem hisPart_of {w w1 w3 w4 : World} {lo go gg cap : Nat} {v1 v2 u : Value} {LV : List (M.Entry × Value)} {l' : List M.Entry} {ts : List Int} {y : M.Entry} (hl : l' = LV.map (·.1) ++ [y]) (hw : w.grownBy w1 none) (H2 : w1.ownsRow lo 30 4 v1 LV.length (cellsE LV)) (H3 : ∀ p ∈ LV, OwnInts .i64 3 w1 lo p.2 p.1.item.pos)
    (H4 : LV.Pairwise (fun p q => p.2.ownBlock = none ∨ p.2.ownBlock ≠ q.2.ownBlock)) (H5 : OwnInts .i64 3 w1 lo v2 ts) (H6 : ∀ p ∈ LV, p.2.ownBlock = none ∨ p.2.ownBlock ≠ v2.ownBlock) (S3 : w1.grownBy w3 none) (HC3 : OwnInts .i64 3 w3 w1.heap.size u y.item.pos) (hB : lo ≤ w1.heap.size) (hlw : w.heap.size ≤ lo) (hgw : w.heap.size ≤ go) {o : Obj}
    (T1 : w4.ownsRow lo 30 4 (.slice (some ⟨gg, 0, none⟩) (LV.length + 1) cap) (LV.length + 1) (cellsE LV ++ [.int .i64 y.kind, .int .i64 y.item.key, u, .int .i64 y.item.tags])) (T2 : (w3.alloc o).grownBy w4 v1.ownBlock) (RO4 : Row w4 go 26 [v1, v2]) :
    HisPart w w1 lo go v2 l' ts LV.length (w4.setCell ⟨go, 0, none⟩ (.slice (some ⟨gg, 0, none⟩) (LV.length + 1) cap)) := by
  subst hl
  refine ⟨gg, cap, RO4.set_ 0 _, (OwnH.pushE H2 H3 H4 H5 H6 S3 HC3 hB (World.grownBy_alloc w3 o none) T1 T2).set_row RO4 _, ?_, ?_, fun b h1 h2 h3 => ?_⟩
  · exact gb_setCell (gb_new (gb_alloc (gb_trans hw S3) o) T2 (fun g hg => .inl (by have := (H2.lt g hg).1; omega))) (.inl (by show w.heap.size ≤ go; exact hgw)) _
  · have := T2.size
    have := S3.size
    simp only [World.size_alloc] at *
    simp only [World.size_setCell]
    omega
  · rw [Below.heap_setCell w4 ⟨go, 0, none⟩ _ b (by show b ≠ go; exact h3)]
    have := S3.size
    rw [T2.block b (by simp only [World.size_alloc]; omega) (fun e => by have := (H2.lt b e.symm).1; omega), Below.heap_alloc w3 o b (by omega)]
    exact S3.block b h1 (by simp)
set_option maxHeartbeats 4000000 in
theorem until_impl {w : World} {A B : Option Addr} {c d : Nat} {h : M.Hist} {t : Int} (D : SeesH w A B h) (he : h.times.length = h.log.length) (hp : h.times.Pairwise (· ≤ ·)) (hl32 : h.log.length ≤ 32) (hd : h.times.length ≤ d) :
    Calls Try.prog 49 #[.agg #[.slice A h.log.length c, .slice B h.times.length d], .int .i64 t] w fun e w' => ∃ v, e = .returned v ∧ HisMade w w.heap.size (M.takeH h (M.upTo h.times t)) v w' := by
  obtain ⟨i0, hi0, hz0, hz1, hz2⟩ := info_parts info_entry'
  obtain ⟨j0, hj0, hy0, hy1, hy2⟩ := info_parts info_int'
  obtain ⟨l, ts⟩ := h
  have HD := Lib.hid (show SeesE w A l from D.1)
  have HE := Lib.hid (show SeesN .i64 w B ts from D.2)
  have he : ts.length = l.length := he
  have hp : ts.Pairwise (· ≤ ·) := hp
  have hl32 : l.length ≤ 32 := hl32
  clear D
  show Calls Try.prog 49 #[.agg #[.slice A l.length c, .slice B ts.length d], .int .i64 t] w _
  obtain ⟨m, hm⟩ : ∃ m, m = l.length := ⟨_, rfl⟩
  rw [← hm] at hl32 he ⊢
  rw [he]
  have HM := Lib.hid hm
  have HN := Lib.hid he
  have HUP : Hid (∀ i (hi : i < ts.length), ts[i] ≤ t ↔ i < M.upTo ts t) := Lib.hid fun i hi => M.upTo_spec hp t hi
  obtain ⟨u, hu⟩ : ∃ u, u = M.upTo ts t := ⟨_, rfl⟩
  have hum : u ≤ m := by rw [hu, ← he]; exact M.upTo_le ts t
  have HUU := Lib.hid hu
  rw [← hu] at HUP
  clear hm he hp hu hd
  go_enter Try.func49, Try.ntmps49
  go_wp2_with fail
  refine wp_name (fun W => Row W w.heap.size 26 [.slice A m c, .slice B m d] ∧ Row W (w.heap.size + 1) 26 [.slice none 0 0, .slice none 0 0] ∧ Row W (w.heap.size + 1 + 1) 26 [.slice none 0 0, .slice none 0 0] ∧ w.grownBy W none ∧ W.heap.size = w.heap.size + 3) (his_three' w _ _) ?_
  rintro w0 ⟨r0, r1, r2, hg, hz⟩
  have R0 := Lib.hid r0
  have R1 := Lib.hid r1
  have R2 := Lib.hid r2
  have G0 := Lib.hid hg
  clear r0 r1 r2 hg
  have hg03 : w.heap.size + 3 ≤ w0.heap.size := by omega
  go_loopw [12] (fun i wr => ∃ (k : Nat) (v1 v2 : Value), k ≤ m ∧ i = .int .i64 k ∧ Row wr (w.heap.size + 1 + 1) 26 [v1, v2] ∧ OwnH wr (w.heap.size + 1 + 1 + 1) v1 v2 (l.take (min k u)) (ts.take (min k u)) ∧ Row wr w.heap.size 26 [.slice A m c, .slice B m d] ∧ Row wr (w.heap.size + 1) 26 [.slice none 0 0, .slice none 0 0] ∧ w.grownBy wr none ∧ w.heap.size + 3 ≤ wr.heap.size) (fun i _ => m - (intOf i).toNat)
  case atStart => exact ⟨0, _, _, Nat.zero_le _, rfl, R2.out, by simpa using OwnH.nil_ _ _, R0.out, R1.out, G0.out, hg03⟩
  case round =>
    clear R0 R1 R2 G0 hg03
    obtain ⟨k, v1, v2, hk, rfl, hr2, hown, hr0, hr1, hg, hsz⟩ := hrel
    have O := Lib.hid hown
    have G := Lib.hid hg
    have R0 := Lib.hid hr0
    have R1 := Lib.hid hr1
    have R2 := Lib.hid hr2
    obtain ⟨Av, cv, hvv, hcv, _⟩ := hown.entries.rd
    obtain ⟨Bv, dv, hbb, hdv, _⟩ := hown.times.rd
    obtain ⟨nt, hnt⟩ : ∃ nt, nt = (ts.take (min k u)).length := ⟨_, rfl⟩
    rw [← hnt] at hbb hdv
    have HNT := Lib.hid hnt
    have hnt32 : nt ≤ 32 := by rw [hnt, List.length_take]; omega
    clear hnt
    subst hvv hbb
    have q1 := hr0.cell 1
    have q0 := hr0.cell 0
    simp only [List.getElem?_cons_zero, List.getElem?_cons_succ] at q0 q1
    clear hown hr0 hr1 hr2 hg hcv hdv
    by_cases hlt : k < m
    · have hkl : k < l.length := by rw [← HM.out]; exact hlt
      have hkt : k < ts.length := by rw [HN.out]; exact hlt
      obtain ⟨b, o, rfl, hb1, hb2, hJ⟩ := (HD.out.on G.out).1.at_ (List.getElem?_eq_getElem hkl)
      obtain ⟨ux, c0, c1, c2, c3, hux⟩ := hJ
      obtain ⟨Au, cu, rfl, hcu, hru⟩ := hux
      have HU := Lib.hid (show RdInts .i64 wr 0 wr.heap.size (.slice Au l[k].item.pos.length cu) l[k].item.pos from ⟨_, _, rfl, hcu, hru⟩)
      have hpl : l[k].item.pos.length ≤ 1048576 := HD.out.2.2 _ (List.getElem_mem hkl)
      obtain ⟨b', o', rfl, hb3, hb4, hC⟩ := (HE.out.on G.out).1.at_ (j := k) (u := .int .i64 ts[k]) (by simp [hkt])
      have HUK := Lib.hid (HUP.out k hkt)
      have HTL : Hid (k < u → l.take (min (k + 1) u) = l.take (min k u) ++ [l[k]]) := Lib.hid fun h => take_min_succ h hkl
      have HTT : Hid (k < u → ts.take (min (k + 1) u) = ts.take (min k u) ++ [ts[k]]) := Lib.hid fun h => take_min_succ h hkt
      have kn : (k : Int) < m := by omega
      have k0 : (0 : Int) ≤ k := by omega
      clear hcu hru
      generalize l[k] = y at *
      obtain ⟨x, hx⟩ : ∃ x, ts[k] = x := ⟨_, rfl⟩
      rw [hx] at hC HUK HTT
      have HXK := Lib.hid hx
      clear hx
      have G1 := Lib.hid (World.grownBy_alloc wr (.cells #[.int .i64 y.kind, .int .i64 y.item.key, .slice Au y.item.pos.length cu, .int .i64 y.item.tags] 30) none)
      have p1 := (R0.out.alloc (.cells #[.int .i64 y.kind, .int .i64 y.item.key, .slice Au y.item.pos.length cu, .int .i64 y.item.tags] 30)).cell 1
      have pC := G1.out.cell hC (by simp)
      simp only [List.getElem?_cons_zero, List.getElem?_cons_succ] at p1
      by_cases hku : k < u
      · have tx : decide (x ≤ t) = true := decide_eq_true (HUK.out.2 hku)
        have HT1 := Lib.hid (HTL.out hku)
        have HT2 := Lib.hid (HTT.out hku)
        clear hku
        go_wp2_with fail
        refine wp_name (fun W => Row W wr.heap.size 30 [.int .i64 y.kind, .int .i64 y.item.key, .slice Au y.item.pos.length cu, .int .i64 y.item.tags] ∧ wr.grownBy W none) ⟨Row.new wr _ rfl, G1.out⟩ ?_
        rintro w1 ⟨hB, hg⟩
        have RE := Lib.hid hB
        have GA := Lib.hid hg
        have RO := Lib.hid (R2.out.grown hg (by simp))
        have HU1 := Lib.hid ((HU.out.keep hg (Nat.le_refl _)).wide (Nat.le_refl _) hg.size)
        obtain ⟨LV, hLV, hO, hI, hP, hT, hDj⟩ := O.out
        have hlv : LV.length ≤ 32 := by
          have := congrArg List.length hLV
          rw [List.length_map, List.length_take] at this
          omega
        have hll : (l.take (min k u)).length = LV.length := by rw [← hLV, List.length_map]
        have H1 := Lib.hid hLV
        have H2 := Lib.hid (hO.kept hg (own_ge hO (by simp)))
        have H3 := Lib.hid (fun p hp => (hI p hp).grown hg (by simp))
        have H4 := Lib.hid hP
        have H5 := Lib.hid (hT.grown hg (by simp))
        have H6 := Lib.hid hDj
        have HNE : Hid (∀ b, (Value.slice Av LV.length cv).ownBlock = some b → b < wr.heap.size) := Lib.hid fun b hb => (hO.lt b (by rw [hll]; exact hb)).2
        have hs1 := hg.size
        rw [hll] at H2 RO
        have HGO : Hid (some (w.heap.size + 1 + 1) ≠ (Value.slice Av LV.length cv).ownBlock) := Lib.hid (owns_ne H2.out RO.out (by decide))
        clear hB hg hLV hO hI hP hT hDj q0 q1 c0 c1 c2 c3 hC p1 pC O R2 hll
        have e0 := RO.out.cell 0
        have e1 := RE.out.cell 0
        have e2 := RE.out.cell 1
        have e3 := RE.out.cell 2
        have e4 := RE.out.cell 3
        simp only [List.getElem?_cons_zero, List.getElem?_cons_succ] at e0 e1 e2 e3 e4
        go_cut [] (fun wx => HisPart w w1 (w.heap.size + 1 + 1 + 1) (w.heap.size + 1 + 1) (.slice Bv nt dv) (l.take (min (k + 1) u)) (ts.take (min k u)) LV.length wx)
        case first =>
          go_region_law (first | (go_simp; go_at_call 50; refine (copyEntry_impl w1.drew (.slice Au y.item.pos.length cu) y hpl (HU1.out.agree (fun _ _ _ => rfl))).mono ?_; rintro e w3 ⟨Ac, cc, rfl, hc3, hg3⟩; have S3 := Lib.hid (gb_trans (gb_drew (gb_refl w1 none)) hg3); have HC3 := Lib.hid (show OwnInts .i64 3 w3 w1.heap.size (.slice Ac y.item.pos.length cc) y.item.pos from hc3); have H2b := Lib.hid (H2.out.kept S3.out (own_ge H2.out (by simp))); have b0 := (RO.out.grown S3.out (by simp)).cell 0; have b0a := ((RO.out.grown S3.out (by simp)).alloc (.cells #[.int .i64 y.kind, .int .i64 y.item.key, .slice Ac y.item.pos.length cc, .int .i64 y.item.tags] 30)).cell 0; simp only [List.getElem?_cons_zero, List.getElem?_cons_succ] at b0 b0a; have hs3 := S3.out.size; clear hc3 hg3) | (refine step_append_lies _ (by rfl) (.tmp 25) (.tmp 28) 23 (by rfl) (w.heap.size + 1 + 1 + 1) 30 i0 _ 4 48 Try.underlying23 hi0 hz0 hz1 hz2 rfl (by omega) (.slice Av LV.length cv) LV.length (cellsE LV) (by rfl) (H2b.out.alloc (.cells #[.int .i64 y.kind, .int .i64 y.item.key, .slice Ac y.item.pos.length cc, .int .i64 y.item.tags] 30)) ⟨w3.heap.size, 0, none⟩ 1 1 [.int .i64 y.kind, .int .i64 y.item.key, .slice Ac y.item.pos.length cc, .int .i64 y.item.tags] (by rfl) (by rfl) (four_cell_at rfl) entry_oneCell (by omega) (by unfold maxLen; omega) (by omega) (by simp; omega) _ rfl ?_; intro gg cap w4 hown' hgrow hat hlt4; have T1 := Lib.hid hown'; have T2 := Lib.hid hgrow; have RO4 := Lib.hid (((RO.out.grown S3.out (by simp)).alloc (.cells #[.int .i64 y.kind, .int .i64 y.item.key, .slice Ac y.item.pos.length cc, .int .i64 y.item.tags] 30)).grown hgrow HGO.out); have d0 := RO4.out.cell 0; have df := RO4.out.frozen 0; simp only [List.getElem?_cons_zero, List.getElem?_cons_succ] at d0; clear hown' hgrow hat))
          all_goals
            go_wp2_with fail
            go_meet
            exact hisPart_of (by rw [HT1.out, H1.out]) (gb_trans G.out GA.out) H2.out H3.out H4.out H5.out H6.out S3.out HC3.out (by omega) (by omega) (by omega) T1.out T2.out RO4.out
        case rest =>
          obtain ⟨gg, cap, hr, ho, hgc, hsc, hf⟩ := hcut
          have RO5 := Lib.hid hr
          have O5 := Lib.hid ho
          have G5 := Lib.hid hgc
          have P0 := Lib.hid (Row.of_block (R0.out.grown GA.out (by simp)) (hf w.heap.size (by omega) (by omega) (by omega)))
          have P1 := Lib.hid (Row.of_block (R1.out.grown GA.out (by simp)) (hf (w.heap.size + 1) (by omega) (by omega) (by omega)))
          have hC5 := ((HE.out.on G5.out).1.at_ (j := k) (u := .int .i64 x) (by rw [← HXK.out]; simp [hkt]))
          obtain ⟨b9, o9, he9, _, _, hC9⟩ := hC5
          simp only [Option.some.injEq, Addr.mk.injEq, and_true] at he9
          obtain ⟨rfl, rfl⟩ := he9
          have q1 := P0.out.cell 1
          have q2 := RO5.out.cell 1
          have qf := RO5.out.frozen 1
          have q2a := (RO5.out.alloc (.cells #[.int .i64 x] 3)).cell 1
          simp only [List.getElem?_cons_zero, List.getElem?_cons_succ] at q1 q2 q2a
          have HTL5 : Hid (wc.ownsRow (w.heap.size + 1 + 1 + 1) 3 1 (.slice Bv nt dv) nt ((ts.take (min k u)).map (.int .i64))) := Lib.hid (by rw [HNT.out]; rw [HNT.out] at O5; exact O5.out.times)
          clear hr ho hgc hf e0 e1 e2 e3 e4 RE RO HU1 H1 H2 H3 H4 H5 H6 HNE GA
          go_wp2_with fail
          go_region_law (refine step_append_lies _ (by rfl) (.tmp 32) (.tmp 38) 24 (by rfl) (w.heap.size + 1 + 1 + 1) 3 j0 _ 1 8 Try.underlying24 hj0 hy0 hy1 hy2 rfl (by omega) (.slice Bv nt dv) nt ((ts.take (min k u)).map (.int .i64)) (by rfl) ((HTL5.out.alloc (.cells #[.int .i64 x] 3)).drew) ⟨wc.heap.size, 0, none⟩ 1 1 [.int .i64 x] (by rfl) (by rfl) (World.news_of_block (cs := #[.int .i64 x]) (t := 3) (fr := (0, 0)) (heap_alloc_new wc _)) (one_cells rfl) (by omega) (by unfold maxLen; omega) (by omega) (by simp; omega) _ rfl ?_; intro gg2 cap2 w6 hown' hgrow hat hlt6; have T3 := Lib.hid hown'; have T4 := Lib.hid hgrow; have T5 := Lib.hid hat; have RO6 := Lib.hid (Row.grown (show Row ((wc.alloc (.cells #[.int .i64 x] 3)).drew) (w.heap.size + 1 + 1) 26 _ from RO5.out.alloc _) hgrow (fun e => by have := (HTL5.out.lt _ e.symm).1; omega)); have d1 := RO6.out.cell 1; have df := RO6.out.frozen 1; simp only [List.getElem?_cons_zero, List.getElem?_cons_succ] at d1; clear hown' hgrow hat)
          all_goals
            go_wp2_with fail
            go_roundw
            case rel =>
              refine ⟨k + 1, _, _, by omega, by go_num, RO6.out.set_ 1 _, ?_, ?_, ?_, ?_, ?_⟩
              · rw [HT2.out]
                exact (OwnH.pushT O5.out (gb_drew (World.grownBy_alloc wc (.cells #[.int .i64 x] 3) none)) T3.out HNT.out T4.out T5.out).set_ (by show w.heap.size + 1 + 1 < _; omega) _
              · exact (Row.grown (show Row ((wc.alloc (.cells #[.int .i64 x] 3)).drew) w.heap.size 26 _ from P0.out.alloc _) T4.out (fun e => by have := (HTL5.out.lt _ e.symm).1; omega)).far (by show w.heap.size ≠ w.heap.size + 1 + 1; omega) _
              · exact (Row.grown (show Row ((wc.alloc (.cells #[.int .i64 x] 3)).drew) (w.heap.size + 1) 26 _ from P1.out.alloc _) T4.out (fun e => by have := (HTL5.out.lt _ e.symm).1; omega)).far (by show w.heap.size + 1 ≠ w.heap.size + 1 + 1; omega) _
              · exact gb_setCell (gb_new (gb_drew (gb_alloc G5.out (.cells #[.int .i64 x] 3))) T4.out (fun g hg => .inl (by have := (HTL5.out.lt g hg).1; omega))) (.inl (by show w.heap.size ≤ w.heap.size + 1 + 1; omega)) _
              · have h9 := T4.out.size
                have h8 : (wc.alloc (.cells #[.int .i64 x] 3)).drew.heap.size = wc.heap.size + 1 := by show (wc.alloc _).heap.size = _; simp
                simp only [World.size_setCell]
                omega
            case measure => simp [intOf]; omega
      · have tx : decide (x ≤ t) = false := decide_eq_false (fun h => hku (HUK.out.1 h))
        have HMK : Hid (min (k + 1) u = min k u) := Lib.hid (min_succ_ge hku)
        clear hku
        go_wp2_with fail
        go_roundw
        case rel => exact ⟨k + 1, _, _, by omega, by go_num, R2.out.grown G1.out (by simp), by rw [HMK.out]; exact O.out.grown G1.out (by simp), R0.out.grown G1.out (by simp), R1.out.grown G1.out (by simp), gb_trans G.out G1.out, by have := G1.out.size; omega⟩
        case measure => simp [intOf]; omega
    · obtain rfl : k = m := by omega
      have HMU : Hid (min k u = u) := Lib.hid (by omega)
      rw [HMU.out] at O HNT R2
      have HLL : Hid ((l.take u).length = u) := Lib.hid (by rw [List.length_take, ← HM.out]; omega)
      have HTK : Hid (M.takeH ⟨l, ts⟩ (M.upTo ts t) = ⟨l.take u, ts.take u⟩) := Lib.hid (by rw [← HUU.out]; rfl)
      rw [HLL.out] at O R2
      have hcv1 : u ≤ cv := by
        obtain ⟨A9, c9, e9, hc9, _⟩ := O.out.entries.rd
        injection e9 with x1 x2 x3
        omega
      have hdv1 : nt ≤ dv := by
        obtain ⟨A9, c9, e9, hc9, _⟩ := O.out.times.rd
        injection e9 with x1 x2 x3
        omega
      have HC1 := Lib.hid hcv1
      have HC2 := Lib.hid hdv1
      have e0 := R2.out.cell 0
      have e1 := R2.out.cell 1
      have g0 := R1.out.cell 0
      have g1 := R1.out.cell 1
      have f0 := R1.out.frozen 0
      have f1 := R1.out.frozen 1
      simp only [List.getElem?_cons_zero, List.getElem?_cons_succ] at e0 e1 g0 g1
      clear hcv1 hdv1
      go_wp2_with fail
      refine bodyPost_ret (v := .agg #[.slice Av u cv, .slice Bv nt dv]) (by simp [results, Try.results49, go_sem, g0, g1]) rfl ⟨_, rfl, ?_⟩
      rw [HTK.out]
      refine ⟨Av, cv, Bv, dv, by show _ = Value.agg #[.slice Av (l.take u).length cv, .slice Bv (ts.take u).length dv]; rw [HLL.out, ← HNT.out], by show (l.take u).length ≤ cv; rw [HLL.out]; exact HC1.out, by show (ts.take u).length ≤ dv; rw [← HNT.out]; exact HC2.out, ?_, ?_⟩
      · show OwnH _ _ (.slice Av (l.take u).length cv) (.slice Bv (ts.take u).length dv) (l.take u) (ts.take u)
        rw [HLL.out, ← HNT.out]
        refine OwnH.wide (lo := w.heap.size + 1 + 1 + 1) ?_ (by omega)
        repeat (with_reducible refine OwnH.set_ (p := ⟨_, _, none⟩) ?_ (by show w.heap.size + 1 < _; omega) _)
        exact O.out
      · repeat (with_reducible refine gb_setCell (p := ⟨_, _, none⟩) ?_ (.inl (by show _ ≤ w.heap.size + 1; omega)) _)
        exact G.out
end Go.Proofs.Ythoakomccjjhbaa
