/- The walks of the items of a shard. -/
import Derived.Test.YthoakomccjjhbaaCopyW
namespace Go.Proofs.Ythoakomccjjhbaa
open Go.RowKit
set_option linter.unusedVariables false
set_option maxRecDepth 100000

theorem info_item' : (Try.prog.info? 28).map (fun i => (i.zero, i.size, i.bytes)) = some (some (.agg #[.int .i64 0, .slice none 0 0, .int .i64 0]), 3, 40) := by kernel_rfl
theorem key_range' {x : M.Item} (h : M.validItem x = true) : 1 ≤ x.key ∧ x.key ≤ 99 := by
  unfold M.validItem at h
  simp only [Bool.and_eq_true] at h
  exact M.inR_true h.1.1
theorem three_cell_at {w : World} {t : TypeId} {x y z : Value} {g : Nat} (hg : g = w.heap.size) : ∀ (j : Nat) (u : Value), [x, y, z][j]? = some u → (w.alloc (.cells #[x, y, z] t)).cell? ((⟨g, 0, none⟩ : Addr).add j) = some u := by
  subst hg
  intro j u hu
  rw [Addr.add_lit, Nat.zero_add, cell_of_row _ _ _ #[x, y, z] t (0, 0) (heap_alloc_new w _)]
  simpa using hu
theorem item_oneCell {k t : Int} {A : Option Addr} {n c : Nat} : ∀ u ∈ [Value.int .i64 k, Value.slice A n c, Value.int .i64 t], u.oneCell' = true := by
  intro u hu
  simp at hu
  rcases hu with rfl | rfl | rfl <;> rfl
theorem push_step {wr w1 w2 w4 : World} {B : Nat} {v v' u : Value} {LV : List (M.Item × Value)} {y : M.Item} (hO : wr.ownsRow B 28 3 v LV.length (cellsI LV)) (hI : ∀ p ∈ LV, OwnInts .i64 3 wr B p.2 p.1.pos)
    (hP : LV.Pairwise (fun p q => p.2.ownBlock = none ∨ p.2.ownBlock ≠ q.2.ownBlock)) (h1 : wr.grownBy w1 none) (hc : OwnInts .i64 3 w1 wr.heap.size u y.pos) (hB : B ≤ wr.heap.size) (h12 : w1.grownBy w2 none)
    (T1 : w4.ownsRow B 28 3 v' (LV.length + 1) (cellsI LV ++ [.int .i64 y.key, u, .int .i64 y.tags])) (T2 : w2.grownBy w4 v.ownBlock) : OwnItems w4 B v' (LV.map (·.1) ++ [y]) := by
  have hv2 : w2.ownsRow B 28 3 v LV.length (cellsI LV) := (hO.kept h1 (own_ge hO (by simp))).kept h12 (own_ge hO (by simp))
  refine OwnItems.push (p := (y, u)) (by rw [cellsI_one]; exact T1) (fun q hq => ?_) hP ?_ (fun q hq => ?_)
  · have h := ((hI q hq).grown h1 (by simp)).grown h12 (by simp)
    exact h.kept T2 (own_types' h hv2)
  · have h := (hc.grown h12 (by simp)).wide hB
    exact h.kept T2 (own_types' h hv2)
  · cases hb : q.2.ownBlock with
    | none => exact .inl rfl
    | some b =>
      refine .inr fun e => ?_
      have a1 := ((hI q hq).lt b hb).2
      have a2 := (hc.lt b e.symm).1
      omega

theorem shardItems_take {L : List M.Item} {k : Nat} (hk : k < L.length) (s n : Int) : M.shardItems (L.take (k + 1)) s n = M.shardItems (L.take k) s n ++ (if M.sh L[k].key s = n then [L[k]] else []) := by
  unfold M.shardItems
  rw [List.take_succ_eq_append_getElem hk, List.filter_append]
  congr 1
  by_cases h : M.sh L[k].key s = n
  · simp [h]
  · simp [h]
theorem shardItems_mem {L : List M.Item} {s n : Int} {x : M.Item} (h : x ∈ M.shardItems L s n) : x ∈ L := (List.mem_filter.1 h).1
theorem shardItems_le (L : List M.Item) (s n : Int) : (M.shardItems L s n).length ≤ L.length := List.length_filter_le _ _

/-- a row of the call's own, the vectors elsewhere -/
theorem semi_rd {w : World} {B lo hi : Nat} {v : Value} {LV : List (M.Item × Value)} (h2 : w.ownsRow B 28 3 v LV.length (cellsI LV)) (h3 : ∀ p ∈ LV, RdInts .i64 w lo hi p.2 p.1.pos) (hh : hi ≤ w.heap.size) : RdItems w 0 w.heap.size v (LV.map (·.1)) := by
  rcases h2.2 with ⟨rfl, hn⟩ | ⟨g, cap, cur, rfl, hg, hb, hnc, hcm, hcs, htake⟩
  · have hl : LV = [] := List.eq_nil_of_length_eq_zero hn
    subst hl
    exact ⟨none, 0, rfl, Nat.le_refl _, RdI.nil_ _ _ _ _⟩
  · refine ⟨some ⟨g, 0, none⟩, cap, by rw [List.length_map], by rw [List.length_map]; exact hnc, fun _ => ⟨g, 0, rfl, Nat.zero_le _, lt_of_block hb, fun i x hx => ?_⟩⟩
    rw [List.getElem?_map] at hx
    obtain ⟨p, hp, rfl⟩ := Option.map_eq_some_iff.1 hx
    have hil : i < LV.length := (List.getElem?_eq_some_iff.1 hp).1
    obtain ⟨c0, c1, c2⟩ := cellsI_at hp
    have hr := fun j (hj : j < LV.length * 3) => h2.cellAt j hj
    refine ⟨p.2, ?_, ?_, ?_, (h3 p (List.mem_of_getElem? hp)).wide (Nat.zero_le _) hh⟩
    · rw [Nat.zero_add, hr _ (by omega)]; exact c0
    · rw [Nat.zero_add, hr _ (by omega)]; exact c1
    · rw [Nat.zero_add, hr _ (by omega)]; exact c2

set_option maxHeartbeats 1000000 in
theorem copyItems_impl (w : World) (A : Option Addr) (c lo hi : Nat) (L : List M.Item) (hl : L.length ≤ 1048576) (hp : ∀ x ∈ L, x.pos.length ≤ 1048576) (hr : RdI w lo hi A L) (hhi : hi ≤ w.heap.size) :
    Calls Try.prog 104 #[.slice A L.length c] w fun e w' => ∃ v, e = .returned v ∧ OwnItems w' w.heap.size v L ∧ w.grownBy w' none := by
  obtain ⟨i0, hi0, hz0, hz1, hz2⟩ := info_parts info_item'
  obtain ⟨n, hn⟩ : ∃ n, n = L.length := ⟨_, rfl⟩
  rw [← hn] at hl ⊢
  have HL := Lib.hid hn
  have HR := Lib.hid hr
  have HP := Lib.hid hp
  clear hn hr hp
  go_enter Try.func104, Try.ntmps104
  go_wp2_with fail
  go_loopw [3, 9] (fun v i wr => ∃ k : Nat, k ≤ n ∧ i = .int .i64 k ∧ OwnItems wr w.heap.size v (L.take k) ∧ w.grownBy wr none) (fun _ i _ => n - (intOf i).toNat)
  case atStart => exact ⟨0, Nat.zero_le _, rfl, ⟨[], rfl, World.ownsRow_made w #[] 0 (Nat.le_refl _) (by decide) rfl, by simp, List.Pairwise.nil⟩, gb_alloc (gb_refl _ _) _⟩
  case round =>
    obtain ⟨k, hk, rfl, hown, hg⟩ := hrel
    have HGR := Lib.hid hg
    obtain ⟨LV, hLV, hO, hI, hP⟩ := hown
    have H1 := Lib.hid hLV
    have H2 := Lib.hid hO
    have H3 := Lib.hid hI
    have H4 := Lib.hid hP
    have hlv : LV.length ≤ k := by
      have a1 : (L.take k).length ≤ k := List.length_take_le _ _
      rw [← hLV, List.length_map] at a1
      omega
    clear hLV hO hI hP hg
    by_cases hlt : k < n
    · have hkl : k < L.length := by rw [← HL.out]; exact hlt
      obtain ⟨b, o, rfl, hb1, hb2, hJ⟩ := HR.out.at_ (List.getElem?_eq_getElem hkl)
      obtain ⟨u, c0, c1, c2, hu⟩ := hJ.agree hb1 hb2 (fun b _ h => (Agree.of_grown HGR.out) b (Nat.zero_le _) (by omega))
      obtain ⟨Au, cu, rfl, hcu, hru⟩ := hu
      have HK : Hid (L.take (k + 1) = LV.map (·.1) ++ [L[k]]) := Lib.hid (by rw [H1.out]; exact List.take_succ_eq_append_getElem hkl)
      have hpl : L[k].pos.length ≤ 1048576 := HP.out _ (List.getElem_mem hkl)
      have HU := Lib.hid (show RdInts .i64 wr lo hi (.slice Au L[k].pos.length cu) L[k].pos from ⟨_, _, rfl, hcu, hru⟩)
      have hsz : hi ≤ wr.heap.size := by have := HGR.out.size; omega
      clear hJ hcu hru
      generalize L[k] = y at *
      go_wp2_with fail
      have HU2 := Lib.hid (HU.out.agree (fun b _ h => Below.heap_alloc wr (.cells #[.int .i64 y.key, .slice Au y.pos.length cu, .int .i64 y.tags] 28) b (by omega)))
      refine (copyItem_impl _ _ lo hi y hpl HU2.out (by simp; omega)).mono ?_
      rintro e w1 ⟨Ac, cc, rfl, hc, hg1⟩
      have HG1 := Lib.hid (gb_new (World.grownBy_alloc wr (.cells #[.int .i64 y.key, .slice Au y.pos.length cu, .int .i64 y.tags] 28) none) hg1 (by simp))
      have HC := Lib.hid (hc.wide (show wr.heap.size ≤ _ by simp))
      have H2b := Lib.hid (H2.out.kept HG1.out (own_ge H2.out (by simp)))
      clear hc hg1
      go_wp2_with (at_builtin; refine wpList_append_own _ rfl (.tmp 13) (.tmp 16) 38 rfl w.heap.size 28 i0 _ 3 40 Try.underlying38 hi0 hz0 hz1 hz2 rfl (by decide) u3 LV.length (cellsI LV) rfl (H2b.out.alloc _) ⟨w1.heap.size, 0, none⟩ 1 1 [.int .i64 y.key, .slice Ac y.pos.length cc, .int .i64 y.tags] rfl rfl (three_cell_at rfl) item_oneCell (by unfold maxLen; omega) (by omega) (by have := HGR.out.size; have := HG1.out.size; simp; omega) ?_; intro v' w4 hown' hgrow _; have T1 := Lib.hid hown'; have T2 := Lib.hid hgrow; clear hown' hgrow)
      go_roundw
      case rel =>
        refine ⟨k + 1, by omega, by go_num, ?_, ?_⟩
        · rw [HK.out]
          exact push_step H2.out H3.out H4.out HG1.out HC.out HGR.out.size (World.grownBy_alloc _ _ _) T1.out T2.out
        · exact gb_new (gb_alloc (gb_trans HGR.out HG1.out) _) T2.out (fun g hg => .inl (H2.out.lt g hg).1)
      case measure => simp [intOf]; omega
    · obtain rfl : k = n := by omega
      go_wp2_with fail
      go_ret
      refine ⟨_, rfl, ?_, HGR.out⟩
      have h := H1.out
      rw [HL.out, List.take_of_length_le (Nat.le_refl _)] at h
      exact ⟨LV, h, H2.out, H3.out, H4.out⟩

end Go.Proofs.Ythoakomccjjhbaa
