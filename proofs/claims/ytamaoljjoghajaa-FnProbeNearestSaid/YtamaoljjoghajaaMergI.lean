/- The walks of the program's merging of hits, and of its nearest items of all shards. -/
import Derived.Test.YtamaoljjoghajaaNearI
namespace Go.Proofs.Ytamaoljjoghajaa
open Go.RowKit
set_option linter.unusedVariables false
set_option linter.unusedSimpArgs false
set_option maxRecDepth 100000

theorem mergeHits1_any (w : World) (g : Nat) (k : Int) (x : M.Hit) (hg : w.cell? ⟨g, 0, none⟩ = some (.int .i64 k)) :
    Calls Try.prog 83 #[.agg #[.int .i64 x.key, .int .i64 x.dist], .pointer (some ⟨g, 0, none⟩)] w fun r w' => r = .returned (.bool (x.key == k)) ∧ w.grownBy w' none := by
  have hg' : (w.alloc (.cells #[.int .i64 x.key, .int .i64 x.dist] 45)).cell? ⟨g, 0, none⟩ = some (.int .i64 k) := (World.grownBy_alloc w _ none).cell hg (by simp)
  go_enter Try.func83, Try.ntmps83
  go_wp2_with fail
  go_ret
  exact ⟨rfl, gb_alloc (gb_refl _ _) _⟩
/-- the place of the first hit with a key -/
def idxX (l : List M.Hit) (k : Int) : Int := match l.findIdx? (fun x => x.key == k) with | some i => (i : Int) | none => -1
theorem idxX_none {l : List M.Hit} {k : Int} (h : ∀ x ∈ l, (x.key == k) = false) : idxX l k = -1 := by
  unfold idxX
  rw [List.findIdx?_eq_none_iff.2 h]
theorem idxX_some {l : List M.Hit} {k : Int} {j : Nat} (hj : j < l.length) (h : ∀ x ∈ l.take j, (x.key == k) = false) (hp : (l[j].key == k) = true) : idxX l k = (j : Int) := by
  unfold idxX
  have : l.findIdx? (fun x => x.key == k) = some j := by
    rw [List.findIdx?_eq_some_iff_getElem]
    refine ⟨hj, hp, fun i hi => ?_⟩
    have := h (l[i]'(by omega)) (List.mem_take_iff_getElem.2 ⟨i, by omega, rfl⟩)
    simpa using this
  rw [this]
theorem idxX_any (l : List M.Hit) (k : Int) : decide (idxX l k ≥ 0) = l.any fun x => x.key == k := by
  unfold idxX
  cases h : l.findIdx? (fun x => x.key == k) with
  | none =>
    rw [List.findIdx?_eq_none_iff] at h
    have : l.any (fun x => x.key == k) = false := by rw [List.any_eq_false]; intro x hx; rw [h x hx]; simp
    rw [this]
    simp
  | some i =>
    rw [List.findIdx?_eq_some_iff_getElem] at h
    obtain ⟨hi, hp, _⟩ := h
    have : l.any (fun x => x.key == k) = true := List.any_eq_true.2 ⟨l[i], List.getElem_mem hi, hp⟩
    rw [this]
    simp
theorem snoc_false {l : List M.Hit} {p : M.Hit → Bool} {j : Nat} (hj : j < l.length) (h : ∀ x ∈ l.take j, p x = false) (hp : p l[j] = false) : ∀ x ∈ l.take (j + 1), p x = false := fun x hx => by
  rw [List.take_succ_eq_append_getElem hj, List.mem_append] at hx
  rcases hx with hx | hx
  · exact h x hx
  · simp at hx; subst hx; exact hp

set_option maxHeartbeats 1000000 in
theorem indexFuncX_key {w : World} {A : Option Addr} {c g : Nat} {l : List M.Hit} {k : Int} (D : SeesX w A l) (hg : w.cell? ⟨g, 0, none⟩ = some (.int .i64 k)) :
    Calls Try.prog 112 #[.slice A l.length c, .func (.func 83) #[] #[.pointer (some ⟨g, 0, none⟩)]] w fun e w' => e = .returned (.int .i64 (idxX l k)) ∧ w.grownBy w' none := by
  have hl := D.2
  obtain ⟨n, hn⟩ : ∃ n, n = l.length := ⟨_, rfl⟩
  rw [← hn] at hl ⊢
  have HL := Lib.hid hn
  have HT : Hid (∀ W, w.grownBy W none → ∀ x : M.Hit, Calls Try.prog 83 #[.agg #[.int .i64 x.key, .int .i64 x.dist], .pointer (some ⟨g, 0, none⟩)] W fun r w' => r = .returned (.bool (x.key == k)) ∧ W.grownBy w' none) := Lib.hid fun W hW x => mergeHits1_any W g k x (hW.cell hg (by simp))
  have HD := Lib.hid D
  clear hn D hg
  go_enter Try.func112, Try.ntmps112
  go_wp2_with fail
  go_loopw [8] (fun i wr => ∃ j : Nat, j ≤ n ∧ i = .int .i64 j ∧ (∀ x ∈ l.take j, (x.key == k) = false) ∧ w.grownBy wr none) (fun i _ => n - (intOf i).toNat)
  case atStart => exact ⟨0, Nat.zero_le _, rfl, by simp, gb_refl _ _⟩
  case round =>
    obtain ⟨j, hj, rfl, ha, hg⟩ := hrel
    have HA := Lib.hid ha
    have HG := Lib.hid hg
    clear ha hg
    by_cases hlt : j < n
    · have hjl : j < l.length := by rw [← HL.out]; exact hlt
      obtain ⟨b, o, rfl, hb1, hb2, c0, c1⟩ := (HD.out.on HG.out).1.hit (List.getElem?_eq_getElem hjl)
      have HC := Lib.hid (HT.out wr HG.out l[j])
      have HS := Lib.hid (fun h => snoc_false (p := fun x => x.key == k) hjl HA.out h)
      have HF := Lib.hid (fun h => idxX_some hjl HA.out h)
      generalize l[j] = y at *
      go_wp2_with fail
      refine HC.out.mono ?_
      rintro e w1 ⟨rfl, hg⟩
      have G1 := Lib.hid (gb_trans HG.out hg)
      clear hg
      cases hp : (y.key == k)
      · have HP := Lib.hid (HS.out hp)
        clear hp
        go_wp2_with fail
        go_roundw
        case rel => exact ⟨j + 1, by omega, by go_num, HP.out, G1.out⟩
        case measure => simp [intOf]; omega
      · have HP := Lib.hid (HF.out hp)
        clear hp
        go_wp2_with fail
        go_ret
        exact ⟨ret_int HP.out.symm, G1.out⟩
    · obtain rfl : j = n := by omega
      have HN := Lib.hid (idxX_none (l := l) (k := k) (by have := HA.out; rwa [HL.out, List.take_of_length_le (Nat.le_refl _)] at this))
      go_wp2_with fail
      go_ret
      exact ⟨ret_int HN.out.symm, HG.out⟩
theorem containsFuncX_key {w : World} {A : Option Addr} {c g : Nat} {l : List M.Hit} {k : Int} (D : SeesX w A l) (hg : w.cell? ⟨g, 0, none⟩ = some (.int .i64 k)) :
    Calls Try.prog 82 #[.slice A l.length c, .func (.func 83) #[] #[.pointer (some ⟨g, 0, none⟩)]] w fun e w' => e = .returned (.bool (l.any fun x => x.key == k)) ∧ w.grownBy w' none := by
  have HI := Lib.hid (indexFuncX_key (c := c) D hg)
  have HA := Lib.hid (idxX_any l k)
  clear D hg
  generalize l.length = n at *
  generalize idxX l k = i at *
  go_enter Try.func82, Try.ntmps82
  go_wp2_with fail
  refine HI.out.mono ?_
  rintro e w1 ⟨rfl, hg⟩
  have G := Lib.hid hg
  clear hg
  go_wp2_with fail
  go_ret
  exact ⟨ret_bool HA.out, G.out⟩

theorem kd_take {s : List M.Hit} (h : M.KD s) {j : Nat} (hj : j < s.length) : ((s.take j).any fun x => x.key == s[j].key) = false := by
  rw [List.any_eq_false]
  intro x hx e
  have e : x.key = s[j].key := by simpa using e
  unfold M.KD at h
  rw [← List.take_append_drop j s, List.map_append, List.nodup_append] at h
  refine h.2.2 x.key (List.mem_map.2 ⟨x, hx, rfl⟩) s[j].key (List.mem_map.2 ⟨s[j], ?_, rfl⟩) e
  rw [List.drop_eq_getElem_cons hj]
  exact List.mem_cons_self ..
theorem OwnX.n {w : World} {lo n c : Nat} {A : Option Addr} {l : List M.Hit} (h : OwnX w lo (.slice A n c) l) (hn : l.length = n) : w.ownsRow lo 45 2 (.slice A n c) n (cellsX l) := by
  unfold OwnX at h
  rwa [hn] at h
set_option maxHeartbeats 4000000 in
theorem mergeHits_any {w : World} {A B : Option Addr} {c d : Nat} {a b : List M.Hit} {k : Int} (D : SeesX w A a) (E : SeesX w B b) (hkd : M.KD (a ++ b)) (ha : a.length ≤ 16) (hb : b.length ≤ 16) (hk : 1 ≤ k) (hk2 : k ≤ 16) :
    Calls Try.prog 42 #[.slice A a.length c, .slice B b.length d, .int .i64 k] w (HitsMade w (M.mergeK k.toNat a b)) := by
  obtain ⟨i0, hi0, hz0, hz1, hz2⟩ := info_parts info_hit
  have HQ : Hid (M.mergeK k.toNat a b = (M.sortH (a ++ b)).take k.toNat) := Lib.hid rfl
  have HKD := Lib.hid (hkd.perm (M.sortH_perm (a ++ b)).symm)
  have HSL := Lib.hid (M.sortH_len (a ++ b))
  generalize M.mergeK k.toNat a b = r at *
  obtain ⟨K, hK⟩ : ∃ K : Nat, K = k.toNat := ⟨_, rfl⟩
  have hKk : k = (K : Int) := by omega
  rw [← hK] at HQ
  subst hKk
  clear hK hkd
  obtain ⟨la, hla⟩ : ∃ n, n = a.length := ⟨_, rfl⟩
  obtain ⟨lb, hlb⟩ : ∃ n, n = b.length := ⟨_, rfl⟩
  rw [← hla] at ha ⊢
  rw [← hlb] at hb ⊢
  have HLA := Lib.hid hla
  have HLB := Lib.hid hlb
  have HD := Lib.hid (D.on (World.grownBy_alloc w (.cells #[] 45) none))
  have HE : Hid (Rd (w.alloc (.cells #[] 45)) 0 w.heap.size B (cellsX b)) := Lib.hid (E.1.keep (World.grownBy_alloc w (.cells #[] 45) none) (Nat.le_refl _))
  clear hla hlb D E
  go_enter Try.func42, Try.ntmps42
  go_wp2_with (first
    | (at_builtin; refine wpList_append_rd _ rfl (.tmp 11) (.tmp 12) 25 rfl w.heap.size 45 i0 (.agg #[.int .i64 0, .int .i64 0]) 2 16 Try.underlying25 hi0 hz0 hz1 hz2 rfl (by decide) (.slice (some ⟨w.heap.size, 0, none⟩) 0 0) 0 [] rfl (World.ownsRow_made w #[] 0 (Nat.le_refl _) (by decide) rfl) A la c 0 _ (cellsX a) rfl (by rw [cellsX_length, ← HLA.out]) HD.out.1 (cellsX_oneCell _) (by unfold maxLen; omega) (by omega) (by simp) ?_; intro v1 w1 hown' hgrow; have T1 := Lib.hid hown'; have T2 := Lib.hid hgrow; have G1 := Lib.hid (gb_new (World.grownBy_alloc w (.cells #[] 45) none) hgrow (fun g hg => .inl (by simp [Value.ownBlock] at hg; omega))); have HE1 := Lib.hid (HE.out.agree (fun b' _ h => hgrow.block b' (Nat.lt_of_lt_of_le h (World.grownBy_alloc w (.cells #[] 45) none).size) (fun e => by simp [Value.ownBlock] at e; omega))); clear hown' hgrow)
    | (at_builtin; refine wpList_append_rd _ rfl (.tmp 13) (.tmp 14) 25 rfl w.heap.size 45 i0 (.agg #[.int .i64 0, .int .i64 0]) 2 16 Try.underlying25 hi0 hz0 hz1 hz2 rfl (by decide) v1 (0 + la) ([] ++ cellsX a) rfl T1.out B lb d 0 _ (cellsX b) rfl (by rw [cellsX_length, ← HLB.out]) HE1.out (cellsX_oneCell _) (by unfold maxLen; omega) (by omega) (by have := G1.out.size; omega) ?_; intro v2 w2 hown' hgrow; have T3 := Lib.hid hown'; have T4 := Lib.hid hgrow; clear hown' hgrow))
  obtain ⟨n, hn⟩ : ∃ n, n = (a ++ b).length := ⟨_, rfl⟩
  have hnl : n = la + lb := by rw [hn, List.length_append, ← HLA.out, ← HLB.out]
  have HO : Hid (OwnX w2 w.heap.size v2 (a ++ b)) := Lib.hid (by
    have h := T3.out
    unfold OwnX
    rw [List.nil_append, Nat.zero_add, ← cellsX_append, ← hnl, hn] at h
    exact h)
  obtain ⟨Av, cv, rfl, hcv⟩ := HO.out.form
  have G2 : Hid (w.grownBy w2 none) := Lib.hid (gb_new G1.out T4.out (fun g hg => .inl (T1.out.lt g hg).1))
  have HS := Lib.hid (sortFunc_hits HO.out (by omega))
  have HBV : Hid (∀ g, Value.ownBlock (.slice Av (a ++ b).length cv) = some g → w.heap.size ≤ g) := Lib.hid fun g e => (World.ownsRow.lt HO.out g e).1
  rw [← hn] at HS HBV HSL hcv ⊢
  have hn32 : n ≤ 32 := by omega
  have HN := Lib.hid hn
  clear T1 T2 T3 T4 HD HE HE1 G1 HO hn hnl HLA HLB
  generalize M.sortH (a ++ b) = s at *
  refine HS.out.mono ?_
  rintro e w3 ⟨rfl, ho, hg⟩
  have G3 := Lib.hid (gb_new G2.out hg (fun g h => .inl (HBV.out g h)))
  have HA3 : Hid (Rd w3 w.heap.size w3.heap.size Av (cellsX s)) := Lib.hid (rd_of_owns (ho.n HSL.out))
  clear ho hg HS HBV G2
  go_wp2_with fail
  go_loopw [8, 21] (fun v i wr => ∃ j : Nat, j ≤ n ∧ i = .int .i64 j ∧ OwnX wr w3.heap.size v (s.take (min j K)) ∧ w3.grownBy wr none) (fun _ i _ => n - (intOf i).toNat)
  case atStart =>
    refine ⟨0, Nat.zero_le _, rfl, ?_, gb_alloc (gb_refl _ _) _⟩
    rw [Nat.zero_min, List.take_zero]
    exact World.ownsRow_made (e := 45) (size := 2) w3 #[] 0 (Nat.le_refl _) (by decide) rfl
  case round =>
    obtain ⟨j, hj, rfl, hown, hg⟩ := hrel
    have HG := Lib.hid hg
    have HO := Lib.hid hown
    have hsz := hg.size
    obtain ⟨Ao, co, rfl, hco⟩ := hown.form
    clear hown hg
    by_cases hlt : j < n
    · have hjs : j < s.length := by rw [HSL.out]; exact hlt
      obtain ⟨bb, o, rfl, hb1, hb2, c0, c1⟩ := (HA3.out.keep HG.out (Nat.le_refl _)).hit (List.getElem?_eq_getElem hjs)
      have kn : (j : Int) < n := by omega
      have k0 : (0 : Int) ≤ j := by omega
      by_cases hjk : j < K
      · have hm : min j K = j := by omega
        have hm1 : min (j + 1) K = j + 1 := by omega
        have hlj : (s.take j).length = j := by rw [List.length_take]; omega
        rw [hm] at HO hco ⊢
        have HSE := Lib.hid (HO.out.sees (by omega))
        rw [hlj] at HO hco ⊢
        have HLJ := Lib.hid hlj
        have HC : Hid (∀ W g, wr.grownBy W none → W.cell? ⟨g, 0, none⟩ = some (.int .i64 s[j].key) → Calls Try.prog 82 #[.slice Ao j co, .func (.func 83) #[] #[.pointer (some ⟨g, 0, none⟩)]] W fun e w' => e = .returned (.bool false) ∧ W.grownBy w' none) := Lib.hid fun W g hW hc => by
          have e := containsFuncX_key (c := co) (HSE.out.on hW) hc
          rw [kd_take HKD.out hjs, HLJ.out] at e
          exact e
        have HNX : Hid (s.take (j + 1) = s.take j ++ [s[j]]) := Lib.hid (List.take_succ_eq_append_getElem hjs)
        have HON := Lib.hid (HO.out.n HLJ.out)
        have hjk' : (j : Int) < K := by omega
        clear hm hlj
        generalize s[j] = y at *
        go_wp2_with fail
        refine (HC.out _ wr.heap.size (World.grownBy_alloc wr _ none) ((Row.new wr 45 (ca := #[.int .i64 y.key, .int .i64 y.dist]) rfl).cell 0)).mono ?_
        rintro e w4 ⟨rfl, hg⟩
        have B4 := Lib.hid ((Row.new wr 45 (ca := #[.int .i64 y.key, .int .i64 y.dist]) rfl).grown hg (by simp))
        have G4 := Lib.hid (gb_trans (World.grownBy_alloc wr (.cells #[.int .i64 y.key, .int .i64 y.dist] 45) none) hg)
        have H4 := Lib.hid (HON.out.kept G4.out (own_ge HON.out (by simp)))
        have x0 := B4.out.cell 0
        have x1 := B4.out.cell 1
        simp only [List.getElem?_cons_zero, List.getElem?_cons_succ] at x0 x1
        have hs4 := G4.out.size
        clear hg HC
        go_wp2_with (at_builtin; refine wpList_append_own _ rfl (.tmp 35) (.tmp 37) 25 rfl w3.heap.size 45 i0 _ 2 16 Try.underlying25 hi0 hz0 hz1 hz2 rfl (by decide) (.slice Ao j co) j (cellsX (s.take j)) rfl (H4.out.alloc _) ⟨w4.heap.size, 0, none⟩ 1 1 [.int .i64 y.key, .int .i64 y.dist] rfl rfl (two_cell_at rfl) hit_oneCell (by unfold maxLen; omega) (by omega) (by simp; omega) ?_; intro v' w5 hown' hgrow _; have T1 := Lib.hid hown'; have T2 := Lib.hid hgrow; clear hown' hgrow)
        go_roundw
        case rel =>
          refine ⟨j + 1, by omega, by go_num, ?_, gb_new (gb_alloc (gb_trans HG.out G4.out) (.cells #[.int .i64 y.key, .int .i64 y.dist] 45)) T2.out (fun g hg => .inl (H4.out.lt g hg).1)⟩
          rw [hm1, HNX.out]
          unfold OwnX
          rw [cellsX_append, cellsX_one, List.length_append, HLJ.out]
          exact T1.out
        case measure => simp [intOf]; omega
      · have hm : min j K = K := by omega
        have hm1 : min (j + 1) K = K := by omega
        have hlj : (s.take K).length = K := by rw [List.length_take]; omega
        rw [hm] at HO hco ⊢
        rw [hlj] at HO hco ⊢
        have hjk' : ¬ (K : Int) < K := by omega
        clear hm hlj
        generalize s[j] = y at *
        go_wp2_with fail
        go_roundw
        case rel => exact ⟨j + 1, by omega, by go_num, by rw [hm1]; exact HO.out.on (World.grownBy_alloc _ _ none), gb_alloc HG.out _⟩
        case measure => simp [intOf]; omega
    · obtain rfl : j = n := by omega
      have HR : Hid (s.take (min j K) = r) := Lib.hid (by
        rw [HQ.out]
        by_cases h : j ≤ K
        · rw [Nat.min_eq_left h, List.take_of_length_le (by rw [HSL.out]; exact Nat.le_refl _), List.take_of_length_le (by rw [HSL.out]; exact h)]
        · rw [Nat.min_eq_right (by omega)])
      rw [HR.out] at HO hco ⊢
      go_wp2_with fail
      go_ret
      exact hitsMade_of HO.out G3.out.size (gb_trans G3.out HG.out)
end Go.Proofs.Ytamaoljjoghajaa
