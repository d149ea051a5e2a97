/- The walks of copies of entries and of short logs. -/
import Derived.Test.YtilecjaibmglbaaEntW
import Derived.Test.YtilecjaibmglbaaDrawE
import Derived.Test.YtilecjaibmglbaaCopyW
import Derived.Test.YtilecjaibmglbaaPure
import Derived.Deep.RegionHeld3
namespace Go.Proofs.Ytilecjaibmglbaa
open Go.RowKit
set_option linter.unusedVariables false
set_option maxRecDepth 100000

def CopiedEn (w : World) (x : M.Entry) (e : Ending) (w' : World) : Prop :=
  ∃ A c, e = .returned (.agg #[.int .i64 x.kind, .int .i64 x.item.key, .slice A x.item.pos.length c, .int .i64 x.item.tags]) ∧ OwnInts .i64 3 w' w.heap.size (.slice A x.item.pos.length c) x.item.pos ∧ w.grownBy w' none
theorem ecopy_two (w : World) (q x y z : Value) : Row ((w.alloc (.cells #[q, x, y, z] 34)).alloc (.cells #[.int .i64 0, .int .i64 0, .slice none 0 0, .int .i64 0] 34)) w.heap.size 34 [q, x, y, z] ∧
    Row ((w.alloc (.cells #[q, x, y, z] 34)).alloc (.cells #[.int .i64 0, .int .i64 0, .slice none 0 0, .int .i64 0] 34)) (w.heap.size + 1) 34 [.int .i64 0, .int .i64 0, .slice none 0 0, .int .i64 0] ∧
    w.grownBy ((w.alloc (.cells #[q, x, y, z] 34)).alloc (.cells #[.int .i64 0, .int .i64 0, .slice none 0 0, .int .i64 0] 34)) none ∧
    ((w.alloc (.cells #[q, x, y, z] 34)).alloc (.cells #[.int .i64 0, .int .i64 0, .slice none 0 0, .int .i64 0] 34)).heap.size = w.heap.size + 2 := by
  refine ⟨(Row.new w _ rfl).alloc _, ?_, gb_alloc (gb_alloc (gb_refl _ _) _) _, by simp⟩
  have := Row.new (w.alloc (.cells #[q, x, y, z] 34)) 34 (ca := #[.int .i64 0, .int .i64 0, .slice none 0 0, .int .i64 0]) rfl
  simpa using this
set_option maxHeartbeats 1000000 in
theorem copyEntry_impl (w : World) (u : Value) (x : M.Entry) (hl : x.item.pos.length ≤ 1048576) (hr : RdInts .i64 w 0 w.heap.size u x.item.pos) :
    Calls Try.prog 41 #[.agg #[.int .i64 x.kind, .int .i64 x.item.key, u, .int .i64 x.item.tags]] w (CopiedEn w x) := by
  obtain ⟨A, c, rfl, hc, hrd⟩ := hr
  obtain ⟨q, ⟨k, l, t⟩⟩ := x
  have HR := Lib.hid hrd
  have hl' : l.length ≤ 1048576 := hl
  have HC := Lib.hid hc
  clear hrd hl hc
  show Calls Try.prog 41 #[.agg #[.int .i64 q, .int .i64 k, .slice A l.length c, .int .i64 t]] w _
  go_enter Try.func41, Try.ntmps41
  go_wp2_with fail
  refine wp_name (fun W => Row W w.heap.size 34 [.int .i64 q, .int .i64 k, .slice A l.length c, .int .i64 t] ∧ Row W (w.heap.size + 1) 34 [.int .i64 0, .int .i64 0, .slice none 0 0, .int .i64 0] ∧ w.grownBy W none ∧ W.heap.size = w.heap.size + 2) (ecopy_two w _ _ _ _) ?_
  rintro W ⟨r0, r1, hgW, hsz⟩
  have a00 : W.cell? ⟨w.heap.size, 0, none⟩ = some (.int .i64 q) := r0.cell 0
  have a01 : W.cell? ⟨w.heap.size, 1, none⟩ = some (.int .i64 k) := r0.cell 1
  have a02 : W.cell? ⟨w.heap.size, 2, none⟩ = some (.slice A l.length c) := r0.cell 2
  have a03 : W.cell? ⟨w.heap.size, 3, none⟩ = some (.int .i64 t) := r0.cell 3
  have HR0 := Lib.hid r0
  have HR1 := Lib.hid r1
  have HGW := Lib.hid hgW
  have HSZ := Lib.hid hsz
  clear r0 r1 hgW hsz
  go_region_held3 (fun w' => w'.cell? ⟨w.heap.size, 0, none⟩ = some (.int .i64 q) ∧ w'.cell? ⟨w.heap.size, 1, none⟩ = some (.int .i64 k) ∧ w'.cell? ⟨w.heap.size, 2, none⟩ = some (.slice A l.length c) ∧ w'.cell? ⟨w.heap.size, 3, none⟩ = some (.int .i64 t)) (first | go_keep | exact ⟨by assumption, by assumption, by assumption, by assumption⟩)
    (first | (go_at_call 27; refine (copyItem_impl W.drew (.slice A l.length c) 0 w.heap.size ⟨k, l, t⟩ hl' ⟨A, c, rfl, HC.out, HR.out.agree (fun b _ h => (Agree.of_grown (gb_drew HGW.out)) b (Nat.zero_le _) (by omega))⟩ (by show w.heap.size ≤ W.heap.size; have := HSZ.out; omega)).mono ?_; rintro e w1 ⟨Av, cv, rfl, ho, hg⟩; have q1 := Row.grown (w := W.drew) HR1.out hg (by simp); have q0 := Row.grown (w := W.drew) HR0.out hg (by simp); have b00 : w1.cell? ⟨w.heap.size, 0, none⟩ = some (.int .i64 q) := q0.cell 0; have b01 : w1.cell? ⟨w.heap.size, 1, none⟩ = some (.int .i64 k) := q0.cell 1; have b02 : w1.cell? ⟨w.heap.size, 2, none⟩ = some (.slice A l.length c) := q0.cell 2; have b03 : w1.cell? ⟨w.heap.size, 3, none⟩ = some (.int .i64 t) := q0.cell 3; have a10 : w1.cell? ⟨w.heap.size + 1, 0, none⟩ = some (.int .i64 0) := q1.cell 0; have a11 : w1.cell? ⟨w.heap.size + 1, 1, none⟩ = some (.int .i64 0) := q1.cell 1; have a12 : w1.cell? ⟨w.heap.size + 1, 2, none⟩ = some (.slice none 0 0) := q1.cell 2; have a13 : w1.cell? ⟨w.heap.size + 1, 3, none⟩ = some (.int .i64 0) := q1.cell 3; have f10 : w1.frozen? ⟨w.heap.size + 1, 0, none⟩ = false := q1.frozen 0; have f11 : w1.frozen? ⟨w.heap.size + 1, 1, none⟩ = false := q1.frozen 1; have f12 : w1.frozen? ⟨w.heap.size + 1, 2, none⟩ = false := q1.frozen 2; have f13 : w1.frozen? ⟨w.heap.size + 1, 3, none⟩ = false := q1.frozen 3; have HO := Lib.hid ho; have HG := Lib.hid (gb_trans (gb_drew HGW.out) hg); clear ho hg q1 q0))
  go_wp2_with fail
  refine bodyPost_ret (v := .agg #[.int .i64 q, .int .i64 k, .slice Av l.length cv, .int .i64 t]) (by simp [results, Try.results41, go_sem, a10, a11, a12, a13]) rfl ⟨_, _, rfl, ?_, ?_⟩
  · have hz : W.drew.heap.size = w.heap.size + 2 := HSZ.out
    refine OwnInts.wide (lo := W.drew.heap.size) ?_ (by omega)
    repeat (with_reducible refine OwnInts.set_ (p := ⟨_, _, none⟩) ?_ (by show w.heap.size + 1 < _; omega) _)
    exact HO.out
  · repeat (with_reducible refine gb_setCell (p := ⟨_, _, none⟩) ?_ (.inl (by show _ ≤ w.heap.size + 1; omega)) _)
    exact HG.out
theorem epush_step {wr w1 w2 w4 : World} {B : Nat} {v v' u : Value} {LV : List (M.Entry × Value)} {y : M.Entry} (hO : wr.ownsRow B 34 4 v LV.length (cellsE LV)) (hI : ∀ p ∈ LV, OwnInts .i64 3 wr B p.2 p.1.item.pos)
    (hP : LV.Pairwise (fun p q => p.2.ownBlock = none ∨ p.2.ownBlock ≠ q.2.ownBlock)) (h1 : wr.grownBy w1 none) (hc : OwnInts .i64 3 w1 wr.heap.size u y.item.pos) (hB : B ≤ wr.heap.size) (h12 : w1.grownBy w2 none)
    (T1 : w4.ownsRow B 34 4 v' (LV.length + 1) (cellsE LV ++ [.int .i64 y.kind, .int .i64 y.item.key, u, .int .i64 y.item.tags])) (T2 : w2.grownBy w4 v.ownBlock) : OwnEntries w4 B v' (LV.map (·.1) ++ [y]) := by
  have hv2 : w2.ownsRow B 34 4 v LV.length (cellsE LV) := (hO.kept h1 (own_ge hO (by simp))).kept h12 (own_ge hO (by simp))
  refine OwnEntries.push (p := (y, u)) (by rw [cellsE_one]; exact T1) (fun q hq => ?_) hP ?_ (fun q hq => ?_)
  · have h := ((hI q hq).grown h1 (by simp)).grown h12 (by simp)
    exact h.kept T2 (ent_types h hv2)
  · have h := (hc.grown h12 (by simp)).wide hB
    exact h.kept T2 (ent_types h hv2)
  · cases hb : q.2.ownBlock with
    | none => exact .inl rfl
    | some b =>
      refine .inr fun e => ?_
      have a1 := ((hI q hq).lt b hb).2
      have a2 := (hc.lt b e.symm).1
      omega


set_option maxHeartbeats 1000000 in
theorem indexFuncE_short {w : World} {A : Option Addr} {c : Nat} {L : List M.Entry} {p : M.Entry → Bool} {q : Value} (D : SeesE w A L)
    (ht : ∀ W, w.grownBy W none → ∀ x ∈ L, ∀ u, RdInts .i64 W 0 W.heap.size u x.item.pos → Calls Try.prog 40 #[.agg #[.int .i64 x.kind, .int .i64 x.item.key, u, .int .i64 x.item.tags], q] W fun e w' => e = .returned (.bool (p x)) ∧ W.grownBy w' none) :
    Calls Try.prog 63 #[.slice A L.length c, .func (.func 40) #[] #[q]] w fun e w' => e = .returned (.int .i64 (idxE L p)) ∧ w.grownBy w' none := by
  have hl := D.2.1
  obtain ⟨n, hn⟩ : ∃ n, n = L.length := ⟨_, rfl⟩
  rw [← hn] at hl ⊢
  have HL := Lib.hid hn
  have HT := Lib.hid ht
  have HD := Lib.hid D
  clear hn ht D
  go_enter Try.func63, Try.ntmps63
  go_wp2_with fail
  go_loopw [8] (fun i wr => ∃ k : Nat, k ≤ n ∧ i = .int .i64 k ∧ (∀ x ∈ L.take k, p x = false) ∧ w.grownBy wr none) (fun i _ => n - (intOf i).toNat)
  case atStart => exact ⟨0, Nat.zero_le _, rfl, by simp, gb_refl _ _⟩
  case round =>
    obtain ⟨k, hk, rfl, ha, hg⟩ := hrel
    have HA := Lib.hid ha
    have HG := Lib.hid hg
    clear ha hg
    by_cases hlt : k < n
    · have hkl : k < L.length := by rw [← HL.out]; exact hlt
      obtain ⟨b, o, rfl, hb1, hb2, hI⟩ := HD.out.1.at_ (List.getElem?_eq_getElem hkl)
      obtain ⟨u, c0, c1, c2, c3, hu⟩ := hI.agree hb1 hb2 (Agree.of_grown HG.out)
      have HC := Lib.hid (HT.out wr HG.out L[k] (List.getElem_mem hkl) u (hu.wide (Nat.le_refl _) HG.out.size))
      have HS := Lib.hid (fun h => all_snoc_false (p := p) hkl HA.out h)
      have HF := Lib.hid (fun h => idxE_some (p := p) hkl HA.out h)
      obtain ⟨Au, cu, rfl, hcu, hru⟩ := hu
      clear hI hcu hru
      generalize L[k] = y at *
      go_wp2_with fail
      refine HC.out.mono ?_
      rintro e w1 ⟨rfl, hg⟩
      have G1 := Lib.hid (gb_trans HG.out hg)
      clear hg
      cases hp : p y
      · have HP := Lib.hid (HS.out hp)
        clear hp
        go_wp2_with fail
        go_roundw
        case rel => exact ⟨k + 1, by omega, by go_num, HP.out, G1.out⟩
        case measure => simp [intOf]; omega
      · have HP := Lib.hid (HF.out hp)
        clear hp
        go_wp2_with fail
        go_ret
        exact ⟨ret_int HP.out.symm, G1.out⟩
    · obtain rfl : k = n := by omega
      have HN := Lib.hid (idxE_none (L := L) (p := p) (by have := HA.out; rwa [HL.out, List.take_of_length_le (Nat.le_refl _)] at this))
      go_wp2_with fail
      go_ret
      exact ⟨ret_int HN.out.symm, HG.out⟩
theorem containsFuncE_short {w : World} {A : Option Addr} {c : Nat} {L : List M.Entry} {p : M.Entry → Bool} {q : Value} (D : SeesE w A L)
    (ht : ∀ W, w.grownBy W none → ∀ x ∈ L, ∀ u, RdInts .i64 W 0 W.heap.size u x.item.pos → Calls Try.prog 40 #[.agg #[.int .i64 x.kind, .int .i64 x.item.key, u, .int .i64 x.item.tags], q] W fun e w' => e = .returned (.bool (p x)) ∧ W.grownBy w' none) :
    Calls Try.prog 39 #[.slice A L.length c, .func (.func 40) #[] #[q]] w fun e w' => e = .returned (.bool (L.any p)) ∧ w.grownBy w' none := by
  have HI := Lib.hid (indexFuncE_short (c := c) (p := p) D ht)
  have HA := Lib.hid (idxE_any L p)
  clear ht D
  generalize L.length = n at *
  generalize idxE L p = i at *
  go_enter Try.func39, Try.ntmps39
  go_wp2_with fail
  refine HI.out.mono ?_
  rintro e w1 ⟨rfl, hg⟩
  have G := Lib.hid hg
  clear hg
  go_wp2_with fail
  go_ret
  exact ⟨ret_bool HA.out, G.out⟩
theorem short1_any (w : World) (g : Nat) (u : Value) (e x : M.Entry) (hr : RdInts .i64 w 0 w.heap.size u x.item.pos) (hg : w.cell? ⟨g, 1, none⟩ = some (.int .i64 e.item.key)) (hlt : g < w.heap.size) :
    Calls Try.prog 40 #[.agg #[.int .i64 x.kind, .int .i64 x.item.key, u, .int .i64 x.item.tags], .pointer (some ⟨g, 0, none⟩)] w fun r w' => r = .returned (.bool (M.keyB e x)) ∧ w.grownBy w' none := by
  obtain ⟨A, c, rfl, _, _⟩ := hr
  have hg' : (w.alloc (.cells #[.int .i64 x.kind, .int .i64 x.item.key, .slice A x.item.pos.length c, .int .i64 x.item.tags] 34)).cell? ⟨g, 1, none⟩ = some (.int .i64 e.item.key) := (World.grownBy_alloc w _ none).cell hg (by simp)
  go_enter Try.func40, Try.ntmps40
  go_wp2_with fail
  go_ret
  exact ⟨rfl, gb_alloc (gb_refl _ _) _⟩
set_option maxHeartbeats 2000000 in
theorem ShortLog_impl {w : World} {A : Option Addr} {c : Nat} {L : List M.Entry} (D : SeesE w A L) (hc : L.length ≤ c) :
    Calls Try.prog 19 #[.slice A L.length c] w fun e w' => ∃ v, e = .returned v ∧ OwnEntries w' w.heap.size v (M.ShortLog L) ∧ w.grownBy w' none := by
  obtain ⟨i0, hi0, hz0, hz1, hz2⟩ := info_parts info_entry'
  have HD := Lib.hid D
  have HV := Lib.hid (isLog_impl (c := c) D)
  clear D
  cases hv : M.validLog L
  · have HF : Hid (M.ShortLog L = []) := Lib.hid (by unfold M.ShortLog; rw [hv]; rfl)
    rw [HF.out]
    rw [hv] at HV
    clear hv
    generalize L.length = n at *
    go_enter Try.func19, Try.ntmps19
    go_wp2_with fail
    refine HV.out.mono ?_
    rintro e w1 ⟨rfl, hg⟩
    have G := Lib.hid hg
    clear hg
    go_wp2_with fail
    go_ret
    exact ⟨_, rfl, ⟨[], rfl, ⟨rfl, .inl ⟨rfl, rfl⟩⟩, by simp, List.Pairwise.nil⟩, G.out⟩
  · have HF : Hid (M.ShortLog L = M.short L) := Lib.hid (by unfold M.ShortLog; rw [hv]; rfl)
    rw [HF.out]
    rw [hv] at HV
    have hl32 : L.length ≤ 32 := by unfold M.validLog at hv; simp at hv; exact hv.2
    clear hv
    obtain ⟨n, hn⟩ : ∃ n, n = L.length := ⟨_, rfl⟩
    rw [← hn] at HV hc hl32 ⊢
    have HL := Lib.hid hn
    clear hn
    go_enter Try.func19, Try.ntmps19
    go_wp2_with fail
    refine HV.out.mono ?_
    rintro e w1 ⟨rfl, hg⟩
    have D1 := Lib.hid (HD.out.on hg)
    have G1 := Lib.hid hg
    have hs1 := hg.size
    clear hg HV
    go_wp2_with fail
    go_loopw [3, 12] (fun v i wr => ∃ k : Nat, k ≤ n ∧ i = .int .i64 k ∧ OwnEntries wr w1.heap.size v (M.shortTo L k) ∧ w1.grownBy wr none) (fun _ i _ => n - (intOf i).toNat)
    case atStart =>
      refine ⟨0, Nat.zero_le _, rfl, ⟨[], rfl, ?_, by simp, List.Pairwise.nil⟩, gb_alloc (gb_refl _ _) _⟩
      have := World.ownsRow_made (base := w1.heap.size) (e := 34) (size := 4) w1 #[] 0 (Nat.le_refl _) (by decide) rfl
      simpa [cellsE] using this
    case round =>
      obtain ⟨k, hk, rfl, hown, hg⟩ := hrel
      have O := Lib.hid hown
      have G := Lib.hid hg
      have hszw := hg.size
      clear hown hg
      by_cases hlt : k < n
      · have hkl : k < L.length := by rw [← HL.out]; exact hlt
        obtain ⟨b, o, rfl, hb1, hb2, hI⟩ := D1.out.1.at_ (List.getElem?_eq_getElem hkl)
        obtain ⟨u, c0, c1, c2, c3, hu⟩ := hI.agree hb1 hb2 (Agree.of_grown G.out)
        obtain ⟨Au, cu, rfl, hcu, hru⟩ := hu
        have HU := Lib.hid (show RdInts .i64 wr 0 w1.heap.size (.slice Au L[k].item.pos.length cu) L[k].item.pos from ⟨_, _, rfl, hcu, hru⟩)
        have hpl : L[k].item.pos.length ≤ 1048576 := D1.out.2.2 _ (List.getElem_mem hkl)
        have HSUC := Lib.hid (M.shortTo_succ hkl)
        have HLD : Hid ((L.drop (k + 1)).length = n - (k + 1)) := Lib.hid (by rw [List.length_drop, ← HL.out])
        have hlen16 := M.shortTo_len L k
        have kn : (k : Int) < n := by omega
        clear hI hcu hru
        generalize L[k] = y at *
        obtain ⟨wo, hwo⟩ : ∃ wo : World, wo = wr.alloc (.cells #[.int .i64 y.kind, .int .i64 y.item.key, .slice Au y.item.pos.length cu, .int .i64 y.item.tags] 34) := ⟨_, rfl⟩
        have B0 := Lib.hid (show Row wo wr.heap.size 34 [.int .i64 y.kind, .int .i64 y.item.key, .slice Au y.item.pos.length cu, .int .i64 y.item.tags] from hwo ▸ Row.new wr _ rfl)
        have G0 := Lib.hid (show wr.grownBy wo none from hwo ▸ World.grownBy_alloc wr _ none)
        have HT : Hid (∀ W, wo.grownBy W none → ∀ x ∈ L.drop (k + 1), ∀ u, RdInts .i64 W 0 W.heap.size u x.item.pos → Calls Try.prog 40 #[.agg #[.int .i64 x.kind, .int .i64 x.item.key, u, .int .i64 x.item.tags], .pointer (some ⟨wr.heap.size, 0, none⟩)] W fun r w' => r = .returned (.bool (M.keyB y x)) ∧ W.grownBy w' none) := Lib.hid fun W hW x hx u hu =>
          short1_any W wr.heap.size u y x hu ((B0.out.grown hW (by simp)).cell 1) (by have := B0.out.lt; have := hW.size; omega)
        have D2 := Lib.hid ((D1.out.on G.out).on G0.out)
        have C1 := Lib.hid (containsFuncE_short (w := wo) (c := c - (k + 1)) (p := M.keyB y) (D2.out.drop (k + 1)) HT.out)
        have C0 : Hid (L.drop (k + 1) = [] → ∀ A' c', Calls Try.prog 39 #[.slice A' 0 c', .func (.func 40) #[] #[.pointer (some ⟨wr.heap.size, 0, none⟩)]] wo fun e w' => e = .returned (.bool false) ∧ wo.grownBy w' none) := Lib.hid fun _ A' c' =>
          containsFuncE_short (w := wo) (L := []) (p := M.keyB y) ⟨RdE.nil_ _ _ _ _, SmallE.nil_⟩ (fun W hW x hx => by simp at hx)
        rw [HLD.out] at C1
        have HWO := Lib.hid hwo
        clear hwo
        by_cases hcap : c = k + 1
        · have hnil : L.drop (k + 1) = [] := List.eq_nil_of_length_eq_zero (by rw [HLD.out]; omega)
          have HNIL : Hid ((L.drop (k + 1)).any (M.keyB y) = false) := Lib.hid (by rw [hnil]; rfl)
          have C2 := Lib.hid (C0.out hnil)
          have hn1 : n - (k + 1) = 0 := by omega
          have HN1 := Lib.hid hn1
          have hcle : c ≤ k + 1 := by omega
          clear hnil hn1 hcap
          go_wp2_with fail
          rw [← HWO.out, HN1.out]
          refine (C2.out _ _).mono ?_
          rintro e w2 ⟨rfl, hg⟩
          rw [HNIL.out] at HSUC
          have B2 := Lib.hid (B0.out.grown hg (by simp))
          have G2 := Lib.hid (gb_trans G0.out hg)
          have b0 := B2.out.cell 0
          have b1 := B2.out.cell 1
          have b2 := B2.out.cell 2
          have b3 := B2.out.cell 3
          have bf0 := B2.out.frozen 0
          have bf1 := B2.out.frozen 1
          have bf2 := B2.out.frozen 2
          have bf3 := B2.out.frozen 3
          simp only [List.getElem?_cons_zero, List.getElem?_cons_succ] at b0 b1 b2 b3
          clear hg
          go_wp2_with fail
          refine (copyEntry_impl w2 (.slice Au y.item.pos.length cu) y hpl ((HU.out.keep G2.out hszw).wide (Nat.le_refl _) (by have := G2.out.size; omega))).mono ?_
          rintro e w3 ⟨Ac, cc, rfl, hc3, hg3⟩
          have G3 := Lib.hid (gb_trans G2.out hg3)
          have HC3 := Lib.hid (OwnInts.wide hc3 (show wr.heap.size ≤ w2.heap.size from G2.out.size))
          obtain ⟨LV, hLV, hO, hI9, hP⟩ := O.out
          have hlv16 : LV.length ≤ 32 := by
            have := congrArg List.length hLV
            rw [List.length_map] at this
            omega
          have H1 := Lib.hid hLV
          have H2 := Lib.hid hO
          have H3 := Lib.hid hI9
          have H4 := Lib.hid hP
          have H2a := Lib.hid ((H2.out.kept G3.out (own_ge H2.out (by simp))).alloc (.cells #[.int .i64 y.kind, .int .i64 y.item.key, .slice Ac y.item.pos.length cc, .int .i64 y.item.tags] 34))
          have hs3 := G3.out.size
          clear hLV hO hI9 hP hg3 hc3
          go_wp2_with (at_builtin; refine wpList_append_own _ rfl (.tmp 24) (.tmp 27) 26 rfl w1.heap.size 34 i0 _ 4 48 Try.underlying26 hi0 hz0 hz1 hz2 rfl (by decide) _ LV.length (cellsE LV) rfl H2a.out ⟨w3.heap.size, 0, none⟩ 1 1 [.int .i64 y.kind, .int .i64 y.item.key, .slice Ac y.item.pos.length cc, .int .i64 y.item.tags] rfl rfl (four_cell_at rfl) entry_oneCell (by unfold maxLen; omega) (by omega) (by simp; omega) ?_; intro v' w4 hown' hgrow _; have T1 := Lib.hid hown'; have T2 := Lib.hid hgrow; clear hown' hgrow)
          go_roundw
          case rel =>
            refine ⟨k + 1, by omega, by go_num, ?_, gb_new (gb_alloc (gb_trans G.out G3.out) _) T2.out (fun b hb => .inl (H2.out.lt b hb).1)⟩
            have e : M.shortTo L (k + 1) = LV.map (·.1) ++ [y] := by rw [HSUC.out, H1.out]; simp
            rw [e]
            exact epush_step H2.out H3.out H4.out G3.out HC3.out hszw (World.grownBy_alloc _ _ _) T1.out T2.out
          case measure => simp [intOf]; omega
        · go_wp2_with fail
          rw [← HWO.out]
          refine C1.out.mono ?_
          rintro e w2 ⟨rfl, hg⟩
          cases ha : (L.drop (k + 1)).any (M.keyB y)
          · rw [ha] at HSUC
            clear ha
            have B2 := Lib.hid (B0.out.grown hg (by simp))
            have G2 := Lib.hid (gb_trans G0.out hg)
            have b0 := B2.out.cell 0
            have b1 := B2.out.cell 1
            have b2 := B2.out.cell 2
            have b3 := B2.out.cell 3
            have bf0 := B2.out.frozen 0
            have bf1 := B2.out.frozen 1
            have bf2 := B2.out.frozen 2
            have bf3 := B2.out.frozen 3
            simp only [List.getElem?_cons_zero, List.getElem?_cons_succ] at b0 b1 b2 b3
            clear hg
            go_wp2_with fail
            refine (copyEntry_impl w2 (.slice Au y.item.pos.length cu) y hpl ((HU.out.keep G2.out hszw).wide (Nat.le_refl _) (by have := G2.out.size; omega))).mono ?_
            rintro e w3 ⟨Ac, cc, rfl, hc3, hg3⟩
            have G3 := Lib.hid (gb_trans G2.out hg3)
            have HC3 := Lib.hid (OwnInts.wide hc3 (show wr.heap.size ≤ w2.heap.size from G2.out.size))
            obtain ⟨LV, hLV, hO, hI9, hP⟩ := O.out
            have hlv16 : LV.length ≤ 32 := by
              have := congrArg List.length hLV
              rw [List.length_map] at this
              omega
            have H1 := Lib.hid hLV
            have H2 := Lib.hid hO
            have H3 := Lib.hid hI9
            have H4 := Lib.hid hP
            have H2a := Lib.hid ((H2.out.kept G3.out (own_ge H2.out (by simp))).alloc (.cells #[.int .i64 y.kind, .int .i64 y.item.key, .slice Ac y.item.pos.length cc, .int .i64 y.item.tags] 34))
            have hs3 := G3.out.size
            clear hLV hO hI9 hP hg3 hc3
            go_wp2_with (at_builtin; refine wpList_append_own _ rfl (.tmp 24) (.tmp 27) 26 rfl w1.heap.size 34 i0 _ 4 48 Try.underlying26 hi0 hz0 hz1 hz2 rfl (by decide) _ LV.length (cellsE LV) rfl H2a.out ⟨w3.heap.size, 0, none⟩ 1 1 [.int .i64 y.kind, .int .i64 y.item.key, .slice Ac y.item.pos.length cc, .int .i64 y.item.tags] rfl rfl (four_cell_at rfl) entry_oneCell (by unfold maxLen; omega) (by omega) (by simp; omega) ?_; intro v' w4 hown' hgrow _; have T1 := Lib.hid hown'; have T2 := Lib.hid hgrow; clear hown' hgrow)
            go_roundw
            case rel =>
              refine ⟨k + 1, by omega, by go_num, ?_, gb_new (gb_alloc (gb_trans G.out G3.out) _) T2.out (fun b hb => .inl (H2.out.lt b hb).1)⟩
              have e : M.shortTo L (k + 1) = LV.map (·.1) ++ [y] := by rw [HSUC.out, H1.out]; simp
              rw [e]
              exact epush_step H2.out H3.out H4.out G3.out HC3.out hszw (World.grownBy_alloc _ _ _) T1.out T2.out
            case measure => simp [intOf]; omega
          · rw [ha] at HSUC
            have G2 := Lib.hid (gb_trans G0.out hg)
            clear ha hg
            go_wp2_with fail
            go_roundw
            case rel => exact ⟨k + 1, by omega, by go_num, (by have h := O.out.grown G2.out (by simp); rw [HSUC.out]; simpa using h), gb_trans G.out G2.out⟩
            case measure => simp [intOf]; omega
      · obtain rfl : k = n := by omega
        have HS : Hid (M.shortTo L k = M.short L) := Lib.hid (by unfold M.short; rw [HL.out])
        rw [HS.out] at O
        go_wp2_with fail
        go_ret
        exact ⟨_, rfl, O.out.wide hs1, gb_trans G1.out G.out⟩

theorem any_take {α : Type} {p : α → Bool} {l : List α} {k : Nat} (hk : k < l.length) : (l.take (k + 1)).any p = ((l.take k).any p || p l[k]) := by
  rw [List.take_succ_eq_append_getElem hk, List.any_append]
  simp
end Go.Proofs.Ytilecjaibmglbaa
