/- The walks of the reference's nearest items. -/
import Derived.Test.YtamaoljjoghajaaAddS
import Derived.Test.YtamaoljjoghajaaDrawM
namespace Go.Proofs.Ytamaoljjoghajaa
open Go.RowKit
set_option linter.unusedVariables false
set_option linter.unusedSimpArgs false
set_option maxRecDepth 100000

theorem nearsS_length (L : List M.Item) (kind : Int) (m : List Int) : (M.nears L kind m).length = L.length := by unfold M.nears; rw [List.length_map]
theorem nearsS_at {L : List M.Item} {k : Nat} (hk : k < L.length) (kind : Int) (m : List Int) : (M.nears L kind m)[k]'(by rw [nearsS_length]; exact hk) = ⟨L[k].key, M.dist kind L[k].pos m⟩ := by simp [M.nears, M.hitOf]
set_option maxHeartbeats 2000000 in
theorem nearest_spec {w : World} {A B : Option Addr} {c d lo hi : Nat} {L : List M.Item} {m : List Int} {kind k : Int} (hL : L.length ≤ 16) (hv : ∀ x ∈ L, M.isVec x.pos = true) (hr : RdI w lo hi A L) (hhi : hi ≤ w.heap.size) (E : SeesN .i64 w B m) (hm : M.isVec m = true) (hd1 : 1 ≤ kind) (hd2 : kind ≤ 4) (hk : 1 ≤ k) (hk2 : k ≤ 16) :
    Calls Try.prog 37 #[.slice A L.length c, .int .i64 kind, .slice B m.length d, .int .i64 k] w (HitsMade w (M.nearest L kind m k.toNat)) := by
  obtain ⟨n, hn⟩ : ∃ n, n = L.length := ⟨_, rfl⟩
  rw [← hn] at hL ⊢
  have HL := Lib.hid hn
  have HR := Lib.hid hr
  have HV := Lib.hid hv
  have E := Lib.hid E
  have HM := Lib.hid hm
  have HQ : Hid (M.nearest L kind m k.toNat = M.addAll k.toNat [] (M.nears L kind m)) := Lib.hid (M.addAll_nil _ _).symm
  have HACC : Hid (∀ j, M.WS (M.addAll k.toNat [] ((M.nears L kind m).take j)) ∧ (M.addAll k.toNat [] ((M.nears L kind m).take j)).length ≤ 16) := Lib.hid fun j => ⟨M.addAll_ws _ _ _ List.Pairwise.nil, by have := M.addAll_len k.toNat ((M.nears L kind m).take j) [] (Nat.zero_le _); omega⟩
  generalize M.nearest L kind m k.toNat = r at *
  clear hn hr hv hm
  go_enter Try.func37, Try.ntmps37
  go_wp2_with fail
  go_loopw [9, 10] (fun v i wr => ∃ j : Nat, j ≤ n ∧ i = .int .i64 j ∧ OwnX wr w.heap.size v (M.addAll k.toNat [] ((M.nears L kind m).take j)) ∧ w.grownBy wr none) (fun _ i _ => n - (intOf i).toNat)
  case atStart => exact ⟨0, Nat.zero_le _, rfl, World.ownsRow_made (e := 45) (size := 2) w #[] 0 (Nat.le_refl _) (by decide) rfl, gb_alloc (gb_refl _ _) _⟩
  case round =>
    obtain ⟨j, hj, rfl, hown, hg⟩ := hrel
    have HG := Lib.hid hg
    have HO := Lib.hid hown
    have hsz := hg.size
    obtain ⟨Ao, co, rfl, hco⟩ := hown.form
    clear hown hg
    by_cases hlt : j < n
    · have hjl : j < L.length := by rw [← HL.out]; exact hlt
      obtain ⟨b, o, rfl, hb1, hb2, hJ⟩ := HR.out.at_ (List.getElem?_eq_getElem hjl)
      obtain ⟨u, c0, c1, c2, hu⟩ := hJ.agree hb1 hb2 (fun b _ h => (Agree.of_grown HG.out) b (Nat.zero_le _) (by omega))
      obtain ⟨Au, cu, rfl, hcu, hru⟩ := hu
      have hvx := HV.out _ (List.getElem_mem hjl)
      have HDI : Hid (∀ W, wr.grownBy W none → Calls Try.prog 77 #[.int .i64 kind, .slice Au L[j].pos.length cu, .slice B m.length d] W fun e w' => e = .returned (.int .i64 (M.dist kind L[j].pos m)) ∧ W.grownBy w' none) := Lib.hid fun W hW =>
        (specDist_any (by rw [(M.isVec_of hvx).2]; omega) (by rw [(M.isVec_of hvx).2, (M.isVec_of HM.out).2]) (M.isVec_of hvx).1 (M.isVec_of HM.out).1 hd1 hd2 ((hru.keep hW (by omega)).wide (Nat.zero_le _) (by have := hW.size; omega)) (E.out.on (gb_trans HG.out hW)).1).mono fun _ _ ⟨he, hq⟩ => ⟨he, gb_of_drewN hq⟩
      have HNX : Hid (M.addAll k.toNat [] ((M.nears L kind m).take (j + 1)) = (M.ins ⟨L[j].key, M.dist kind L[j].pos m⟩ (M.addAll k.toNat [] ((M.nears L kind m).take j))).take k.toNat) := Lib.hid (by
        rw [M.addAll_succ k.toNat [] (M.nears L kind m) (by rw [nearsS_length]; exact hjl), nearsS_at hjl])
      have HAC := Lib.hid (HACC.out j)
      clear hJ hcu hru hvx
      generalize M.dist kind L[j].pos m = q at *
      generalize L[j] = y at *
      generalize hac : M.addAll k.toNat [] ((M.nears L kind m).take j) = acc at *
      clear hac
      have HAH : Hid (∀ W, wr.grownBy W none → Calls Try.prog 76 #[.slice Ao acc.length co, .agg #[.int .i64 y.key, .int .i64 q], .int .i64 k] W (HitsMade W ((M.ins ⟨y.key, q⟩ acc).take k.toNat))) := Lib.hid fun W hW => addHit_any (h := ⟨y.key, q⟩) ((HO.out.sees (by have := HAC.out.2; omega)).on hW) HAC.out.1 HAC.out.2 hk hk2
      have hnl : ((M.ins ⟨y.key, q⟩ acc).take k.toNat).length ≤ 1048576 := by rw [List.length_take, M.ins_len]; have := HAC.out.2; omega
      generalize (M.ins ⟨y.key, q⟩ acc).take k.toNat = nw at *
      have HCE : Hid (∀ V, wr.grownBy V none → V.cell? ⟨b, o + j * 3, none⟩ = some (.int .i64 y.key) ∧ V.cell? ⟨b, o + j * 3 + 1, none⟩ = some (.slice Au y.pos.length cu)) := Lib.hid fun V hV => ⟨hV.cell c0 (by simp), hV.cell c1 (by simp)⟩
      have kn : (j : Int) < n := by omega
      have k0 : (0 : Int) ≤ j := by omega
      clear c0 c1 c2
      go_wp2_with fail
      go_region_held3 (fun V => V.cell? ⟨b, o + j * 3, none⟩ = some (.int .i64 y.key) ∧ V.cell? ⟨b, o + j * 3 + 1, none⟩ = some (.slice Au y.pos.length cu))
        (first | exact HCE.out _ S6.out | exact HCE.out _ S5.out | exact HCE.out _ (gb_drew (gb_refl _ _)))
        (first
          | (go_at_call 76; refine (HAH.out _ S5.out).mono ?_; rintro e w6 ⟨A6, c6, rfl, hc6, ho, hg⟩; have O6 := Lib.hid ho; have S6 : Hid (wr.grownBy w6 none) := Lib.hid (gb_trans S5.out hg); have hs5 := S5.out.size; clear hc6 ho hg)
          | (go_at_call 77; refine (HDI.out wr.drew (gb_drew (gb_refl _ _))).mono ?_; rintro e w5 ⟨rfl, hg⟩; have S5 : Hid (wr.grownBy w5 none) := Lib.hid (gb_trans (gb_drew (gb_refl _ none)) hg); clear hg)
          | fail)
      go_wp2_with fail
      go_roundw
      case rel => exact ⟨j + 1, by omega, by go_num, by rw [HNX.out]; exact O6.out.wide (by omega), gb_trans HG.out S6.out⟩
      case measure => simp [intOf]; omega
    · obtain rfl : j = n := by omega
      have HA : Hid (M.addAll k.toNat [] ((M.nears L kind m).take j) = r) := Lib.hid (by rw [HQ.out, List.take_of_length_le (by rw [nearsS_length, ← HL.out]; exact Nat.le_refl _)])
      rw [HA.out] at HO ⊢
      go_wp2_with fail
      go_ret
      exact hitsMade_of HO.out (Nat.le_refl _) HG.out

/-- the place of the first hit with a key -/
def idxH (l : List M.Hit) (k : Int) : Int := match l.findIdx? (fun x => x.key == k) with | some i => (i : Int) | none => -1
theorem hitAt_none {w : World} {A : Option Addr} {c : Nat} {l : List M.Hit} {k : Int} (D : SeesX w A l) (h : ∀ x ∈ l, x.key ≠ k) :
    Calls Try.prog 75 #[.slice A l.length c, .int .i64 k] w fun e w' => e = .returned (.int .i64 (-1)) ∧ w.grownBy w' none := by
  have hl := D.2
  obtain ⟨n, hn⟩ : ∃ n, n = l.length := ⟨_, rfl⟩
  rw [← hn] at hl ⊢
  have HL := Lib.hid hn
  have HD := Lib.hid D
  have HH := Lib.hid h
  clear hn D h
  go_enter Try.func75, Try.ntmps75
  go_wp2_with fail
  go_loopw [5] (fun i wr => ∃ j : Nat, j ≤ n ∧ i = .int .i64 j ∧ w.grownBy wr none) (fun i _ => n - (intOf i).toNat)
  case atStart => exact ⟨0, Nat.zero_le _, rfl, gb_refl _ _⟩
  case round =>
    obtain ⟨j, hj, rfl, hg⟩ := hrel
    have HG := Lib.hid hg
    clear hg
    by_cases hlt : j < n
    · have hjl : j < l.length := by rw [← HL.out]; exact hlt
      obtain ⟨b, o, rfl, hb1, hb2, c0, c1⟩ := (HD.out.on HG.out).1.hit (List.getElem?_eq_getElem hjl)
      have t0 : (l[j].key == k) = false := beq_eq_false_iff_ne.2 (HH.out _ (List.getElem_mem hjl))
      generalize l[j] = y at *
      go_wp2_with fail
      go_roundw
      case rel => exact ⟨j + 1, by omega, by go_num, HG.out⟩
      case measure => simp [intOf]; omega
    · obtain rfl : j = n := by omega
      go_wp2_with fail
      go_ret
      exact ⟨rfl, HG.out⟩

/-- hits in order, of different keys -/
def OkHits (l : List M.Hit) : Prop := M.WS l ∧ M.KD l ∧ (∀ h ∈ l, M.okHit h) ∧ l.length ≤ 16
theorem OkHits.near {l : List M.Hit} (h : OkHits l) {i j : Nat} (hi : i < l.length) (hj : j < l.length) (hij : i < j) : M.hlt l[i] l[j] = true ∧ l[i].key ≠ l[j].key := by
  have h1 : M.hlt l[j] l[i] = false := List.pairwise_iff_getElem.1 h.1 i j hi hj hij
  have h2 : l[i].key ≠ l[j].key := by
    have := List.pairwise_iff_getElem.1 h.2.1 i j (by rw [List.length_map]; exact hi) (by rw [List.length_map]; exact hj) hij
    simpa using this
  refine ⟨?_, h2⟩
  rw [M.hlt_not] at h1
  rw [M.hlt_iff]
  omega
set_option maxHeartbeats 4000000 in
theorem validHits_any {w : World} {A : Option Addr} {c : Nat} {l : List M.Hit} (D : SeesX w A l) (hok : OkHits l) :
    Calls Try.prog 74 #[.slice A l.length c] w fun e w' => e = .returned (.bool true) ∧ w.grownBy w' none := by
  have hl := hok.2.2.2
  obtain ⟨n, hn⟩ : ∃ n, n = l.length := ⟨_, rfl⟩
  rw [← hn] at hl ⊢
  have HL := Lib.hid hn
  have HD := Lib.hid D
  have HOK := Lib.hid hok
  have hl' : (n : Int) ≤ 16 := by omega
  have HIR : Hid (∀ (a b c' : Int) (W : World), b ≤ a → a ≤ c' → Calls Try.prog 35 #[.int .i64 a, .int .i64 b, .int .i64 c'] W fun e w' => e = .returned (.bool true) ∧ W = w') := Lib.hid fun a b c' W h1 h2 => M.inR_of h1 h2 ▸ inRange_any a b c' W
  have HNE := Lib.hid (fun W x y => nearer_any W x y)
  clear hn D hok
  go_enter Try.func74, Try.ntmps74
  go_wp2_with fail
  go_loopw [3] (fun i wr => ∃ j : Nat, j ≤ n ∧ i = .int .i64 j ∧ w.grownBy wr none) (fun i _ => n - (intOf i).toNat)
  case atStart => exact ⟨0, Nat.zero_le _, rfl, gb_refl _ _⟩
  case round =>
    obtain ⟨j, hj, rfl, hg⟩ := hrel
    have HG := Lib.hid hg
    clear hg
    by_cases hlt : j < n
    · have hjl : j < l.length := by rw [← HL.out]; exact hlt
      obtain ⟨b, o, rfl, hb1, hb2, c0, c1⟩ := (HD.out.on HG.out).1.hit (List.getElem?_eq_getElem hjl)
      have hkr := HOK.out.2.2.1 _ (List.getElem_mem hjl)
      have HPK : Hid (∀ p (hp : p < l.length), p < j → l[p].key ≠ l[j].key) := Lib.hid fun p hp hpj => (HOK.out.near hp hjl hpj).2
      have HN1 : Hid (∀ p (hp : p < l.length), p + 1 = j → M.hlt l[p] l[j] = true) := Lib.hid fun p hp hpj => (HOK.out.near hp hjl (by omega)).1
      have r1 := hkr.1.1
      have r2 := hkr.1.2
      have r3 := hkr.2.1
      have r4 := hkr.2.2
      clear hkr
      have C0 : Hid (∀ W, w.grownBy W none → W.cell? ⟨b, o + j * 2, none⟩ = some (.int .i64 l[j].key)) := Lib.hid fun W hW => by
        obtain ⟨b', o', e', _, _, d0, _⟩ := (HD.out.on hW).1.hit (List.getElem?_eq_getElem hjl)
        injection e' with e'
        injection e' with e1 e2 e3
        subst e1 e2
        exact d0
      generalize l[j] = y at *
      by_cases hj0 : j = 0
      · have hj1 : ¬ ((j : Int) > 0) := by omega
        have hj2 : decide (0 < j) = false := by simp; omega
        have hj3 : ¬ 0 < j := by omega
        have l0 : ∀ x : Later wr, x.w.cell? ⟨b, o + j * 2, none⟩ = some (.int .i64 y.key) := fun x => x.cell c0
        have l1 : ∀ x : Later wr, x.w.cell? ⟨b, o + j * 2 + 1, none⟩ = some (.int .i64 y.dist) := fun x => x.cell c1
        have kn : (j : Int) < n := by omega
        have k0 : (0 : Int) ≤ j := by omega
        clear c0 c1 hj0
        go_wp2_with fail
        refine wp_region_later (by kernel_rfl) (by kernel_rfl) ?_
        repeat (go_big_quiet_step ((first | (go_at_call 35; exact later_same (HIR.out _ _ _ _ (by assumption) (by assumption))))))
        refine wpQuiet_nil ?_
        rintro _ ⟨x, rfl⟩
        have GX := Lib.hid (gb_trans HG.out x.h)
        clear hj1 hj2 hj3 l0 l1
        go_wp2_with fail
        go_loopw [4] (fun q wq => ∃ p : Nat, p ≤ j ∧ q = .int .i64 p ∧ w.grownBy wq none) (fun q _ => j - (intOf q).toNat)
        case atStart => exact ⟨0, Nat.zero_le _, rfl, GX.out⟩
        case round =>
          obtain ⟨p, hp, rfl, hg⟩ := hrel
          have HG2 := Lib.hid hg
          clear hg
          by_cases hpj : p < j
          · have hpl : p < l.length := by rw [← HL.out]; omega
            obtain ⟨b', o', e', _, _, d0, d1⟩ := (HD.out.on HG2.out).1.hit (List.getElem?_eq_getElem hpl)
            injection e' with e'
            injection e' with e1 e2 e3
            subst e1 e2
            have c0 : wr.cell? ⟨b, o + j * 2, none⟩ = some (.int .i64 y.key) := C0.out _ HG2.out
            have t0 : (l[p].key == y.key) = false := beq_eq_false_iff_ne.2 (HPK.out p hpl hpj)
            generalize l[p] = z at *
            have m0 : ∀ x : Later wr, x.w.cell? ⟨b, o + p * 2, none⟩ = some (.int .i64 z.key) := fun x => x.cell d0
            have m1 : ∀ x : Later wr, x.w.cell? ⟨b, o + j * 2, none⟩ = some (.int .i64 y.key) := fun x => x.cell c0
            have kp : (p : Int) < ((j : Nat) : Int) := by omega
            have kp2 : (p : Int) < n := by omega
            have kp0 : (0 : Int) ≤ p := by omega
            clear d0 d1 c0
            go_wp2_with fail
            refine wp_region_later (by kernel_rfl) (by kernel_rfl) ?_
            repeat (go_big_quiet_step ((fail)))
            refine wpQuiet_nil ?_
            rintro _ ⟨x, rfl⟩
            go_wp2_with fail
            go_roundw
            case rel => exact ⟨p + 1, by omega, by go_num, gb_trans HG2.out x.h⟩
            case measure => simp [intOf]; omega
          · have hpj1 : ¬ (p : Int) < ((j : Nat) : Int) := by omega
            go_wp2_with fail
            go_roundw
            case rel => exact ⟨j + 1, by omega, by go_num, HG2.out⟩
            case measure => simp [intOf]; omega
      · obtain ⟨j', rfl⟩ : ∃ j', j = j' + 1 := ⟨j - 1, by omega⟩
        have hpl : j' < l.length := by rw [← HL.out]; omega
        obtain ⟨b', o', e', _, _, d0, d1⟩ := (HD.out.on HG.out).1.hit (List.getElem?_eq_getElem hpl)
        injection e' with e'
        injection e' with e1 e2 e3
        subst e1 e2
        have HNB := Lib.hid (HN1.out j' hpl rfl)
        generalize l[j'] = z at *
        have HB : Hid (∀ W, Calls Try.prog 105 #[.agg #[.int .i64 z.key, .int .i64 z.dist], .agg #[.int .i64 y.key, .int .i64 y.dist]] W fun e w' => e = .returned (.bool true) ∧ W.grownBy w' none) := Lib.hid fun W => by
          have e := HNE.out W z y
          rwa [HNB.out] at e
        have l0 : ∀ x : Later wr, x.w.cell? ⟨b, o + (j' + 1) * 2, none⟩ = some (.int .i64 y.key) := fun x => x.cell c0
        have l1 : ∀ x : Later wr, x.w.cell? ⟨b, o + (j' + 1) * 2 + 1, none⟩ = some (.int .i64 y.dist) := fun x => x.cell c1
        have l2 : ∀ x : Later wr, x.w.cell? ⟨b, o + j' * 2, none⟩ = some (.int .i64 z.key) := fun x => x.cell d0
        have l3 : ∀ x : Later wr, x.w.cell? ⟨b, o + j' * 2 + 1, none⟩ = some (.int .i64 z.dist) := fun x => x.cell d1
        have kn : (j' : Int) + 1 < n := by omega
        have k0 : (0 : Int) ≤ j' := by omega
        clear c0 c1 d0 d1 hj0
        go_wp2_with fail
        refine wp_region_later (by kernel_rfl) (by kernel_rfl) ?_
        repeat (go_big_quiet_step ((first | (go_at_call 35; exact later_same (HIR.out _ _ _ _ (by assumption) (by assumption))) | (go_at_call 105; exact later_call (HB.out _)))))
        refine wpQuiet_nil ?_
        rintro _ ⟨x, rfl⟩
        have GX := Lib.hid (gb_trans HG.out x.h)
        clear l0 l1 l2 l3
        go_wp2_with fail
        go_loopw [4] (fun q wq => ∃ p : Nat, p ≤ (j' + 1) ∧ q = .int .i64 p ∧ w.grownBy wq none) (fun q _ => (j' + 1) - (intOf q).toNat)
        case atStart => exact ⟨0, Nat.zero_le _, rfl, GX.out⟩
        case round =>
          obtain ⟨p, hp, rfl, hg⟩ := hrel
          have HG2 := Lib.hid hg
          clear hg
          by_cases hpj : p < (j' + 1)
          · have hpl : p < l.length := by rw [← HL.out]; omega
            obtain ⟨b', o', e', _, _, d0, d1⟩ := (HD.out.on HG2.out).1.hit (List.getElem?_eq_getElem hpl)
            injection e' with e'
            injection e' with e1 e2 e3
            subst e1 e2
            have c0 : wr.cell? ⟨b, o + (j' + 1) * 2, none⟩ = some (.int .i64 y.key) := C0.out _ HG2.out
            have t0 : (l[p].key == y.key) = false := beq_eq_false_iff_ne.2 (HPK.out p hpl hpj)
            generalize l[p] = z at *
            have m0 : ∀ x : Later wr, x.w.cell? ⟨b, o + p * 2, none⟩ = some (.int .i64 z.key) := fun x => x.cell d0
            have m1 : ∀ x : Later wr, x.w.cell? ⟨b, o + (j' + 1) * 2, none⟩ = some (.int .i64 y.key) := fun x => x.cell c0
            have kp : (p : Int) < (((j' + 1) : Nat) : Int) := by omega
            have kp2 : (p : Int) < n := by omega
            have kp0 : (0 : Int) ≤ p := by omega
            clear d0 d1 c0
            go_wp2_with fail
            refine wp_region_later (by kernel_rfl) (by kernel_rfl) ?_
            repeat (go_big_quiet_step ((fail)))
            refine wpQuiet_nil ?_
            rintro _ ⟨x, rfl⟩
            go_wp2_with fail
            go_roundw
            case rel => exact ⟨p + 1, by omega, by go_num, gb_trans HG2.out x.h⟩
            case measure => simp [intOf]; omega
          · have hpj1 : ¬ (p : Int) < (((j' + 1) : Nat) : Int) := by omega
            go_wp2_with fail
            go_roundw
            case rel => exact ⟨(j' + 1) + 1, by omega, by go_num, HG2.out⟩
            case measure => simp [intOf]; omega
    · obtain rfl : j = n := by omega
      go_wp2_with fail
      go_ret
      exact ⟨rfl, HG.out⟩

set_option maxHeartbeats 4000000 in
theorem mergeHits_spec {w : World} {A B : Option Addr} {c d : Nat} {a b : List M.Hit} {k : Int} (D : SeesX w A a) (E : SeesX w B b) (ha : OkHits a) (hb : OkHits b) (hkd : M.KD (a ++ b)) (hk : 1 ≤ k) (hk2 : k ≤ 16) :
    Calls Try.prog 36 #[.slice A a.length c, .slice B b.length d, .int .i64 k] w (HitsMade w (M.mergeK k.toNat a b)) := by
  have HVA : Hid (∀ W, w.grownBy W none → Calls Try.prog 74 #[.slice A a.length c] W fun e w' => e = .returned (.bool true) ∧ W.grownBy w' none) := Lib.hid fun W hW => validHits_any (D.on hW) ha
  have HVB : Hid (∀ W, w.grownBy W none → Calls Try.prog 74 #[.slice B b.length d] W fun e w' => e = .returned (.bool true) ∧ W.grownBy w' none) := Lib.hid fun W hW => validHits_any (E.on hW) hb
  have HIR : Hid (∀ (a b c' : Int) (W : World), b ≤ a → a ≤ c' → Calls Try.prog 35 #[.int .i64 a, .int .i64 b, .int .i64 c'] W fun e w' => e = .returned (.bool true) ∧ W = w') := Lib.hid fun a b c' W h1 h2 => M.inR_of h1 h2 ▸ inRange_any a b c' W
  have HNB : Hid (∀ x ∈ a, ∀ W, w.grownBy W none → Calls Try.prog 75 #[.slice B b.length d, .int .i64 x.key] W fun e w' => e = .returned (.int .i64 (-1)) ∧ W.grownBy w' none) := Lib.hid fun x hx W hW => hitAt_none (E.on hW) fun y hy e => by
    unfold M.KD at hkd
    rw [List.map_append, List.nodup_append] at hkd
    exact hkd.2.2 x.key (List.mem_map.2 ⟨x, hx, rfl⟩) y.key (List.mem_map.2 ⟨y, hy, rfl⟩) e.symm
  have HNA : Hid (∀ x ∈ b, ∀ W, w.grownBy W none → Calls Try.prog 75 #[.slice A a.length c, .int .i64 x.key] W fun e w' => e = .returned (.int .i64 (-1)) ∧ W.grownBy w' none) := Lib.hid fun x hx W hW => hitAt_none (D.on hW) fun y hy e => by
    unfold M.KD at hkd
    rw [List.map_append, List.nodup_append] at hkd
    exact hkd.2.2 y.key (List.mem_map.2 ⟨y, hy, rfl⟩) x.key (List.mem_map.2 ⟨x, hx, rfl⟩) e
  have HACC : Hid (∀ xs, M.WS (M.addAll k.toNat [] xs) ∧ (M.addAll k.toNat [] xs).length ≤ 16) := Lib.hid fun xs => ⟨M.addAll_ws _ _ _ List.Pairwise.nil, by have := M.addAll_len k.toNat xs [] (Nat.zero_le _); omega⟩
  have HQ : Hid (M.mergeK k.toNat a b = M.addAll k.toNat [] (a ++ b)) := Lib.hid (M.addAll_nil _ _).symm
  generalize M.mergeK k.toNat a b = r at *
  have la := ha.2.2.2
  have lb := hb.2.2.2
  have D := Lib.hid D
  have E := Lib.hid E
  obtain ⟨na, hna⟩ : ∃ n, n = a.length := ⟨_, rfl⟩
  obtain ⟨nb, hnb⟩ : ∃ n, n = b.length := ⟨_, rfl⟩
  rw [← hna] at la HVA HNA ⊢
  rw [← hnb] at lb HVB HNB ⊢
  have LA := Lib.hid hna
  have LB := Lib.hid hnb
  clear hna hnb ha hb hkd
  go_enter Try.func36, Try.ntmps36
  go_wp2_with fail
  refine (HVA.out _ (by first | exact gb_alloc (gb_refl _ _) _ | exact gb_refl _ _)).mono ?_
  rintro e w1 ⟨rfl, hg⟩
  have G1 := Lib.hid (gb_trans (World.grownBy_alloc w (.cells #[] 45) none) hg)
  have O1 : Hid (OwnX w1 w.heap.size (.slice (some ⟨w.heap.size, 0, none⟩) 0 0) []) := Lib.hid ((World.ownsRow_made (e := 45) (size := 2) w #[] 0 (Nat.le_refl _) (by decide) rfl).kept hg (by simp [Value.ownBlock]))
  clear hg
  go_wp2_with fail
  refine (HVB.out _ G1.out).mono ?_
  rintro e w2 ⟨rfl, hg⟩
  have G2 := Lib.hid (gb_trans G1.out hg)
  have O2 := Lib.hid (O1.out.on hg)
  clear hg G1 O1
  go_wp2_with (go_at_call 35; refine (HIR.out _ _ _ _ (by assumption) (by assumption)).mono ?_; rintro e w' ⟨rfl, rfl⟩)
  go_loopw [7, 8] (fun v i wr => ∃ j : Nat, j ≤ na ∧ i = .int .i64 j ∧ OwnX wr w.heap.size v (M.addAll k.toNat [] (a.take j)) ∧ w.grownBy wr none) (fun _ i _ => na - (intOf i).toNat)
  case atStart => exact ⟨0, Nat.zero_le _, rfl, O2.out, G2.out⟩
  case round =>
    obtain ⟨j, hj, rfl, hown, hg⟩ := hrel
    have HG := Lib.hid hg
    have HO := Lib.hid hown
    have hsz := hg.size
    obtain ⟨Ao, co, rfl, hco⟩ := hown.form
    clear hown hg
    by_cases hlt : j < na
    · have hjl : j < a.length := by rw [← LA.out]; exact hlt
      obtain ⟨b9, o9, rfl, hb1, hb2, c0, c1⟩ := (D.out.on HG.out).1.hit (List.getElem?_eq_getElem hjl)
      have HNN := Lib.hid (HNB.out _ (List.getElem_mem hjl))
      have HNX : Hid (M.addAll k.toNat [] (a.take (j + 1)) = (M.ins a[j] (M.addAll k.toNat [] (a.take j))).take k.toNat) := Lib.hid (M.addAll_succ k.toNat [] a hjl)
      have HAC := Lib.hid (HACC.out (a.take j))
      generalize a[j] = y at *
      generalize hac : M.addAll k.toNat [] (a.take j) = ac at *
      clear hac
      have HAH : Hid (∀ W, wr.grownBy W none → Calls Try.prog 76 #[.slice Ao ac.length co, .agg #[.int .i64 y.key, .int .i64 y.dist], .int .i64 k] W (HitsMade W ((M.ins y ac).take k.toNat))) := Lib.hid fun W hW => addHit_any (h := y) ((HO.out.sees (by have := HAC.out.2; omega)).on hW) HAC.out.1 HAC.out.2 hk hk2
      generalize (M.ins y ac).take k.toNat = nw at *
      have kn : (j : Int) < na := by omega
      have k0 : (0 : Int) ≤ j := by omega
      go_wp2_with fail
      refine (HNN.out _ HG.out).mono ?_
      rintro e w5 ⟨rfl, hg⟩
      have G5 := Lib.hid hg
      have c0' := G5.out.cell c0 (by simp)
      have c1' := G5.out.cell c1 (by simp)
      have l0 : ∀ x : Later w5, x.w.cell? ⟨b9, o9 + j * 2, none⟩ = some (.int .i64 y.key) := fun x => x.cell c0'
      have l1 : ∀ x : Later w5, x.w.cell? ⟨b9, o9 + j * 2 + 1, none⟩ = some (.int .i64 y.dist) := fun x => x.cell c1'
      clear hg c0' c1' c0 c1
      go_wp2_with fail
      refine wp_region_later (by kernel_rfl) (by kernel_rfl) ?_
      repeat (go_big_quiet_step ((fail)))
      refine wpQuiet_nil ?_
      rintro _ ⟨x, rfl⟩
      have e0 := l0 x
      have e1 := l1 x
      have GX := Lib.hid (gb_trans G5.out x.h)
      have hsx := GX.out.size
      go_wp2_with fail
      refine (HAH.out _ GX.out).mono ?_
      rintro e w6 ⟨A6, c6, rfl, hc6, ho, hg⟩
      have O6 := Lib.hid (ho.wide (Nat.le_trans hsz hsx))
      have G6 := Lib.hid (gb_trans (gb_trans HG.out GX.out) hg)
      clear hc6 ho hg
      go_wp2_with fail
      go_roundw
      case rel => exact ⟨j + 1, by omega, by go_num, by rw [HNX.out]; exact O6.out, G6.out⟩
      case measure => simp [intOf]; omega
    · obtain rfl : j = na := by omega
      have HA : Hid (M.addAll k.toNat [] (a.take j) = M.addAll k.toNat [] a) := Lib.hid (by rw [List.take_of_length_le (by rw [← LA.out]; exact Nat.le_refl _)])
      rw [HA.out] at HO ⊢
      have HAB : Hid (∀ xs, M.WS (M.addAll k.toNat (M.addAll k.toNat [] a) xs) ∧ (M.addAll k.toNat (M.addAll k.toNat [] a) xs).length ≤ 16) := Lib.hid fun xs => by
        rw [← M.addAll_append]
        exact HACC.out _
      have HQ2 : Hid (r = M.addAll k.toNat (M.addAll k.toNat [] a) b) := Lib.hid (by rw [HQ.out, M.addAll_append])
      generalize M.addAll k.toNat [] a = acc at *
      have O3 := HO
      have G3 := HG
      clear HA HO HG hsz hlt hj hco
      go_wp2_with fail
      go_loopw [7, 10] (fun v i wr => ∃ j : Nat, j ≤ nb ∧ i = .int .i64 j ∧ OwnX wr w.heap.size v (M.addAll k.toNat acc (b.take j)) ∧ w.grownBy wr none) (fun _ i _ => nb - (intOf i).toNat)
      case atStart => exact ⟨0, Nat.zero_le _, rfl, O3.out, G3.out⟩
      case round =>
        obtain ⟨j, hj, rfl, hown, hg⟩ := hrel
        have HG := Lib.hid hg
        have HO := Lib.hid hown
        have hsz := hg.size
        obtain ⟨Ao, co, rfl, hco⟩ := hown.form
        clear hown hg
        by_cases hlt : j < nb
        · have hjl : j < b.length := by rw [← LB.out]; exact hlt
          obtain ⟨b9, o9, rfl, hb1, hb2, c0, c1⟩ := (E.out.on HG.out).1.hit (List.getElem?_eq_getElem hjl)
          have HNN := Lib.hid (HNA.out _ (List.getElem_mem hjl))
          have HNX : Hid (M.addAll k.toNat acc (b.take (j + 1)) = (M.ins b[j] (M.addAll k.toNat acc (b.take j))).take k.toNat) := Lib.hid (M.addAll_succ k.toNat acc b hjl)
          have HAC := Lib.hid (HAB.out (b.take j))
          generalize b[j] = y at *
          generalize hac : M.addAll k.toNat acc (b.take j) = ac at *
          clear hac
          have HAH : Hid (∀ W, wr.grownBy W none → Calls Try.prog 76 #[.slice Ao ac.length co, .agg #[.int .i64 y.key, .int .i64 y.dist], .int .i64 k] W (HitsMade W ((M.ins y ac).take k.toNat))) := Lib.hid fun W hW => addHit_any (h := y) ((HO.out.sees (by have := HAC.out.2; omega)).on hW) HAC.out.1 HAC.out.2 hk hk2
          generalize (M.ins y ac).take k.toNat = nw at *
          have kn : (j : Int) < nb := by omega
          have k0 : (0 : Int) ≤ j := by omega
          go_wp2_with fail
          refine (HNN.out _ HG.out).mono ?_
          rintro e w5 ⟨rfl, hg⟩
          have G5 := Lib.hid hg
          have c0' := G5.out.cell c0 (by simp)
          have c1' := G5.out.cell c1 (by simp)
          have l0 : ∀ x : Later w5, x.w.cell? ⟨b9, o9 + j * 2, none⟩ = some (.int .i64 y.key) := fun x => x.cell c0'
          have l1 : ∀ x : Later w5, x.w.cell? ⟨b9, o9 + j * 2 + 1, none⟩ = some (.int .i64 y.dist) := fun x => x.cell c1'
          clear hg c0' c1' c0 c1
          go_wp2_with fail
          refine wp_region_later (by kernel_rfl) (by kernel_rfl) ?_
          repeat (go_big_quiet_step ((fail)))
          refine wpQuiet_nil ?_
          rintro _ ⟨x, rfl⟩
          have e0 := l0 x
          have e1 := l1 x
          have GX := Lib.hid (gb_trans G5.out x.h)
          have hsx := GX.out.size
          go_wp2_with fail
          refine (HAH.out _ GX.out).mono ?_
          rintro e w6 ⟨A6, c6, rfl, hc6, ho, hg⟩
          have O6 := Lib.hid (ho.wide (Nat.le_trans hsz hsx))
          have G6 := Lib.hid (gb_trans (gb_trans HG.out GX.out) hg)
          clear hc6 ho hg
          go_wp2_with fail
          go_roundw
          case rel => exact ⟨j + 1, by omega, by go_num, by rw [HNX.out]; exact O6.out, G6.out⟩
          case measure => simp [intOf]; omega
        · obtain rfl : j = nb := by omega
          have HA : Hid (M.addAll k.toNat acc (b.take j) = r) := Lib.hid (by rw [HQ2.out, List.take_of_length_le (by rw [← LB.out]; exact Nat.le_refl _)])
          rw [HA.out] at HO ⊢
          go_wp2_with fail
          go_ret
          exact hitsMade_of HO.out (Nat.le_refl _) HG.out
end Go.Proofs.Ytamaoljjoghajaa
