/- The walks of the reference's nearest items. -/
import Derived.Test.YtibbpbbgmgdpdaaGreatDoorAddS
import Derived.Test.YtibbpbbgmgdpdaaGreatDoorDrawM
namespace Go.Proofs.YtibbpbbgmgdpdaaGreatDoor
open Go.RowKit
set_option linter.unusedVariables false
set_option linter.unusedSimpArgs false
set_option maxRecDepth 100000

theorem nearsS_length (L : List M.Item) (kind : Int) (m : List Int) : (M.nears L kind m).length = L.length := by unfold M.nears; rw [List.length_map]
theorem nearsS_at {L : List M.Item} {k : Nat} (hk : k < L.length) (kind : Int) (m : List Int) : (M.nears L kind m)[k]'(by rw [nearsS_length]; exact hk) = ⟨L[k].key, M.dist kind L[k].pos m⟩ := by simp [M.nears, M.hitOf]
set_option maxHeartbeats 2000000 in
theorem nearest_spec {w : World} {A B : Option Addr} {c d lo hi : Nat} {L : List M.Item} {m : List Int} {kind k : Int} (hL : L.length ≤ 16) (hv : ∀ x ∈ L, M.isVec x.pos = true) (hr : RdI w lo hi A L) (hhi : hi ≤ w.heap.size) (E : SeesN .i64 w B m) (hm : M.isVec m = true) (hd1 : 1 ≤ kind) (hd2 : kind ≤ 4) (hk : 1 ≤ k) (hk2 : k ≤ 16) :
    Calls Tryz.prog 67 #[.slice A L.length c, .int .i64 kind, .slice B m.length d, .int .i64 k] w (HitsMade w (M.nearest L kind m k.toNat)) := by
  obtain ⟨n, hn⟩ : ∃ n, n = L.length := ⟨_, rfl⟩
  rw [← hn] at hL ⊢
  have HL := Lib.hid hn
  have HR := Lib.hid hr
  have HV := Lib.hid hv
  have E := Lib.hid E
  have HM := Lib.hid hm
  have HQ : Hid (M.nearest L kind m k.toNat = M.addAll k.toNat [] (M.nears L kind m)) := Lib.hid (M.addAll_nil _ _).symm
  have HACC : Hid (∀ j, M.WS (M.addAll k.toNat [] ((M.nears L kind m).take j)) ∧ (M.addAll k.toNat [] ((M.nears L kind m).take j)).length ≤ 16) := Lib.hid fun j => ⟨M.addAll_ws _ _ _ List.Pairwise.nil, by have := M.addAll_len k.toNat ((M.nears L kind m).take j) [] (Nat.zero_le _); omega⟩
  generalize M.nearest L kind m k.toNat = r at *
  clear hn hr hv hm
  go_enter Tryz.func67, Tryz.ntmps67
  go_wp2_with fail
  go_loopw [9, 10] (fun v i wr => ∃ j : Nat, j ≤ n ∧ i = .int .i64 j ∧ OwnX wr w.heap.size v (M.addAll k.toNat [] ((M.nears L kind m).take j)) ∧ w.grownBy wr none) (fun _ i _ => n - (intOf i).toNat)
  case atStart => exact ⟨0, Nat.zero_le _, rfl, World.ownsRow_made (e := 65) (size := 2) w #[] 0 (Nat.le_refl _) (by decide) rfl, gb_alloc (gb_refl _ _) _⟩
  case round =>
    obtain ⟨j, hj, rfl, hown, hg⟩ := hrel
    have HG := Lib.hid hg
    have HO := Lib.hid hown
    have hsz := hg.size
    obtain ⟨Ao, co, rfl, hco⟩ := hown.form
    clear hown hg
    by_cases hlt : j < n
    · have hjl : j < L.length := by rw [← HL.out]; exact hlt
      obtain ⟨b, o, rfl, hb1, hb2, hJ⟩ := HR.out.at_ (List.getElem?_eq_getElem hjl)
      obtain ⟨u, c0, c1, c2, hu⟩ := hJ.agree hb1 hb2 (fun b _ h => (Agree.of_grown HG.out) b (Nat.zero_le _) (by omega))
      obtain ⟨Au, cu, rfl, hcu, hru⟩ := hu
      have hvx := HV.out _ (List.getElem_mem hjl)
      have HDI : Hid (∀ W, wr.grownBy W none → Calls Tryz.prog 69 #[.int .i64 kind, .slice Au L[j].pos.length cu, .slice B m.length d] W fun e w' => e = .returned (.int .i64 (M.dist kind L[j].pos m)) ∧ W.grownBy w' none) := Lib.hid fun W hW =>
        (specDist_any (by rw [(M.isVec_of hvx).2]; omega) (by rw [(M.isVec_of hvx).2, (M.isVec_of HM.out).2]) (M.isVec_of hvx).1 (M.isVec_of HM.out).1 hd1 hd2 ((hru.keep hW (by omega)).wide (Nat.zero_le _) (by have := hW.size; omega)) (E.out.on (gb_trans HG.out hW)).1).mono fun _ _ ⟨he, hq⟩ => ⟨he, gb_of_drewN hq⟩
      have HNX : Hid (M.addAll k.toNat [] ((M.nears L kind m).take (j + 1)) = (M.ins ⟨L[j].key, M.dist kind L[j].pos m⟩ (M.addAll k.toNat [] ((M.nears L kind m).take j))).take k.toNat) := Lib.hid (by
        rw [M.addAll_succ k.toNat [] (M.nears L kind m) (by rw [nearsS_length]; exact hjl), nearsS_at hjl])
      have HAC := Lib.hid (HACC.out j)
      clear hJ hcu hru hvx
      generalize M.dist kind L[j].pos m = q at *
      generalize L[j] = y at *
      generalize hac : M.addAll k.toNat [] ((M.nears L kind m).take j) = acc at *
      clear hac
      have HAH : Hid (∀ W, wr.grownBy W none → Calls Tryz.prog 86 #[.slice Ao acc.length co, .agg #[.int .i64 y.key, .int .i64 q], .int .i64 k] W (HitsMade W ((M.ins ⟨y.key, q⟩ acc).take k.toNat))) := Lib.hid fun W hW => addHit_any (h := ⟨y.key, q⟩) ((HO.out.sees (by have := HAC.out.2; omega)).on hW) HAC.out.1 HAC.out.2 hk hk2
      have hnl : ((M.ins ⟨y.key, q⟩ acc).take k.toNat).length ≤ 1048576 := by rw [List.length_take, M.ins_len]; have := HAC.out.2; omega
      generalize (M.ins ⟨y.key, q⟩ acc).take k.toNat = nw at *
      have HCE : Hid (∀ V, wr.grownBy V none → V.cell? ⟨b, o + j * 3, none⟩ = some (.int .i64 y.key) ∧ V.cell? ⟨b, o + j * 3 + 1, none⟩ = some (.slice Au y.pos.length cu)) := Lib.hid fun V hV => ⟨hV.cell c0 (by simp), hV.cell c1 (by simp)⟩
      have kn : (j : Int) < n := by omega
      have k0 : (0 : Int) ≤ j := by omega
      clear c0 c1 c2
      go_wp2_with fail
      go_region_held3 (fun V => V.cell? ⟨b, o + j * 3, none⟩ = some (.int .i64 y.key) ∧ V.cell? ⟨b, o + j * 3 + 1, none⟩ = some (.slice Au y.pos.length cu))
        (first | exact HCE.out _ S6.out | exact HCE.out _ S5.out | exact HCE.out _ (gb_drew (gb_refl _ _)))
        (first
          | (go_at_call 86; refine (HAH.out _ S5.out).mono ?_; rintro e w6 ⟨A6, c6, rfl, hc6, ho, hg⟩; have O6 := Lib.hid ho; have S6 : Hid (wr.grownBy w6 none) := Lib.hid (gb_trans S5.out hg); have hs5 := S5.out.size; clear hc6 ho hg)
          | (go_at_call 69; refine (HDI.out wr.drew (gb_drew (gb_refl _ _))).mono ?_; rintro e w5 ⟨rfl, hg⟩; have S5 : Hid (wr.grownBy w5 none) := Lib.hid (gb_trans (gb_drew (gb_refl _ none)) hg); clear hg)
          | fail)
      go_wp2_with fail
      go_roundw
      case rel => exact ⟨j + 1, by omega, by go_num, by rw [HNX.out]; exact O6.out.wide (by omega), gb_trans HG.out S6.out⟩
      case measure => simp [intOf]; omega
    · obtain rfl : j = n := by omega
      have HA : Hid (M.addAll k.toNat [] ((M.nears L kind m).take j) = r) := Lib.hid (by rw [HQ.out, List.take_of_length_le (by rw [nearsS_length, ← HL.out]; exact Nat.le_refl _)])
      rw [HA.out] at HO ⊢
      go_wp2_with fail
      go_ret
      exact hitsMade_of HO.out (Nat.le_refl _) HG.out

/-- the place of the first hit with a key -/
def idxH (l : List M.Hit) (k : Int) : Int := match l.findIdx? (fun x => x.key == k) with | some i => (i : Int) | none => -1
/-- hits in order, of different keys -/
def OkHits (l : List M.Hit) : Prop := M.WS l ∧ M.KD l ∧ (∀ h ∈ l, M.okHit h) ∧ l.length ≤ 16
theorem OkHits.near {l : List M.Hit} (h : OkHits l) {i j : Nat} (hi : i < l.length) (hj : j < l.length) (hij : i < j) : M.hlt l[i] l[j] = true ∧ l[i].key ≠ l[j].key := by
  have h1 : M.hlt l[j] l[i] = false := List.pairwise_iff_getElem.1 h.1 i j hi hj hij
  have h2 : l[i].key ≠ l[j].key := by
    have := List.pairwise_iff_getElem.1 h.2.1 i j (by rw [List.length_map]; exact hi) (by rw [List.length_map]; exact hj) hij
    simpa using this
  refine ⟨?_, h2⟩
  rw [M.hlt_not] at h1
  rw [M.hlt_iff]
  omega
end Go.Proofs.YtibbpbbgmgdpdaaGreatDoor
