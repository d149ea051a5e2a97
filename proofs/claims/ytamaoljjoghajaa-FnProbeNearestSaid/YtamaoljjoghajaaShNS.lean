/- The walks of the reference's nearest items of all shards. -/
import Derived.Test.YtamaoljjoghajaaNearS
import Derived.Deep.RegionWith
namespace Go.Proofs.Ytamaoljjoghajaa
open Go.RowKit
set_option linter.unusedVariables false
set_option linter.unusedSimpArgs false
set_option maxRecDepth 100000

theorem validKind_any (n : Int) (w : World) : Calls Try.prog 72 #[.int .i64 n] w fun e w' => e = .returned (.bool (M.inR n 1 4)) ∧ w = w' := by
  have H := Lib.hid (fun W => inRange_any n 1 4 W)
  generalize M.inR n 1 4 = r at *
  go_enter Try.func72, Try.ntmps72
  go_wp2_with (go_at_call 35; refine (H.out _).mono ?_; rintro e w' ⟨rfl, rfl⟩)
  go_ret
  exact ⟨rfl, rfl⟩
theorem validQuery_any {w : World} {A B : Option Addr} {c d : Nat} {L : List M.Item} {m : List Int} {kind : Int} (D : SeesI w A L) (E : SeesN .i64 w B m) :
    Calls Try.prog 34 #[.slice A L.length c, .int .i64 kind, .slice B m.length d] w fun e w' => e = .returned (.bool (M.validStore L && (M.inR kind 1 4 && M.isVec m))) ∧ w.grownBy w' none := by
  have HV := Lib.hid (vs_spec (c := c) D)
  have HK := Lib.hid (fun W => validKind_any kind W)
  have HI := Lib.hid (fun W (hW : w.grownBy W none) => isVector_spec W B d 0 W.heap.size m (by have := E.2; omega) (E.on hW).1)
  clear D E
  generalize L.length = nL at *
  generalize m.length = nm at *
  cases hv : M.validStore L
  · rw [hv] at HV
    clear hv
    go_enter Try.func34, Try.ntmps34
    go_wp2_with fail
    refine HV.out.mono ?_
    rintro e w1 ⟨rfl, hg⟩
    have G := Lib.hid hg
    clear hg
    go_wp2_with fail
    go_ret
    exact ⟨rfl, G.out⟩
  · rw [hv] at HV
    clear hv
    cases hk : M.inR kind 1 4
    · rw [hk] at HK
      clear hk
      go_enter Try.func34, Try.ntmps34
      go_wp2_with fail
      refine HV.out.mono ?_
      rintro e w1 ⟨rfl, hg⟩
      have G := Lib.hid hg
      clear hg
      go_wp2_with (go_at_call 72; refine (HK.out _).mono ?_; rintro e w' ⟨rfl, rfl⟩)
      go_ret
      exact ⟨rfl, G.out⟩
    · rw [hk] at HK
      clear hk
      go_enter Try.func34, Try.ntmps34
      go_wp2_with fail
      refine HV.out.mono ?_
      rintro e w1 ⟨rfl, hg⟩
      have G := Lib.hid hg
      have HI2 := Lib.hid (HI.out _ hg)
      clear hg
      go_wp2_with (first | (go_at_call 72; refine (HK.out _).mono ?_; rintro e w' ⟨rfl, rfl⟩) | (go_at_call 73; refine HI2.out.mono ?_; rintro e w' ⟨rfl, rfl⟩))
      go_ret
      exact ⟨rfl, G.out⟩
theorem canFind_and (L : List M.Item) (kind : Int) (m : List Int) (k : Int) : M.canFind L kind m k = ((M.validStore L && (M.inR kind 1 4 && M.isVec m)) && M.inR k 1 16) := by
  unfold M.canFind
  cases M.validStore L <;> cases M.inR kind 1 4 <;> cases M.isVec m <;> rfl
theorem vecsS_of {L : List M.Item} (hv : M.validStore L = true) : ∀ x ∈ L, M.isVec x.pos = true := fun x hx => (M.item_of hv hx).2.1
set_option maxHeartbeats 4000000 in
theorem ShardNearest_spec {w : World} {A B : Option Addr} {c d : Nat} {L : List M.Item} {m : List Int} {s kind k : Int} (D : SeesI w A L) (E : SeesN .i64 w B m) :
    Calls Try.prog 8 #[.slice A L.length c, .int .i64 s, .int .i64 kind, .slice B m.length d, .int .i64 k] w (HitsMade w (M.ShardNearest L s kind m k)) := by
  have HVQ := Lib.hid (validQuery_any (c := c) (d := d) (kind := kind) (D.on (World.grownBy_alloc w (.cells #[] 45) none)) (E.on (World.grownBy_alloc w (.cells #[] 45) none)))
  have HX : Hid (M.ShardNearest L s kind m k = if ((M.validStore L && (M.inR kind 1 4 && M.isVec m)) && M.inR k 1 16) = true ∧ M.inR s 1 8 = true then M.nearest L kind m k.toNat else []) := Lib.hid (by rw [← canFind_and]; rfl)
  have D := Lib.hid D
  have E := Lib.hid E
  cases hq : (M.validStore L && (M.inR kind 1 4 && M.isVec m))
  · rw [hq] at HVQ HX
    have HQ : Hid (M.ShardNearest L s kind m k = []) := Lib.hid (by rw [HX.out]; simp)
    rw [HQ.out]
    clear hq HX HQ
    go_enter Try.func8, Try.ntmps8
    go_wp2_with fail
    refine HVQ.out.mono ?_
    rintro e w1 ⟨rfl, hg⟩
    have G := Lib.hid (gb_trans (World.grownBy_alloc w _ none) hg)
    clear hg
    go_wp2_with fail
    go_ret
    exact hitsMade_nil rfl G.out
  · have hq1 : M.validStore L = true ∧ M.inR kind 1 4 = true ∧ M.isVec m = true := by simpa [Bool.and_eq_true] using hq
    rw [hq] at HVQ HX
    have HRS := Lib.hid (fun W => inRange_any s 1 8 W)
    have HRK := Lib.hid (fun W => inRange_any k 1 16 W)
    clear hq
    cases hs : M.inR s 1 8
    · have HQ : Hid (M.ShardNearest L s kind m k = []) := Lib.hid (by rw [HX.out, hs]; simp)
      rw [HQ.out]
      rw [hs] at HRS
      clear hs HX HQ hq1 HRK
      go_enter Try.func8, Try.ntmps8
      go_wp2_with fail
      refine HVQ.out.mono ?_
      rintro e w1 ⟨rfl, hg⟩
      have G := Lib.hid (gb_trans (World.grownBy_alloc w _ none) hg)
      clear hg
      go_wp2_with (go_at_call 35; refine (HRS.out _).mono ?_; rintro e w' ⟨rfl, rfl⟩)
      go_ret
      exact hitsMade_nil rfl G.out
    · have hsr := M.inR_true hs
      rw [hs] at HRS
      cases hk : M.inR k 1 16
      · have HQ : Hid (M.ShardNearest L s kind m k = []) := Lib.hid (by rw [HX.out, hk]; simp)
        rw [HQ.out]
        rw [hk] at HRK
        clear hs hk HX HQ hq1
        obtain ⟨S, hS⟩ : ∃ S : Nat, S = s.toNat := ⟨_, rfl⟩
        go_enter Try.func8, Try.ntmps8
        go_wp2_with fail
        refine HVQ.out.mono ?_
        rintro e w1 ⟨rfl, hg⟩
        have G := Lib.hid (gb_trans (World.grownBy_alloc w _ none) hg)
        clear hg
        go_wp2_with (first | (go_at_call_of 35 s; refine (HRS.out _).mono ?_; rintro e w' ⟨rfl, rfl⟩) | (go_at_call_of 35 k; refine (HRK.out _).mono ?_; rintro e w' ⟨rfl, rfl⟩))
        go_ret
        exact hitsMade_nil rfl G.out
      · have hkr := M.inR_true hk
        rw [hk] at HRK
        obtain ⟨S, hS⟩ : ∃ S : Nat, S = s.toNat := ⟨_, rfl⟩
        have hSs : s = (S : Int) := by omega
        have HQ : Hid (M.ShardNearest L s kind m k = M.upShard L S kind m k.toNat S) := Lib.hid (by
          rw [HX.out, hk, hs, M.upShard_all hq1.1 (by omega)]
          simp)
        rw [HQ.out]
        have HV := Lib.hid hq1.1
        have HM := Lib.hid hq1.2.2
        have hkd := M.inR_true hq1.2.1
        have HZ : Hid (M.upShard L S kind m k.toNat 0 = []) := Lib.hid (M.upShard_zero hq1.1 (by omega))
        have hS1 : 1 ≤ (S : Int) := by omega
        have hS2 : (S : Int) ≤ 8 := by omega
        clear hs hk HX HQ hq1 hS
        subst hSs
        have h4 := hkr.1
        have h5 := hkr.2
        have h6 := hkd.1
        have h7 := hkd.2
        clear hkr hkd hsr
        go_enter Try.func8, Try.ntmps8
        go_wp2_with fail
        refine HVQ.out.mono ?_
        rintro e w1 ⟨rfl, hg⟩
        have G := Lib.hid (gb_trans (World.grownBy_alloc w (.cells #[] 45) none) hg)
        have O1 : Hid (OwnX w1 w.heap.size (.slice (some ⟨w.heap.size, 0, none⟩) 0 0) []) := Lib.hid ((World.ownsRow_made (e := 45) (size := 2) w #[] 0 (Nat.le_refl _) (by decide) rfl).kept hg (by simp [Value.ownBlock]))
        clear hg HVQ
        go_wp2_with (first | (go_at_call_of 35 k; refine (HRK.out _).mono ?_; rintro e w' ⟨rfl, rfl⟩) | (go_at_call 35; refine (HRS.out _).mono ?_; rintro e w' ⟨rfl, rfl⟩))
        go_loopw [11, 12] (fun v i wr => ∃ n : Nat, n ≤ S ∧ i = .int .i64 n ∧ OwnX wr w.heap.size v (M.upShard L S kind m k.toNat n) ∧ w.grownBy wr none) (fun _ i _ => S - (intOf i).toNat)
        case atStart =>
          refine ⟨0, Nat.zero_le _, rfl, ?_, G.out⟩
          rw [HZ.out]
          exact O1.out
        case round =>
          obtain ⟨n, hn, rfl, hown, hg⟩ := hrel
          have HG := Lib.hid hg
          have HO := Lib.hid hown
          have hsz := hg.size
          obtain ⟨Ao, co, rfl, hco⟩ := hown.form
          clear hown hg
          by_cases hlt : n < S
          · have HL := M.validStore_of HV.out
            have H1 : Hid (Calls Try.prog 38 #[.slice A L.length c, .int .i64 S, .int .i64 n] wr fun e w' => ∃ v, e = .returned v ∧ OwnItems w' wr.heap.size v (M.shardItems L S n) ∧ wr.grownBy w' none) := Lib.hid (shardItems_spec wr A c 0 wr.heap.size L S n HL.1 HL.2.1 D.out.2.2 (D.out.on HG.out).1 (Nat.le_refl _) hS1 hS2)
            have H2 : Hid (∀ W A' c', wr.grownBy W none → RdI W 0 W.heap.size A' (M.shardItems L S n) → Calls Try.prog 37 #[.slice A' (M.shardItems L S n).length c', .int .i64 kind, .slice B m.length d, .int .i64 k] W (HitsMade W (M.nearest (M.shardItems L S n) kind m k.toNat))) := Lib.hid fun W A' c' hW hr => nearest_spec (Nat.le_trans (shardItems_le L S n) HL.1) (fun x hx => vecsS_of HV.out x (shardItems_mem hx)) hr (Nat.le_refl _) (E.out.on (gb_trans HG.out hW)) HM.out h6 h7 h4 h5
            have hvs : M.validStore (M.shardItems L S n) = true := M.valid_filter HV.out _
            have H3 : Hid (∀ W A' c', wr.grownBy W none → SeesX W A' (M.nearest (M.shardItems L S n) kind m k.toNat) → Calls Try.prog 36 #[.slice Ao (M.upShard L S kind m k.toNat n).length co, .slice A' (M.nearest (M.shardItems L S n) kind m k.toNat).length c', .int .i64 k] W (HitsMade W (M.upShard L S kind m k.toNat (n + 1)))) := Lib.hid fun W A' c' hW hr => by
              have l1 := M.upShard_len HV.out S kind m k.toNat n
              have e := mergeHits_spec (c := co) (d := c') ((HO.out.sees (by omega)).on hW) hr ⟨M.upShard_ws _ _ _ _ _ _, M.nearest_kd (M.valid_filter HV.out _) _ _ _, M.upShard_ok HV.out HM.out _ _ _ _, l1⟩ ⟨M.nearest_ws _ _ _ _, M.nearest_kd hvs _ _ _, M.nearest_ok hvs HM.out _, Nat.le_trans (M.nearest_len _ _ _ _) (Nat.le_trans (shardItems_le L S n) HL.1)⟩ (M.upShard_kd HV.out S kind m k.toNat n) h4 h5
              rwa [M.upShard_succ] at e
            have hnl : (M.nearest (M.shardItems L S n) kind m k.toNat).length ≤ 1048576 := Nat.le_trans (M.nearest_len _ _ _ _) (Nat.le_trans (shardItems_le L S n) (by omega))
            have hlt' : (n : Int) < S := by omega
            clear HL hvs
            generalize M.upShard L S kind m k.toNat n = o1 at *
            generalize he2 : M.upShard L S kind m k.toNat (n + 1) = o2 at *
            have HE2 := Lib.hid he2
            clear he2
            generalize M.shardItems L S n = sh at *
            generalize M.nearest sh kind m k.toNat = ne at *
            go_wp2_with fail
            refine H1.out.mono ?_
            rintro e w2 ⟨v, rfl, hr, hg⟩
            obtain ⟨A2, c2, rfl, hc2, hr⟩ := hr.rd
            have G2 := Lib.hid hg
            have R2 := Lib.hid (hr.wide (Nat.zero_le _) (Nat.le_refl _))
            clear hg hr hc2
            go_wp2_with fail
            refine (H2.out w2 A2 c2 G2.out R2.out).mono ?_
            rintro e w3 ⟨A3, c3, rfl, hc3, ho, hg⟩
            have G3 := Lib.hid (gb_trans G2.out hg)
            have S3 := Lib.hid (ho.sees hnl)
            clear hg ho hc3
            go_wp2_with fail
            refine (H3.out w3 A3 c3 G3.out S3.out).mono ?_
            rintro e w4 ⟨A4, c4, rfl, hc4, ho, hg⟩
            have G4 := Lib.hid (gb_trans G3.out hg)
            have O4 := Lib.hid (ho.wide (Nat.le_trans hsz G3.out.size))
            clear hg ho hc4
            go_wp2_with fail
            go_roundw
            case rel => exact ⟨n + 1, by omega, by go_num, by rw [HE2.out]; exact O4.out, gb_trans HG.out G4.out⟩
            case measure => simp [intOf]; omega
          · obtain rfl : n = S := by omega
            go_wp2_with fail
            go_ret
            exact hitsMade_of HO.out (Nat.le_refl _) HG.out
end Go.Proofs.Ytamaoljjoghajaa
