/- The walks of the program's nearest items, of a store and of its shards. -/
import Derived.Test.YtamaoljjoghajaaMergI
namespace Go.Proofs.Ytamaoljjoghajaa
open Go.RowKit
set_option linter.unusedVariables false
set_option linter.unusedSimpArgs false
set_option maxRecDepth 100000
theorem vecs_of {L : List M.Item} (hv : M.validStore L = true) : ∀ x ∈ L, M.isVec x.pos = true := fun x hx => (M.item_of hv hx).2.1
theorem Nearest_impl {w : World} {A B : Option Addr} {c d : Nat} {L : List M.Item} {m : List Int} {kind k : Int} (D : SeesI w A L) (E : SeesN .i64 w B m) :
    Calls Try.prog 21 #[.slice A L.length c, .int .i64 kind, .slice B m.length d, .int .i64 k] w (HitsMade w (M.Nearest L kind m k)) := by
  have HC := Lib.hid (canFind_any (c := c) (d := d) (kind := kind) (k := k) D E)
  have D := Lib.hid D
  have E := Lib.hid E
  cases hf : M.canFind L kind m k
  · rw [hf] at HC
    have HQ : Hid (M.Nearest L kind m k = []) := Lib.hid (by unfold M.Nearest; rw [hf]; simp)
    rw [HQ.out]
    clear hf
    go_enter Try.func21, Try.ntmps21
    go_wp2_with fail
    refine HC.out.mono ?_
    rintro e w1 ⟨rfl, hg⟩
    have G := Lib.hid hg
    clear hg
    go_wp2_with fail
    go_ret
    exact hitsMade_nil rfl G.out
  · rw [hf] at HC
    have HQ : Hid (M.Nearest L kind m k = M.nearest L kind m k.toNat) := Lib.hid (by unfold M.Nearest; rw [hf]; simp)
    rw [HQ.out]
    obtain ⟨h1, h2, h3, h4, h5⟩ := M.canFind_of hf
    have HN : Hid (∀ W, w.grownBy W none → Calls Try.prog 43 #[.slice A L.length c, .int .i64 kind, .slice B m.length d, .int .i64 k] W (HitsMade W (M.nearest L kind m k.toNat))) := Lib.hid fun W hW => nearest_impl (M.validStore_of h1).1 (vecs_of h1) (D.out.on hW).1 (Nat.le_refl _) (E.out.on hW) h3 h4 h5
    clear hf h1 h2 h3
    generalize M.nearest L kind m k.toNat = r at *
    go_enter Try.func21, Try.ntmps21
    go_wp2_with fail
    refine HC.out.mono ?_
    rintro e w1 ⟨rfl, hg⟩
    have G := Lib.hid hg
    clear hg
    go_wp2_with fail
    refine (HN.out _ G.out).mono ?_
    rintro e w2 ⟨A2, c2, rfl, hc2, ho, hg⟩
    have H2 := Lib.hid (HitsMade.on ⟨A2, c2, rfl, hc2, ho, hg⟩ G.out)
    clear hc2 ho hg
    go_wp2_with fail
    go_ret
    exact H2.out
set_option maxHeartbeats 2000000 in
theorem ShardNearest_impl {w : World} {A B : Option Addr} {c d : Nat} {L : List M.Item} {m : List Int} {s kind k : Int} (D : SeesI w A L) (E : SeesN .i64 w B m) :
    Calls Try.prog 11 #[.slice A L.length c, .int .i64 s, .int .i64 kind, .slice B m.length d, .int .i64 k] w (HitsMade w (M.ShardNearest L s kind m k)) := by
  have HC := Lib.hid (canFind_any (c := c) (d := d) (kind := kind) (k := k) D E)
  have D := Lib.hid D
  have E := Lib.hid E
  cases hf : M.canFind L kind m k
  · rw [hf] at HC
    have HQ : Hid (M.ShardNearest L s kind m k = []) := Lib.hid (by unfold M.ShardNearest; rw [hf]; simp)
    rw [HQ.out]
    clear hf
    go_enter Try.func11, Try.ntmps11
    go_wp2_with fail
    refine HC.out.mono ?_
    rintro e w1 ⟨rfl, hg⟩
    have G := Lib.hid hg
    clear hg
    go_wp2_with fail
    go_ret
    exact hitsMade_nil rfl G.out
  · rw [hf] at HC
    have HS := Lib.hid (fun W => areShards_any s W)
    cases hs : M.inR s 1 8
    · have HQ : Hid (M.ShardNearest L s kind m k = []) := Lib.hid (by unfold M.ShardNearest; rw [hf, hs]; simp)
      rw [HQ.out]
      rw [hs] at HS
      clear hf hs
      go_enter Try.func11, Try.ntmps11
      go_wp2_with fail
      refine HC.out.mono ?_
      rintro e w1 ⟨rfl, hg⟩
      have G := Lib.hid hg
      clear hg
      go_wp2_with (go_at_call 41; refine (HS.out _).mono ?_; rintro e w' ⟨rfl, rfl⟩)
      go_ret
      exact hitsMade_nil rfl G.out
    · have hsr := M.inR_true hs
      obtain ⟨S, hS⟩ : ∃ S : Nat, S = s.toNat := ⟨_, rfl⟩
      have hSs : s = (S : Int) := by omega
      subst hSs
      obtain ⟨h1, h2, h3, h4, h5⟩ := M.canFind_of hf
      have HQ : Hid (M.ShardNearest L S kind m k = M.upShard L S kind m k.toNat S) := Lib.hid (by
        rw [M.upShard_all h1 hsr.1]
        unfold M.ShardNearest
        rw [hf, hs]
        simp)
      rw [HQ.out]
      rw [hs] at HS
      have HV := Lib.hid h1
      have HM := Lib.hid h3
      have HZ : Hid (M.upShard L S kind m k.toNat 0 = []) := Lib.hid (M.upShard_zero h1 hsr.1)
      clear hf hs h1 h2 h3 hS
      go_enter Try.func11, Try.ntmps11
      go_wp2_with fail
      refine HC.out.mono ?_
      rintro e w1 ⟨rfl, hg⟩
      have G := Lib.hid hg
      clear hg HC
      go_wp2_with (go_at_call 41; refine (HS.out _).mono ?_; rintro e w' ⟨rfl, rfl⟩)
      go_loopw [11, 26] (fun v i wr => ∃ n : Nat, n ≤ S ∧ i = .int .i64 n ∧ OwnX wr w.heap.size v (M.upShard L S kind m k.toNat n) ∧ w.grownBy wr none) (fun _ i _ => S - (intOf i).toNat)
      case atStart =>
        refine ⟨0, Nat.zero_le _, rfl, ?_, gb_alloc G.out _⟩
        rw [HZ.out]
        exact World.ownsRow_made (e := 45) (size := 2) w1 #[] 0 G.out.size (by decide) rfl
      case round =>
        obtain ⟨n, hn, rfl, hown, hg⟩ := hrel
        have HG := Lib.hid hg
        have HO := Lib.hid hown
        have hsz := hg.size
        obtain ⟨Ao, co, rfl, hco⟩ := hown.form
        clear hown hg
        by_cases hlt : n < S
        · have HL := M.validStore_of HV.out
          have H1 : Hid (Calls Try.prog 44 #[.slice A L.length c, .int .i64 S, .int .i64 n] wr fun e w' => ∃ v, e = .returned v ∧ RdItems w' 0 w'.heap.size v (M.shardItems L S n) ∧ wr.grownBy w' none) := Lib.hid (shardItems_impl wr A c 0 wr.heap.size L S n HL.1 HL.2.1 (D.out.on HG.out).1 (Nat.le_refl _) hsr.1 hsr.2)
          have H2 : Hid (∀ W A' c', wr.grownBy W none → RdI W 0 W.heap.size A' (M.shardItems L S n) → Calls Try.prog 43 #[.slice A' (M.shardItems L S n).length c', .int .i64 kind, .slice B m.length d, .int .i64 k] W (HitsMade W (M.nearest (M.shardItems L S n) kind m k.toNat))) := Lib.hid fun W A' c' hW hr => nearest_impl (Nat.le_trans (shardItems_le L S n) HL.1) (fun x hx => vecs_of HV.out x (shardItems_mem hx)) hr (Nat.le_refl _) (E.out.on (gb_trans HG.out hW)) HM.out h4 h5
          have H3 : Hid (∀ W A' c', wr.grownBy W none → SeesX W A' (M.nearest (M.shardItems L S n) kind m k.toNat) → Calls Try.prog 42 #[.slice Ao (M.upShard L S kind m k.toNat n).length co, .slice A' (M.nearest (M.shardItems L S n) kind m k.toNat).length c', .int .i64 k] W (HitsMade W (M.upShard L S kind m k.toNat (n + 1)))) := Lib.hid fun W A' c' hW hr => by
            have e := mergeHits_any (c := co) (d := c') ((HO.out.sees (Nat.le_trans (M.upShard_len HV.out _ _ _ _ _) (by omega))).on hW) hr (M.upShard_kd HV.out S kind m k.toNat n) (M.upShard_len HV.out _ _ _ _ _) (Nat.le_trans (M.nearest_len _ _ _ _) (Nat.le_trans (shardItems_le L S n) HL.1)) h4 h5
            rwa [M.upShard_succ] at e
          have hnl : (M.nearest (M.shardItems L S n) kind m k.toNat).length ≤ 1048576 := Nat.le_trans (M.nearest_len _ _ _ _) (Nat.le_trans (shardItems_le L S n) (by omega))
          have hlt' : (n : Int) < S := by omega
          clear HL
          generalize M.upShard L S kind m k.toNat n = o1 at *
          generalize he2 : M.upShard L S kind m k.toNat (n + 1) = o2 at *
          have HE2 := Lib.hid he2
          clear he2
          generalize M.shardItems L S n = sh at *
          generalize M.nearest sh kind m k.toNat = ne at *
          go_wp2_with fail
          refine H1.out.mono ?_
          rintro e w2 ⟨v, rfl, hr, hg⟩
          obtain ⟨A2, c2, rfl, hc2, hr⟩ := hr
          have G2 := Lib.hid hg
          have R2 := Lib.hid hr
          clear hg hr hc2
          go_wp2_with fail
          refine (H2.out w2 A2 c2 G2.out R2.out).mono ?_
          rintro e w3 ⟨A3, c3, rfl, hc3, ho, hg⟩
          have G3 := Lib.hid (gb_trans G2.out hg)
          have S3 := Lib.hid (ho.sees hnl)
          clear hg ho hc3
          go_wp2_with fail
          refine (H3.out w3 A3 c3 G3.out S3.out).mono ?_
          rintro e w4 ⟨A4, c4, rfl, hc4, ho, hg⟩
          have G4 := Lib.hid (gb_trans G3.out hg)
          have O4 := Lib.hid (ho.wide (Nat.le_trans hsz G3.out.size))
          clear hg ho hc4
          go_wp2_with fail
          go_roundw
          case rel => exact ⟨n + 1, by omega, by go_num, by rw [HE2.out]; exact O4.out, gb_trans HG.out G4.out⟩
          case measure => simp [intOf]; omega
        · obtain rfl : n = S := by omega
          go_wp2_with fail
          go_ret
          exact hitsMade_of HO.out (Nat.le_refl _) HG.out
end Go.Proofs.Ytamaoljjoghajaa
