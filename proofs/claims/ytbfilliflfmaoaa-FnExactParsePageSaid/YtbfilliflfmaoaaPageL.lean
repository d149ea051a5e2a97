/- The contracts of pages in the laws' words; comparisons and draws of bytes. -/
import Derived.Test.YtbfilliflfmaoaaParseS
import Derived.Test.YtbfilliflfmaoaaByteW
import Derived.Test.YtbfilliflfmaoaaEqL
import Derived.Test.YtbfilliflfmaoaaDrawM
namespace Go.Proofs.Ytbfilliflfmaoaa
open Go.RowKit
set_option linter.unusedVariables false

theorem fp_impl {w : World} {A : Option Addr} {c : Nat} {L : List M.Item} (D : SeesI w A L) : Calls Try.prog 13 #[.slice A L.length c] w (GotN .u8 w (M.FormatPage L)) :=
  (FormatPage_impl D.2.1 D.2.2 D.1).mono fun _ _ h => gotN_own (by have := M.FormatPage_le L; omega) h
theorem fp_spec {w : World} {A : Option Addr} {c : Nat} {L : List M.Item} (D : SeesI w A L) : Calls Try.prog 11 #[.slice A L.length c] w (GotN .u8 w (M.FormatPage L)) :=
  (FormatPage_spec D.2.1 D.2.2 D.1).mono fun _ _ h => gotN_own (by have := M.FormatPage_le L; omega) h
/-- a store and a yes, or nothing -/
def GotP (w : World) (r : Option (List M.Item)) (e : Ending) (w' : World) : Prop :=
  ∃ A c, e = .returned (.tuple #[.slice A (r.getD []).length c, .bool r.isSome]) ∧ (r.getD []).length ≤ c ∧ SeesI w' A (r.getD []) ∧ w.grownBy w' none
theorem gotP_ans {w w' : World} {e : Ending} {r : Option (List M.Item)} (hs : ∀ L, r = some L → Small L) (h : ∃ vs, e = .returned (.tuple vs.toArray) ∧ PutAns w' w.heap.size vs r ∧ w.grownBy w' none) : GotP w r e w' := by
  obtain ⟨vs, rfl, ha, hg⟩ := h
  cases r with
  | none =>
    have h : vs = [.slice none 0 0, .bool false] := ha
    subst h
    exact ⟨none, 0, rfl, Nat.zero_le _, ⟨RdI.nil_ _ _ _ _, Small.nil_⟩, hg⟩
  | some L =>
    obtain ⟨v, h, ho⟩ := ha
    subst h
    obtain ⟨A, c, rfl, hc, hr⟩ := ho.rd
    exact ⟨A, c, rfl, hc, ⟨hr.wide (Nat.zero_le _) (Nat.le_refl _), hs L rfl⟩, hg⟩
theorem small_parse {l : List Int} (hb : M.bytes l) : ∀ L, M.ParsePage l = some L → Small L := fun L h => Small.of_valid (M.ParsePage_some hb h).1
theorem pp_impl {w : World} {A : Option Addr} {c : Nat} {l : List Int} (D : SeesN .u8 w A l) (hb : M.bytes l) (hc : l.length ≤ c) : Calls Try.prog 21 #[.slice A l.length c] w (GotP w (M.ParsePage l)) :=
  (ParsePage_impl w A c l hc D.2 hb D.1).mono fun _ _ h => gotP_ans (small_parse hb) h
theorem pp_spec {w : World} {A : Option Addr} {c : Nat} {l : List Int} (D : SeesN .u8 w A l) (hb : M.bytes l) (hc : l.length ≤ c) : Calls Try.prog 19 #[.slice A l.length c] w (GotP w (M.ParsePage l)) :=
  (ParsePage_spec w A c l hc D.2 hb D.1).mono fun _ _ h => gotP_ans (small_parse hb) h
theorem pp_some {w : World} {A : Option Addr} {c : Nat} {l : List Int} {L : List M.Item} (D : SeesN .u8 w A l) (hb : M.bytes l) (hc : l.length ≤ c) (h : M.ParsePage l = some L) :
    Calls Try.prog 21 #[.slice A l.length c] w fun e w' => ∃ A c, e = .returned (.tuple #[.slice A L.length c, .bool true]) ∧ L.length ≤ c ∧ SeesI w' A L ∧ w.grownBy w' none := by
  have h1 := pp_impl D hb hc
  rw [h] at h1
  exact h1
theorem pp_none {w : World} {A : Option Addr} {c : Nat} {l : List Int} (D : SeesN .u8 w A l) (hb : M.bytes l) (hc : l.length ≤ c) (h : M.ParsePage l = none) :
    Calls Try.prog 21 #[.slice A l.length c] w fun e w' => ∃ A c, e = .returned (.tuple #[.slice A 0 c, .bool false]) ∧ w.grownBy w' none := by
  have h1 := pp_impl D hb hc
  rw [h] at h1
  exact h1.mono fun _ _ ⟨A, c, he, _, _, hg⟩ => ⟨A, c, he, hg⟩
theorem pps_some {w : World} {A : Option Addr} {c : Nat} {l : List Int} {L : List M.Item} (D : SeesN .u8 w A l) (hb : M.bytes l) (hc : l.length ≤ c) (h : M.ParsePage l = some L) :
    Calls Try.prog 19 #[.slice A l.length c] w fun e w' => ∃ A c, e = .returned (.tuple #[.slice A L.length c, .bool true]) ∧ L.length ≤ c ∧ SeesI w' A L ∧ w.grownBy w' none := by
  have h1 := pp_spec D hb hc
  rw [h] at h1
  exact h1
theorem pps_none {w : World} {A : Option Addr} {c : Nat} {l : List Int} (D : SeesN .u8 w A l) (hb : M.bytes l) (hc : l.length ≤ c) (h : M.ParsePage l = none) :
    Calls Try.prog 19 #[.slice A l.length c] w fun e w' => ∃ A c, e = .returned (.tuple #[.slice A 0 c, .bool false]) ∧ SeesI w' A [] ∧ w.grownBy w' none := by
  have h1 := pp_spec D hb hc
  rw [h] at h1
  exact h1.mono fun _ _ ⟨A, c, he, _, hd, hg⟩ => ⟨A, c, he, hd, hg⟩
theorem pp_none' {w : World} {A : Option Addr} {c : Nat} {l : List Int} (D : SeesN .u8 w A l) (hb : M.bytes l) (hc : l.length ≤ c) (h : M.ParsePage l = none) :
    Calls Try.prog 21 #[.slice A l.length c] w fun e w' => ∃ A c, e = .returned (.tuple #[.slice A 0 c, .bool false]) ∧ SeesI w' A [] ∧ w.grownBy w' none := by
  have h1 := pp_impl D hb hc
  rw [h] at h1
  exact h1.mono fun _ _ ⟨A, c, he, _, hd, hg⟩ => ⟨A, c, he, hd, hg⟩
/-- two slices of numbers are compared -/
theorem equalBytes_any (w : World) (A B : Option Addr) (c d : Nat) (l m : List Int) (lo hi lo' hi' : Nat) (hl : l.length ≤ 1073741824) (hr : Rd w lo hi A (l.map (.int .u8))) (hs : Rd w lo' hi' B (m.map (.int .u8))) :
    Calls Try.prog 24 #[.slice A l.length c, .slice B m.length d] w fun e w' => e = .returned (.bool (decide (l = m))) ∧ ∃ n, w' = w.drewN n := by
  by_cases hlm : l.length = m.length
  · obtain ⟨L, hL⟩ : ∃ L, L = l.length := ⟨_, rfl⟩
    rw [← hlm, ← hL] 
    rw [← hL] at hl
    have HM := Lib.hid (hL.trans hlm)
    have HL := Lib.hid hL
    have HR := Lib.hid hr
    have HS := Lib.hid hs
    clear hL hr hs hlm
    have t0 : ((L : Int) != L) = false := by simp
    go_enter Try.func24, Try.ntmps24
    go_wp2
    go_loopw [5] (fun i wr => ∃ k : Nat, k ≤ L ∧ i = .int .i64 k ∧ l.take k = m.take k ∧ ∃ n, wr = w.drewN n) (fun i _ => L - (intOf i).toNat)
    case atStart => exact ⟨0, Nat.zero_le _, rfl, rfl, 0, rfl⟩
    case round =>
      obtain ⟨k, hk, rfl, he, q, rfl⟩ := hrel
      have HE := Lib.hid he
      clear he
      by_cases hlt : k < L
      · have hkl : k < l.length := by rw [← HL.out]; exact hlt
        have hkm : k < m.length := by rw [← HM.out]; exact hlt
        obtain ⟨b, o, rfl, _, _, hc⟩ := HR.out.at_ (j := k) (u := .int .u8 l[k]) (by simp [hkl])
        obtain ⟨b', o', rfl, _, _, hc'⟩ := HS.out.at_ (j := k) (u := .int .u8 m[k]) (by simp [hkm])
        have hi1 : (k : Int) < L := by omega
        have hi0 : (0 : Int) ≤ k := by omega
        by_cases hx : l[k] = m[k]
        · have hN : l.take (k + 1) = m.take (k + 1) := by
            rw [List.take_succ_eq_append_getElem hkl, List.take_succ_eq_append_getElem hkm, HE.out, hx]
          have HN := Lib.hid hN
          rw [hx] at hc
          generalize m[k] = x at *
          clear hN hx
          have t1 : (x != x) = false := by simp
          go_wp2
          go_quiet (fail)
          go_wp2
          go_roundw
          case rel => exact ⟨k + 1, by omega, by go_num, HN.out, _, rfl⟩
          case measure => simp [intOf]; omega
        · have hN : decide (l = m) = false := decide_eq_false (fun e => hx (by subst e; rfl))
          have HD := Lib.hid hN
          have t1 : (l[k] != m[k]) = true := by simpa using hx
          generalize m[k] = x at *
          generalize l[k] = y at *
          clear hN hx
          go_wp2
          go_quiet (fail)
          go_wp2
          go_ret
          exact ⟨ret_bool HD.out.symm, by first | exact ⟨_, rfl⟩ | exact ⟨_, World.drewN_drewN _ _ _⟩⟩
      · obtain rfl : k = L := by omega
        have hN : decide (l = m) = true := decide_eq_true (by
          have := HE.out
          rwa [List.take_of_length_le (by rw [HL.out]; exact Nat.le_refl _), List.take_of_length_le (by rw [HM.out]; exact Nat.le_refl _)] at this)
        have HD := Lib.hid hN
        clear hN
        go_wp2
        go_ret
        exact ⟨ret_bool HD.out.symm, by first | exact ⟨_, rfl⟩ | exact ⟨_, World.drewN_drewN _ _ _⟩⟩
  · have hN : decide (l = m) = false := decide_eq_false (fun e => hlm (by rw [e]))
    rw [hN]
    have t0 : ((l.length : Int) != m.length) = true := by rw [bne_iff_ne]; omega
    generalize l.length = L at *
    generalize m.length = L' at *
    clear hN hr hs hlm
    go_enter Try.func24, Try.ntmps24
    go_wp2
    go_ret
    exact ⟨rfl, 0, rfl⟩
theorem eb_any {w : World} {A B : Option Addr} {c d : Nat} {l m : List Int} (D : SeesN .u8 w A l) (E : SeesN .u8 w B m) : Calls Try.prog 24 #[.slice A l.length c, .slice B m.length d] w fun e w' => e = .returned (.bool (decide (l = m))) ∧ w.grownBy w' none :=
  (equalBytes_any w A B c d l m 0 w.heap.size 0 w.heap.size (by have := D.2; omega) D.1 E.1).mono fun _ _ ⟨h, hg⟩ => ⟨h, gb_of_drewN hg⟩
theorem SeesN.take {k : IntKind} {w : World} {A : Option Addr} {l : List Int} (h : SeesN k w A l) (n : Nat) : SeesN k w A (l.take n) := ⟨by rw [List.map_take]; exact h.1.take n, by rw [List.length_take]; have := h.2; omega⟩

/-! draws -/
def DrewI (w : World) (e : Ending) (w' : World) : Prop := ∃ (A : Option Addr) (c : Nat) (L : List M.Item), e = .returned (.slice A L.length c) ∧ L.length ≤ c ∧ SeesI w' A L ∧ w.grownBy w' none
theorem DrawFormatPage_any (w : World) (A : Option Addr) (c : Nat) (bs : List Int) (h2 : bs.length ≤ c) (hb : bs.length ≤ 1048576) (h3 : ∀ x ∈ bs, 0 ≤ x ∧ x ≤ 255) (h4 : Rd w 0 w.heap.size A (bs.map (.int .u8))) :
    Calls Try.prog 23 #[.slice A bs.length c] w (DrewI w) := by
  have H2 := Lib.hid h2
  have HB := Lib.hid hb
  have H3 := Lib.hid h3
  have H4 := Lib.hid h4
  clear h2 hb h3 h4
  go_enter Try.func23, Try.ntmps23
  go_wp2_with fail
  refine (newReader_any _ A c bs H2.out HB.out H3.out H4.out).mono ?_
  rintro e W ⟨rfl, hr, hg⟩
  have R := Lib.hid (RdrB.of hr)
  have G := Lib.hid hg
  clear hr hg
  go_wp2_with fail
  refine (anyStore_b _ _ 0 R.out (by omega)).mono ?_
  rintro e W ⟨A1, c1, L, rfl, hc1, hd, hr, hg⟩
  replace G := Lib.hid (gb_new G.out hg (fun b e => .inl (by injection e with e; omega)))
  have D := Lib.hid hd
  clear hr hg hd R
  go_wp2_with fail
  go_ret
  exact ⟨A1, c1, L, rfl, hc1, D.out.sees, G.out⟩
def DrewB (w : World) (e : Ending) (w' : World) : Prop := ∃ (A : Option Addr) (c : Nat) (l : List Int), e = .returned (.slice A l.length c) ∧ l.length ≤ c ∧ SeesN .u8 w' A l ∧ M.bytes l ∧ w.grownBy w' none
theorem dpSees {w : World} {lo n c : Nat} {A : Option Addr} {l : List Int} (O : w.ownsRow lo 5 1 (.slice A n c) n (l.map (.int .u8))) (hl : l.length ≤ 1048576) : SeesN .u8 w A l := by
  refine ⟨?_, hl⟩
  exact (rd_of_owns O).wide (Nat.zero_le _) (Nat.le_refl _)
theorem bytes_set {l : List Int} (h : M.bytes l) (k : Nat) {x : Int} (h0 : 0 ≤ x) (h1 : x ≤ 255) : M.bytes (l.set k x) := fun y hy => by
  rcases List.mem_or_eq_of_mem_set hy with hy | hy
  · exact h y hy
  · omega
set_option maxHeartbeats 2000000 in
theorem DrawParsePage_any (w : World) (A : Option Addr) (c : Nat) (bs : List Int) (h2 : bs.length ≤ c) (hb : bs.length ≤ 1048576) (h3 : ∀ x ∈ bs, 0 ≤ x ∧ x ≤ 255) (h4 : Rd w 0 w.heap.size A (bs.map (.int .u8))) :
    Calls Try.prog 27 #[.slice A bs.length c] w (DrewB w) := by
  have H2 := Lib.hid h2
  have HB := Lib.hid hb
  have H3 := Lib.hid h3
  have H4 := Lib.hid h4
  clear h2 hb h3 h4
  go_enter Try.func27, Try.ntmps27
  go_wp2_with fail
  refine (newReader_any _ A c bs H2.out HB.out H3.out H4.out).mono ?_
  rintro e W ⟨rfl, hr, hg⟩
  have R := Lib.hid (RdrB.of hr)
  have G := Lib.hid hg
  clear hr hg
  go_wp2_with fail
  refine (anyStore_b _ _ 0 R.out (by omega)).mono ?_
  rintro e W ⟨A1, c1, L, rfl, hc1, hd, hr, hg⟩
  replace G := Lib.hid (gb_new G.out hg (fun b e => .inl (by injection e with e; omega)))
  replace R := Lib.hid hr
  have DS := Lib.hid hd.sees
  clear hr hg hd
  have hlo := R.out.lt
  obtain ⟨lo, hlo'⟩ : ∃ lo, lo = W.heap.size := ⟨_, rfl⟩
  rw [← hlo'] at hlo
  have HC := Lib.hid (FormatPage_spec (c := c1) DS.out.2.1 DS.out.2.2 DS.out.1)
  rw [← hlo'] at HC
  clear hlo'
  go_wp2_with fail
  refine HC.out.mono ?_
  rintro e W ⟨v, rfl, ho, hg⟩
  replace R := Lib.hid (R.out.grown hg)
  replace G := Lib.hid (gb_trans G.out hg)
  obtain ⟨l, hl⟩ : ∃ l, l = M.FormatPage L := ⟨_, rfl⟩
  rw [← hl] at ho
  have hl98 : l.length ≤ 98 := by rw [hl]; exact M.FormatPage_le L
  have HB2 : Hid (M.bytes l) := Lib.hid (by rw [hl]; exact M.FormatPage_bytes L)
  obtain ⟨A2, c2, hv, hc2, _⟩ := OwnInts.rd ho
  subst hv
  have O := Lib.hid (show World.ownsRow W lo 5 1 (.slice A2 l.length c2) l.length (l.map (.int .u8)) from ho)
  clear hg ho hl HC DS hc1
  obtain ⟨n, hn⟩ : ∃ n, n = l.length := ⟨_, rfl⟩
  rw [← hn] at hl98 hc2 O ⊢
  have HN := Lib.hid hn
  clear hn
  by_cases hn1 : 1 < n
  · have tn : decide ((1 : Int) < (n : Int)) = true := by simp; omega
    go_wp2_with fail
    refine (pick_b _ _ _ 3 R.out (by omega) (by omega) (by omega)).mono ?_
    rintro e W ⟨x, hx0, hx1, rfl, hr, hg⟩
    replace R := Lib.hid hr
    replace G := Lib.hid (gb_new G.out hg (fun b e => .inl (by injection e with e; omega)))
    replace O := Lib.hid (World.ownsRow.kept O.out hg (own_ge O.out (fun b e => by injection e with e; omega)))
    clear hr hg
    by_cases hx : x = 0
    · subst hx
      go_wp2_with fail
      refine (pick_b _ _ _ 3 R.out (by omega) (by omega) (by omega)).mono ?_
      rintro e W ⟨y, hy0, hy1, rfl, hr, hg⟩
      replace R := Lib.hid hr
      replace G := Lib.hid (gb_new G.out hg (fun b e => .inl (by injection e with e; omega)))
      replace O := Lib.hid (World.ownsRow.kept O.out hg (own_ge O.out (fun b e => by injection e with e; omega)))
      clear hr hg
      by_cases hy : y = 0
      · subst hy
        go_wp2_with fail
        refine (pick_b _ _ _ _ R.out (by omega) (by omega) (by omega)).mono ?_
        rintro e W ⟨k, hk0, hk1, rfl, hr, hg⟩
        replace R := Lib.hid hr
        replace G := Lib.hid (gb_new G.out hg (fun b e => .inl (by injection e with e; omega)))
        replace O := Lib.hid (World.ownsRow.kept O.out hg (own_ge O.out (fun b e => by injection e with e; omega)))
        clear hr hg
        go_wp2_with fail
        refine (pick_b _ _ _ 256 R.out (by omega) (by omega) (by omega)).mono ?_
        rintro e W ⟨z, hz0, hz1, rfl, hr, hg⟩
        replace R := Lib.hid hr
        replace G := Lib.hid (gb_new G.out hg (fun b e => .inl (by injection e with e; omega)))
        replace O := Lib.hid (World.ownsRow.kept O.out hg (own_ge O.out (fun b e => by injection e with e; omega)))
        clear hr hg
        obtain ⟨k, rfl⟩ := Int.eq_ofNat_of_zero_le hk0
        obtain ⟨b, hAb, hb1, hb2, _⟩ := own_form' O.out (by omega)
        subst hAb
        have hkl : k < l.length := by rw [← HN.out]; omega
        have hbs : Hid (k < l.length) := Lib.hid hkl
        have f1 : W.frozen? ⟨b, k, none⟩ = false := World.ownsRow.frozenAt O.out k
        obtain ⟨q0, hq0⟩ : ∃ q0, W.cell? ⟨b, k, none⟩ = some q0 := by
          rw [World.ownsRow.cellAt O.out k (by omega), List.getElem?_map, List.getElem?_eq_getElem hkl]
          exact ⟨_, rfl⟩
        have S := Lib.hid (show World.ownsRow (W.setCell ⟨b, k, none⟩ (.int .u8 z)) lo 5 1 (.slice (some ⟨b, 0, none⟩) (n) c2) (n) ((l.set k z).map (.int .u8)) from by
          have h := (World.ownsRow.stored O.out k (.int .u8 z)).1
          rwa [← List.map_set] at h)
        clear hkl
        go_wp2_with fail
        go_ret
        exact ⟨_, c2, l.set k z, by rw [List.length_set, ← HN.out]; rfl, by rw [List.length_set, ← HN.out]; exact hc2, dpSees S.out (by rw [List.length_set, ← HN.out]; omega), bytes_set HB2.out k hz0 (by omega), gb_setCell G.out (.inl (by show _ ≤ b; omega)) _⟩
      · by_cases hy1' : y = 1
        · subst hy1'
          obtain ⟨m, rfl⟩ : ∃ m, n = m + 1 := ⟨n - 1, by omega⟩
          go_wp2_with fail
          go_ret
          have e : (l.take m).length = m := by rw [List.length_take, ← HN.out]; omega
          refine ⟨A2, c2, l.take m, by rw [e]; rfl, by omega, SeesN.take ?_ m, fun x hx => HB2.out x (List.mem_of_mem_take hx), G.out⟩
          exact dpSees O.out (by rw [← HN.out]; omega)
        · obtain rfl : y = 2 := by omega
          go_wp2_with fail
          refine (pick_b _ _ _ _ R.out (by omega) (by omega) (by omega)).mono ?_
          rintro e W ⟨k, hk0, hk1, rfl, hr, hg⟩
          replace R := Lib.hid hr
          replace G := Lib.hid (gb_new G.out hg (fun b e => .inl (by injection e with e; omega)))
          replace O := Lib.hid (World.ownsRow.kept O.out hg (own_ge O.out (fun b e => by injection e with e; omega)))
          clear hr hg
          go_wp2_with fail
          refine (pick_b _ _ _ 256 R.out (by omega) (by omega) (by omega)).mono ?_
          rintro e W ⟨z, hz0, hz1, rfl, hr, hg⟩
          replace R := Lib.hid hr
          replace G := Lib.hid (gb_new G.out hg (fun b e => .inl (by injection e with e; omega)))
          replace O := Lib.hid (World.ownsRow.kept O.out hg (own_ge O.out (fun b e => by injection e with e; omega)))
          clear hr hg
          obtain ⟨k, rfl⟩ := Int.eq_ofNat_of_zero_le hk0
          obtain ⟨m, rfl⟩ : ∃ m, n = m + 1 := ⟨n - 1, by omega⟩
          obtain ⟨b, hAb, hb1, hb2, _⟩ := own_form' O.out (by omega)
          subst hAb
          have hkl : k < l.length := by rw [← HN.out]; omega
          have hbs : Hid (k < l.length) := Lib.hid hkl
          have f1 : W.frozen? ⟨b, k, none⟩ = false := World.ownsRow.frozenAt O.out k
          obtain ⟨q0, hq0⟩ : ∃ q0, W.cell? ⟨b, k, none⟩ = some q0 := by
            rw [World.ownsRow.cellAt O.out k (by omega), List.getElem?_map, List.getElem?_eq_getElem hkl]
            exact ⟨_, rfl⟩
          have S := Lib.hid (show World.ownsRow (W.setCell ⟨b, k, none⟩ (.int .u8 z)) lo 5 1 (.slice (some ⟨b, 0, none⟩) (m + 1) c2) (m + 1) ((l.set k z).map (.int .u8)) from by
            have h := (World.ownsRow.stored O.out k (.int .u8 z)).1
            rwa [← List.map_set] at h)
          clear hkl
          have HB3 := Lib.hid (bytes_set HB2.out k hz0 (show z ≤ 255 by omega))
          have HL3 : Hid ((l.set k z).length = m + 1) := Lib.hid (by rw [List.length_set, ← HN.out])
          have HTL : Hid (((l.set k z).take m).length = m) := Lib.hid (by rw [List.length_take, HL3.out]; omega)
          have HCK := Lib.hid (checkOf_spec (W.setCell ⟨b, k, none⟩ (.int .u8 z)) (some ⟨b, 0, none⟩) c2 lo _ ((l.set k z).take m) (by rw [HTL.out]; omega) (fun x hx => HB3.out x (List.mem_of_mem_take hx)) (by rw [List.map_take]; exact (rd_of_owns S.out).take m))
          rw [HTL.out] at HCK
          have hck := M.chk_rng ((l.set k z).take m)
          obtain ⟨q1, hq1⟩ : ∃ q1, (W.setCell ⟨b, k, none⟩ (.int .u8 z)).cell? ⟨b, m, none⟩ = some q1 := by
            rw [World.ownsRow.cellAt S.out m (by omega), List.getElem?_map, List.getElem?_eq_getElem (show m < (l.set k z).length by rw [HL3.out]; omega)]
            exact ⟨_, rfl⟩
          have f2 : (W.setCell ⟨b, k, none⟩ (.int .u8 z)).frozen? ⟨b, m, none⟩ = false := World.ownsRow.frozenAt S.out m
          have G3 := Lib.hid (gb_setCell G.out (p := ⟨b, k, none⟩) (.inl (by show _ ≤ b; omega)) (.int .u8 z))
          go_wp2_with fail
          refine HCK.out.mono ?_
          rintro e w' ⟨rfl, rfl⟩
          obtain ⟨ck, hck'⟩ : ∃ ck, ck = M.chk ((l.set k z).take m) := ⟨_, rfl⟩
          rw [← hck'] at hck ⊢
          clear hck' HCK
          have S2 := Lib.hid (show World.ownsRow ((W.setCell ⟨b, k, none⟩ (.int .u8 z)).setCell ⟨b, m, none⟩ (.int .u8 ck)) lo 5 1 (.slice (some ⟨b, 0, none⟩) (m + 1) c2) (m + 1) (((l.set k z).set m ck).map (.int .u8)) from by
            have h := (World.ownsRow.stored S.out m (.int .u8 ck)).1
            rwa [← List.map_set] at h)
          go_wp2_with fail
          go_ret
          exact ⟨_, c2, (l.set k z).set m ck, by rw [List.length_set, HL3.out]; rfl, by rw [List.length_set, HL3.out]; exact hc2, dpSees S2.out (by rw [List.length_set, HL3.out]; omega), bytes_set HB3.out m hck.1 (by omega), gb_setCell G3.out (.inl (by show _ ≤ b; omega)) _⟩
    · have tx : (x == 0) = false := beq_eq_false_iff_ne.2 hx
      go_wp2_with fail
      go_ret
      exact ⟨A2, c2, l, by rw [← HN.out]; rfl, by rw [← HN.out]; exact hc2, dpSees O.out (by rw [← HN.out]; omega), HB2.out, G.out⟩
  · have tn : decide ((1 : Int) < (n : Int)) = false := by simp; omega
    go_wp2_with fail
    go_ret
    exact ⟨A2, c2, l, by rw [← HN.out]; rfl, by rw [← HN.out]; exact hc2, dpSees O.out (by rw [← HN.out]; omega), HB2.out, G.out⟩
end Go.Proofs.Ytbfilliflfmaoaa
