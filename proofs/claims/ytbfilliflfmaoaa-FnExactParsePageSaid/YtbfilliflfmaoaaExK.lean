/- What is kept while an exact law marks its arguments and results; the marks of bytes. -/
import Derived.Test.YtbfilliflfmaoaaKeep
import Derived.Test.YtbfilliflfmaoaaEqW
import Derived.Test.YtbfilliflfmaoaaSee
import Derived.Test.YtbfilliflfmaoaaByteW
import Derived.Test.YtbfilliflfmaoaaPutIW
namespace Go.Proofs.Ytbfilliflfmaoaa
open Go.RowKit
set_option linter.unusedVariables false

/-- since the world w0 the blocks from lo on, below hi, are as they were -/
def Held (lo hi : Nat) (w0 W : World) : Prop := Agree lo hi w0 W ∧ hi ≤ W.heap.size
theorem Held.now {lo hi : Nat} {W : World} (h : hi ≤ W.heap.size) : Held lo hi W W := ⟨fun _ _ _ => rfl, h⟩
theorem Held.on {lo hi : Nat} {w0 W W' : World} (h : Held lo hi w0 W) (hg : W.grownBy W' none) : Held lo hi w0 W' :=
  ⟨fun b h1 h2 => (hg.block b (by have := h.2; omega) (by simp)).trans (h.1 b h1 h2), by have := h.2; have := hg.size; omega⟩
theorem Held.wrote {lo hi l m : Nat} {w0 W W' : World} (h : Held lo hi w0 W) (hw : Wrote l m W W') (hd : hi ≤ l ∨ m ≤ lo) : Held lo hi w0 W' :=
  ⟨fun b h1 h2 => (hw.block b (by have := h.2; omega) (by omega)).trans (h.1 b h1 h2), by have := h.2; have := hw.size; omega⟩

/-! bytes -/
def ren8 (k : Int) (n : Nat) : List Int := (List.range n).map fun i : Nat => (k + (i : Int)) % 256
theorem ren8_length (k : Int) (n : Nat) : (ren8 k n).length = n := by simp [ren8]
theorem ren8_succ (k : Int) (n : Nat) : ren8 k (n + 1) = ren8 k n ++ [(k + n) % 256] := by simp [ren8, List.range_succ]
theorem ren8_at {k : Int} {n j : Nat} (h : j < n) : (ren8 k n)[j]? = some ((k + j) % 256) := by
  rw [ren8, List.getElem?_map, List.getElem?_range h]; rfl
theorem ren8_set (k : Int) (l : List Int) (j : Nat) (h : j < l.length) : ((ren8 k j ++ l.drop j).map (Value.int .u8)).set j (.int .u8 ((k + j) % 256)) = (ren8 k (j + 1) ++ l.drop (j + 1)).map (.int .u8) := by
  rw [List.drop_eq_getElem_cons h, List.map_append, List.map_cons, List.set_append_right _ _ (by simp [ren8_length]), List.length_map, ren8_length, Nat.sub_self, List.set_cons_zero, ren8_succ]
  simp only [List.map_append, List.map_cons, List.append_assoc, List.cons_append, List.nil_append]
theorem markByteS_any (w : World) (A : Option Addr) (c lo hi : Nat) (l : List Int) (k : Int) (hl : l.length ≤ 1048576) (ho : OwnInts .u8 5 w lo (.slice A l.length c) l) (hb : ∀ b, (Value.slice A l.length c).ownBlock = some b → b < hi) (h0 : 0 ≤ k) (h1 : k ≤ 4398046511104) :
    Calls Try.prog 17 #[.slice A l.length c, .int .i64 k] w fun e w' => e = .returned (.int .i64 (k + l.length)) ∧ OwnInts .u8 5 w' lo (.slice A l.length c) (ren8 k l.length) ∧ Wrote lo hi w w' := by
  obtain ⟨n, hn⟩ : ∃ n, n = l.length := ⟨_, rfl⟩
  unfold OwnInts at ho ⊢
  rw [ren8_length]
  rw [← hn] at hl ho hb ⊢
  have HL := Lib.hid hn
  have HO := Lib.hid ho
  have HB := Lib.hid hb
  clear hn ho hb
  go_enter Try.func17, Try.ntmps17
  go_wp2_with fail
  go_loopw [1, 5] (fun q i wr => ∃ j : Nat, j ≤ n ∧ i = .int .i64 j ∧ q = .int .i64 (k + j) ∧ wr.ownsRow lo 5 1 (.slice A n c) n ((ren8 k j ++ l.drop j).map (.int .u8)) ∧ Wrote lo hi w wr) (fun _ i _ => n - (intOf i).toNat)
  case atStart => exact ⟨0, Nat.zero_le _, rfl, by simp, by simpa [ren8] using HO.out, Wrote.refl _ _ _⟩
  case round =>
    obtain ⟨j, hj, rfl, rfl, hown, hg⟩ := hrel
    by_cases hlt : j < n
    · obtain ⟨g, rfl, hlo, hgs, hnc⟩ := own_form' hown (by omega)
      have cj : wr.cell? ⟨g, j, none⟩ = some (.int .u8 (l[j]'(by rw [← HL.out]; exact hlt))) := by
        rw [hown.cellAt j (by omega), List.getElem?_map, List.getElem?_append_right (by rw [ren8_length]; exact Nat.le_refl _), ren8_length, Nat.sub_self, List.getElem?_drop]
        simp [← HL.out, hlt]
      have fj : wr.frozen? ⟨g, j, none⟩ = false := hown.frozenAt j
      have hs := hown.stored j (.int .u8 ((k + j) % 256))
      rw [ren8_set k l j (by rw [← HL.out]; exact hlt)] at hs
      have HS := Lib.hid hs
      have HG := Lib.hid hg
      have HGB := Lib.hid (show lo ≤ g ∧ g < hi from ⟨hlo, HB.out g rfl⟩)
      have tw : IntKind.u8.wrap (k + (j : Int)) = (k + (j : Int)) % 256 := by simp [IntKind.wrap, IntKind.bits, IntKind.signed]
      clear hown hg hs
      generalize l[j]'(by rw [← HL.out]; exact hlt) = y at *
      go_wp2_with fail
      go_roundw
      case rel => exact ⟨j + 1, by omega, by go_num, by go_num, HS.out.1, HG.out.grown HS.out.2 (by intro b hb; injection hb with hb; subst hb; exact HGB.out)⟩
      case measure => simp [intOf]; omega
    · obtain rfl : j = n := by omega
      have HW := Lib.hid hown
      have HG := Lib.hid hg
      clear hown hg
      go_wp2_with fail
      go_ret
      refine ⟨rfl, ?_, HG.out⟩
      have := HW.out
      rw [List.drop_of_length_le (by rw [HL.out]; exact Nat.le_refl _), List.append_nil] at this
      exact this
theorem heldByteS_any (w : World) (A : Option Addr) (c lo hi n : Nat) (k : Int) (hl : n ≤ 1048576) (hr : Rd w lo hi A ((ren8 k n).map (.int .u8))) (h0 : 0 ≤ k) (h1 : k ≤ 4398046511104) :
    Calls Try.prog 18 #[.slice A n c, .int .i64 k] w fun e w' => e = .returned (.int .i64 (k + n)) ∧ w = w' := by
  have HR := Lib.hid hr
  clear hr
  go_enter Try.func18, Try.ntmps18
  go_wp2_with fail
  go_loop [1, 5] (fun q i => ∃ j : Nat, j ≤ n ∧ i = .int .i64 j ∧ q = .int .i64 (k + j)) (fun _ i => n - (intOf i).toNat)
  case atStart => exact ⟨0, Nat.zero_le _, rfl, by simp⟩
  case round =>
    obtain ⟨j, hj, rfl, rfl⟩ := hrel
    by_cases hlt : j < n
    · obtain ⟨b, o, rfl, _, _, hc⟩ := HR.out.at_ (j := j) (u := .int .u8 ((k + j) % 256)) (by rw [List.getElem?_map, ren8_at hlt]; rfl)
      have t : (((k + (j : Int)) % 256) != ((k + j) % 256)) = false := by simp
      have tw : IntKind.u8.wrap (k + (j : Int)) = (k + (j : Int)) % 256 := by simp [IntKind.wrap, IntKind.bits, IntKind.signed]
      go_wp2_with fail
      go_round
      case rel => exact ⟨j + 1, by omega, by go_num, by go_num⟩
      case measure => simp [intOf]; omega
    · obtain rfl : j = n := by omega
      go_wp2_with fail
      go_ret
      exact ⟨rfl, rfl⟩
/-- integers of the call's own, in a block below hi -/
def OwnIn (k : IntKind) (t : TypeId) (w : World) (lo hi : Nat) (v : Value) (l : List Int) : Prop := OwnInts k t w lo v l ∧ ∀ b, v.ownBlock = some b → b < hi
theorem OwnIn.agree {k : IntKind} {t : TypeId} {w w' : World} {lo hi : Nat} {v : Value} {l : List Int} (h : OwnIn k t w lo hi v l) (ha : Agree lo hi w w') : OwnIn k t w' lo hi v l :=
  ⟨own_agree h.1 h.2 ha, h.2⟩
theorem OwnIn.rd {k : IntKind} {t : TypeId} {w : World} {lo hi n c : Nat} {A : Option Addr} {l : List Int} (h : OwnIn k t w lo hi (.slice A n c) l) : Rd w lo w.heap.size A (l.map (.int k)) := by
  obtain ⟨A', c', e, _, hr⟩ := OwnInts.rd h.1
  injection e with e1
  subst e1
  exact hr
theorem OwnLV.rdI {w : World} {lo hi n c : Nat} {A : Option Addr} {LV : List (M.Item × Value)} (h : OwnLV w lo hi (.slice A n c) LV) : RdI w lo w.heap.size A (LV.map (·.1)) := by
  obtain ⟨A', c', e, _, hr⟩ := h.items.rd
  injection e with e1
  subst e1
  exact hr
/-- a copy of items, its blocks from lo on, below hi -/
def CopiedI (w : World) (L : List M.Item) (e : Ending) (w' : World) : Prop :=
  ∃ (A : Option Addr) (c : Nat) (LV : List (M.Item × Value)) (lo hi : Nat), e = .returned (.slice A L.length c) ∧ LV.map (·.1) = L ∧ w.heap.size ≤ lo ∧ lo ≤ hi ∧ hi ≤ w'.heap.size ∧ OwnLV w' lo hi (.slice A L.length c) LV ∧ w.grownBy w' none
theorem copiedI_own {w w' : World} {e : Ending} {L : List M.Item} (h : ∃ v, e = .returned v ∧ OwnItems w' w.heap.size v L ∧ w.grownBy w' none) : CopiedI w L e w' := by
  obtain ⟨v, rfl, ho, hg⟩ := h
  obtain ⟨A, c, rfl, hc, _⟩ := ho.rd
  obtain ⟨LV, h1, h2⟩ := ho.lv
  exact ⟨A, c, LV, _, _, rfl, h1, Nat.le_refl _, hg.size, Nat.le_refl _, h2, hg⟩
theorem tis_any {w : World} {A : Option Addr} {c : Nat} {L : List M.Item} (hr : RdI w 0 w.heap.size A L) (hs : Small L) : Calls Try.prog 12 #[.slice A L.length c] w (CopiedI w L) :=
  (toItemS_any w A c 0 w.heap.size L hs.1 hs.2 hr (Nat.le_refl _)).mono fun _ _ h => copiedI_own h
/-- integers are handed back, their block from lo on, below hi -/
def MadeN (k : IntKind) (t : TypeId) (w : World) (l : List Int) (e : Ending) (w' : World) : Prop :=
  ∃ (A : Option Addr) (c lo hi : Nat), e = .returned (.slice A l.length c) ∧ l.length ≤ c ∧ w.heap.size ≤ lo ∧ lo ≤ hi ∧ hi ≤ w'.heap.size ∧ OwnIn k t w' lo hi (.slice A l.length c) l ∧ w.grownBy w' none
theorem madeN_own {k : IntKind} {t : TypeId} {w w' : World} {e : Ending} {l : List Int} (h : ∃ v, e = .returned v ∧ OwnInts k t w' w.heap.size v l ∧ w.grownBy w' none) : MadeN k t w l e w' := by
  obtain ⟨v, rfl, ho, hg⟩ := h
  obtain ⟨A, c, rfl, hc, _⟩ := ho.rd
  exact ⟨A, c, _, _, rfl, hc, Nat.le_refl _, hg.size, Nat.le_refl _, ⟨ho, fun b hb => (World.ownsRow.lt ho b hb).2⟩, hg⟩
theorem mis_any {w : World} {A : Option Addr} {c lo hi n : Nat} {LV : List (M.Item × Value)} {k : Int} (hn : n = LV.length) (hs : Small (LV.map (·.1))) (ho : OwnLV w lo hi (.slice A n c) LV) (h0 : 0 ≤ k) (h1 : k ≤ 1099511627776) :
    Calls Try.prog 16 #[.slice A n c, .int .i64 k] w fun e w' => e = .returned (.int .i64 (k + szI LV)) ∧ OwnLV w' lo hi (.slice A n c) (renLV k LV) ∧ Wrote lo hi w w' := by
  subst hn
  exact markItemS_any w A c lo hi LV k (by have := hs.1; rwa [List.length_map] at this) (fun p hp => hs.2 p.1 (List.mem_map_of_mem hp)) ho h0 h1
theorem szI_small {LV : List (M.Item × Value)} (hs : Small (LV.map (·.1))) : szI LV ≤ 1099513724928 := by
  have h1 := szI_le LV (fun p hp => hs.2 p.1 (List.mem_map_of_mem hp))
  have h2 := hs.1
  rw [List.length_map] at h2
  omega
theorem ebs_any {w : World} {A B : Option Addr} {c d lo hi lo' hi' : Nat} {l m : List Int} (hl : l.length ≤ 1073741824) (hr : Rd w lo hi A (l.map (.int .u8))) (hs : Rd w lo' hi' B (m.map (.int .u8))) :
    Calls Try.prog 14 #[.slice A l.length c, .slice B m.length d] w fun e w' => e = .returned (.bool (decide (l = m))) ∧ w.grownBy w' none :=
  (eqByteS_any w A B c d l m lo hi lo' hi' hl hr hs).mono fun _ _ ⟨h, hg⟩ => ⟨h, gb_of_drewN hg⟩
theorem eis_any {w : World} {A B : Option Addr} {c d lo hi lo' hi' : Nat} {l m : List Int} (hl : l.length ≤ 1073741824) (hr : Rd w lo hi A (l.map (.int .i64))) (hs : Rd w lo' hi' B (m.map (.int .i64))) :
    Calls Try.prog 48 #[.slice A l.length c, .slice B m.length d] w fun e w' => e = .returned (.bool (decide (l = m))) ∧ w.grownBy w' none :=
  (eqIntS_any w A B c d l m lo hi lo' hi' hl hr hs).mono fun _ _ ⟨h, hg⟩ => ⟨h, gb_of_drewN hg⟩
/-- a list of items and a yes or no are handed back, its blocks from lo on, below hi -/
def MadeP (w : World) (r : Option (List M.Item)) (e : Ending) (w' : World) : Prop :=
  ∃ (A : Option Addr) (c : Nat) (LV : List (M.Item × Value)) (lo hi : Nat), e = .returned (.tuple #[.slice A (r.getD []).length c, .bool r.isSome]) ∧ LV.map (·.1) = r.getD [] ∧ w.heap.size ≤ lo ∧ lo ≤ hi ∧ hi ≤ w'.heap.size ∧ OwnLV w' lo hi (.slice A (r.getD []).length c) LV ∧ w.grownBy w' none
theorem madeP_ans {w w' : World} {e : Ending} {r : Option (List M.Item)} (h : ∃ vs, e = .returned (.tuple vs.toArray) ∧ PutAns w' w.heap.size vs r ∧ w.grownBy w' none) : MadeP w r e w' := by
  obtain ⟨vs, rfl, ha, hg⟩ := h
  cases r with
  | none =>
    have h : vs = [.slice none 0 0, .bool false] := ha
    subst h
    refine ⟨none, 0, [], _, _, rfl, rfl, Nat.le_refl _, hg.size, Nat.le_refl _, ⟨⟨rfl, .inl ⟨rfl, rfl⟩⟩, by simp, List.Pairwise.nil, fun b hb => by simp [Value.ownBlock] at hb, by simp⟩, hg⟩
  | some L =>
    obtain ⟨v, h, ho⟩ := ha
    subst h
    obtain ⟨A, c, rfl, hc, _⟩ := ho.rd
    obtain ⟨LV, h1, h2⟩ := ho.lv
    exact ⟨A, c, LV, _, _, rfl, h1, Nat.le_refl _, hg.size, Nat.le_refl _, h2, hg⟩
theorem his_any {w : World} {A : Option Addr} {c lo hi n : Nat} {LV : List (M.Item × Value)} {k : Int} (hn : n = LV.length) (hs : Small (LV.map (·.1))) (ho : OwnLV w lo hi (.slice A n c) (renLV k LV)) (h0 : 0 ≤ k) (h1 : k ≤ 1099511627776) :
    Calls Try.prog 22 #[.slice A n c, .int .i64 k] w fun e w' => e = .returned (.int .i64 (k + szI LV)) ∧ w = w' := by
  subst hn
  exact heldItemS_any w A c _ _ LV k (by have := hs.1; rwa [List.length_map] at this) (fun p hp => hs.2 p.1 (List.mem_map_of_mem hp)) ho.rdI h0 h1
end Go.Proofs.Ytbfilliflfmaoaa
