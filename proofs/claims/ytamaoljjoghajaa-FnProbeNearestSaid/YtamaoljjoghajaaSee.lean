/- What a law sees of lists in memory, while the world only grows; the contracts in these words. -/
import Derived.Test.YtamaoljjoghajaaShardIW
import Derived.Test.YtamaoljjoghajaaMovedW
import Derived.Test.YtamaoljjoghajaaKeep
import Derived.Test.YtamaoljjoghajaaDrawS
namespace Go.Proofs.Ytamaoljjoghajaa
open Go.RowKit
set_option linter.unusedVariables false
set_option maxRecDepth 100000

/-- a list of items of no great size -/
def Small (L : List M.Item) : Prop := L.length ≤ 1048576 ∧ ∀ x ∈ L, x.pos.length ≤ 1048576
theorem Small.nil_ : Small [] := ⟨by simp, by simp⟩
theorem Small.filter {L : List M.Item} (h : Small L) (p : M.Item → Bool) : Small (L.filter p) := ⟨Nat.le_trans (List.length_filter_le _ _) h.1, fun x hx => h.2 x (List.mem_filter.1 hx).1⟩
theorem Small.of_valid {L : List M.Item} (h : M.validStore L = true) : Small L :=
  ⟨by have := (M.validStore_of h).1; omega, fun x hx => by have := validItem_len ((M.validStore_of h).2.1 x hx); omega⟩
theorem Small.take {L : List M.Item} (h : Small L) (k : Nat) : Small (L.take k) := ⟨by rw [List.length_take]; have := h.1; omega, fun x hx => h.2 x (List.mem_of_mem_take hx)⟩
theorem Small.drop {L : List M.Item} (h : Small L) (k : Nat) : Small (L.drop k) := ⟨by rw [List.length_drop]; have := h.1; omega, fun x hx => h.2 x (List.mem_of_mem_drop hx)⟩
def SeesI (w : World) (A : Option Addr) (L : List M.Item) : Prop := RdI w 0 w.heap.size A L ∧ Small L
theorem SeesI.on {w w' : World} {A : Option Addr} {L : List M.Item} (h : SeesI w A L) (hg : w.grownBy w' none) : SeesI w' A L := ⟨(h.1.keep hg (Nat.le_refl _)).wide (Nat.le_refl _) hg.size, h.2⟩
def SeesN (k : IntKind) (w : World) (A : Option Addr) (l : List Int) : Prop := Rd w 0 w.heap.size A (l.map (.int k)) ∧ l.length ≤ 1048576
theorem SeesN.on {k : IntKind} {w w' : World} {A : Option Addr} {l : List Int} (h : SeesN k w A l) (hg : w.grownBy w' none) : SeesN k w' A l := ⟨(h.1.keep hg (Nat.le_refl _)).wide (Nat.le_refl _) hg.size, h.2⟩
/-- a slice of items is handed back -/
def GotI (w : World) (L : List M.Item) (e : Ending) (w' : World) : Prop := ∃ A c, e = .returned (.slice A L.length c) ∧ L.length ≤ c ∧ SeesI w' A L ∧ w.grownBy w' none
def GotN (k : IntKind) (w : World) (l : List Int) (e : Ending) (w' : World) : Prop := ∃ A c, e = .returned (.slice A l.length c) ∧ l.length ≤ c ∧ SeesN k w' A l ∧ w.grownBy w' none
theorem gotI_rd {w w' : World} {lo : Nat} {e : Ending} {L : List M.Item} (hs : Small L) (h : ∃ v, e = .returned v ∧ RdItems w' lo w'.heap.size v L ∧ w.grownBy w' none) : GotI w L e w' := by
  obtain ⟨v, rfl, ⟨A, c, rfl, hc, hr⟩, hg⟩ := h
  exact ⟨A, c, rfl, hc, ⟨hr.wide (Nat.zero_le _) (Nat.le_refl _), hs⟩, hg⟩
theorem gotI_own {w w' : World} {lo : Nat} {e : Ending} {L : List M.Item} (hs : Small L) (h : ∃ v, e = .returned v ∧ OwnItems w' lo v L ∧ w.grownBy w' none) : GotI w L e w' := by
  obtain ⟨v, he, ho, hg⟩ := h
  exact gotI_rd hs ⟨v, he, ho.rd, hg⟩
theorem gotN_own {k : IntKind} {t : TypeId} {w w' : World} {lo : Nat} {e : Ending} {l : List Int} (hs : l.length ≤ 1048576) (h : ∃ v, e = .returned v ∧ OwnInts k t w' lo v l ∧ w.grownBy w' none) : GotN k w l e w' := by
  obtain ⟨v, he, ho, hg⟩ := h
  obtain ⟨A, c, rfl, hc, hr⟩ := ho.rd
  exact ⟨A, c, he, hc, ⟨hr.wide (Nat.zero_le _) (Nat.le_refl _), hs⟩, hg⟩

theorem vs_impl {w : World} {A : Option Addr} {c : Nat} {L : List M.Item} (D : SeesI w A L) : Calls Try.prog 53 #[.slice A L.length c] w fun e w' => e = .returned (.bool (M.validStore L)) ∧ w.grownBy w' none :=
  ValidStore_impl w A c 0 w.heap.size L D.2.1 D.2.2 D.1 (Nat.le_refl _)
theorem vs_spec {w : World} {A : Option Addr} {c : Nat} {L : List M.Item} (D : SeesI w A L) : Calls Try.prog 71 #[.slice A L.length c] w fun e w' => e = .returned (.bool (M.validStore L)) ∧ w.grownBy w' none :=
  validStore_spec w A c 0 w.heap.size L D.2.1 D.2.2 D.1 (Nat.le_refl _)
theorem small_shard {L : List M.Item} (h : Small L) (s n : Int) : Small (M.ShardItems L s n) := by
  unfold M.ShardItems
  split
  · exact h.filter _
  · exact Small.nil_

/-! comparisons and look-ups of the laws -/
theorem isIn_any {w : World} {A : Option Addr} {c : Nat} {l : List Int} {n : Int} (D : SeesN .i64 w A l) : Calls Try.prog 23 #[.slice A l.length c, .int .i64 n] w fun e w' => e = .returned (.bool (decide (n ∈ l))) ∧ w.grownBy w' none := by
  obtain ⟨hr, hl⟩ := D
  obtain ⟨L, hL⟩ : ∃ L, L = l.length := ⟨_, rfl⟩
  rw [← hL] at hl ⊢
  have HL := Lib.hid hL
  have HR := Lib.hid hr
  clear hL hr
  go_enter Try.func23, Try.ntmps23
  go_wp2_with fail
  go_loopw [5] (fun i wr => ∃ k : Nat, k ≤ L ∧ i = .int .i64 k ∧ n ∉ l.take k ∧ w.grownBy wr none) (fun i _ => L - (intOf i).toNat)
  case atStart => exact ⟨0, Nat.zero_le _, rfl, by simp, gb_refl _ _⟩
  case round =>
    obtain ⟨k, hk, rfl, ha, hg⟩ := hrel
    have HA := Lib.hid ha
    have HG := Lib.hid hg
    clear ha hg
    by_cases hlt : k < L
    · have hkl : k < l.length := by rw [← HL.out]; exact hlt
      obtain ⟨b, o, rfl, _, hb, hc'⟩ := HR.out.at_ (j := k) (u := .int .i64 l[k]) (by simp [hkl])
      have hc : wr.cell? ⟨b, o + k, none⟩ = some (.int .i64 l[k]) := ((Agree.of_grown HG.out).cell (p := ⟨b, o + k, none⟩) (Nat.zero_le _) hb).trans hc'
      clear hc'
      by_cases hx : l[k] = n
      · have HD : Hid (decide (n ∈ l) = true) := Lib.hid (decide_eq_true (by rw [← hx]; exact List.getElem_mem hkl))
        have t1 : (l[k] == n) = true := beq_iff_eq.2 hx
        clear hx
        generalize l[k] = y at *
        go_wp2_with fail
        go_ret
        exact ⟨ret_bool HD.out.symm, HG.out⟩
      · have HN : Hid (n ∉ l.take (k + 1)) := Lib.hid (by
          rw [List.take_succ_eq_append_getElem hkl, List.mem_append]
          rintro (h | h)
          · exact HA.out h
          · simp at h; exact hx h.symm)
        have t1 : (l[k] == n) = false := beq_eq_false_iff_ne.2 hx
        clear hx
        generalize l[k] = y at *
        go_wp2_with fail
        go_roundw
        case rel => exact ⟨k + 1, by omega, by go_num, HN.out, HG.out⟩
        case measure => simp [intOf]; omega
    · obtain rfl : k = L := by omega
      have HD : Hid (decide (n ∈ l) = false) := Lib.hid (decide_eq_false (by have := HA.out; rwa [HL.out, List.take_of_length_le (Nat.le_refl _)] at this))
      go_wp2_with fail
      go_ret
      exact ⟨ret_bool HD.out.symm, HG.out⟩

end Go.Proofs.Ytamaoljjoghajaa
