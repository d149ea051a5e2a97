/- Changed keys, in the laws' words. -/
import Derived.Test.YtejbfmnioomkbaaHisK
import Derived.Test.YtejbfmnioomkbaaChgW
import Derived.Test.YtejbfmnioomkbaaDrawY
namespace Go.Proofs.Ytejbfmnioomkbaa
open Go.RowKit
set_option linter.unusedVariables false
set_option linter.unusedSimpArgs false
set_option maxRecDepth 100000

theorem gotN_ints {w w' : World} {L : List Int} {e : Ending} (hl : L.length ≤ 1048576) (h : IntsMade w L e w') : GotN .i64 w L e w' := by
  obtain ⟨A, c, rfl, hc, ho, hg⟩ := h
  obtain ⟨A', c', e, _, hr⟩ := OwnInts.rd ho
  injection e with e1
  subst e1
  exact ⟨A, c, rfl, hc, ⟨hr.wide (Nat.zero_le _) (Nat.le_refl _), hl⟩, hg⟩
theorem ck_len (h : M.Hist) (a b : Int) : (M.ChangedKeys h a b).length ≤ 1048576 := by
  unfold M.ChangedKeys
  split
  · have := List.length_filter_le (fun k => M.differ (M.get (M.storeAt h a) k) (M.get (M.storeAt h b) k)) M.keys99
    rw [keys99_len] at this
    unfold M.changed
    omega
  · exact Nat.zero_le _
theorem ck_impl {w : World} {A B : Option Addr} {c d : Nat} {h : M.Hist} {a b : Int} (D : SeesH w A B h) (hd : h.times.length ≤ d) : Calls Try.prog 6 #[.agg #[.slice A h.log.length c, .slice B h.times.length d], .int .i64 a, .int .i64 b] w (GotN .i64 w (M.ChangedKeys h a b)) :=
  (ChangedKeys_impl D hd).mono fun _ _ x => gotN_ints (ck_len h a b) x
theorem ck_spec {w : World} {A B : Option Addr} {c d : Nat} {h : M.Hist} {a b : Int} (D : SeesH w A B h) (hc : h.log.length ≤ c) : Calls Try.prog 8 #[.agg #[.slice A h.log.length c, .slice B h.times.length d], .int .i64 a, .int .i64 b] w (GotN .i64 w (M.ChangedKeys h a b)) :=
  (ChangedKeys_spec D hc).mono fun _ _ x => gotN_ints (ck_len h a b) x
theorem ein_same {w : World} {A B : Option Addr} {c d : Nat} {l : List Int} (D : SeesN .i64 w A l) (E : SeesN .i64 w B l) : Calls Try.prog 7 #[.slice A l.length c, .slice B l.length d] w fun e w' => e = .returned (.bool true) ∧ w.grownBy w' none := by
  have e := ei_any (c := c) (d := d) D E
  rwa [decide_eq_true rfl] at e
theorem ck_of {h : M.Hist} {a b : Int} (hv : M.validHist h = true) (ha : 0 ≤ a ∧ a ≤ 1000) (hb : 0 ≤ b ∧ b ≤ 1000) : M.ChangedKeys h a b = M.changed (M.storeAt h a) (M.storeAt h b) := by
  have h1 : M.inR a 0 1000 = true := by simp [M.inR, ha]
  have h2 : M.inR b 0 1000 = true := by simp [M.inR, hb]
  unfold M.ChangedKeys
  exact if_pos ⟨hv, h1, h2⟩
theorem sa_of {h : M.Hist} {a : Int} (hv : M.validHist h = true) (ha : 0 ≤ a ∧ a ≤ 1000) : M.StoreAt h a = M.storeAt h a := by
  have h1 : M.inR a 0 1000 = true := by simp [M.inR, ha]
  unfold M.StoreAt
  exact if_pos ⟨hv, h1⟩
theorem changed_fill {S : List M.Item} (hs : M.validStore S = true) : (M.changed [] S).length = S.length ∧ ∀ x ∈ S, x.key ∈ M.changed [] S := by
  refine ⟨?_, fun x hx => ?_⟩
  · rw [← M.between_len M.valid_nil hs, M.between_fill hs, List.length_map]
  · exact M.between_mem (e := M.putOf x) M.valid_nil hs (by rw [M.between_fill hs]; exact List.mem_map_of_mem hx)
end Go.Proofs.Ytejbfmnioomkbaa
