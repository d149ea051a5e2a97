/- The walks of the draws of keys and shards. -/
import Derived.Test.YtibbpbbgmgdpdaaGreatDoorReadW
namespace Go.Proofs.YtibbpbbgmgdpdaaGreatDoor
open Go.RowKit
set_option linter.unusedVariables false
set_option maxRecDepth 100000

/-- one of the numbers of a list was chosen -/
def Chosen (w : World) (g p : Nat) (l : List Int) (e : Ending) (w' : World) : Prop := ∃ v : Int, v ∈ l ∧ e = .returned (.int .i64 v) ∧ Rdr w' g (p + 1) ∧ w.grownBy w' (some g)

theorem one_walk (w : World) (g p L b o c : Nat) (hr : Rdr w g p) (hp : p ≤ 1000000) (h1 : 1 ≤ L) (h2 : L ≤ 1000000) (hb : g < b) (V : Nat → Int)
    (hc : ∀ w', w.grownBy w' (some g) → ∀ k, k < L → w'.cell? ⟨b, o + k, none⟩ = some (.int .i64 (V k))) :
    Calls Tryz.prog 16 #[.pointer (some ⟨g, 0, none⟩), .slice (some ⟨b, o, none⟩) L c] w fun e w' => ∃ k, k < L ∧ e = .returned (.int .i64 (V k)) ∧ Rdr w' g (p + 1) ∧ w.grownBy w' (some g) := by
  have HC := Lib.hid hc
  have HR := Lib.hid hr
  clear hc hr
  go_enter Tryz.func16, Tryz.ntmps16
  go_wp2_with (go_at_call 17; refine (pick_any _ g p (L : Int) HR.out hp (by omega) (by omega)).mono ?_; rintro e w1 ⟨v, hv0, hv1, rfl, hr1, hg1⟩; have hcell := HC.out w1 hg1 v.toNat (by omega); have HG := Lib.hid hg1; have HR1 := Lib.hid hr1; clear hg1 hr1)
  go_ret
  exact ⟨v.toNat, by omega, rfl, HR1.out, HG.out⟩

theorem one_any (w : World) (g p : Nat) (v : Value) (l : List Int) (hr : Rdr w g p) (hp : p ≤ 1000000) (h1 : l ≠ []) (h2 : l.length ≤ 1000000) (hv : RdInts .i64 w (g + 1) w.heap.size v l) :
    Calls Tryz.prog 16 #[.pointer (some ⟨g, 0, none⟩), v] w (Chosen w g p l) := by
  obtain ⟨A, c, rfl, hc, hrd⟩ := hv
  obtain ⟨b, o, rfl, hb1, hb2, hcell⟩ := hrd (by simpa using h1)
  have hpos : 0 < l.length := List.length_pos_iff.2 h1
  refine (one_walk w g p l.length b o c hr hp hpos h2 hb1 (fun k => l.getD k 0) (fun w' hg k hk => ?_)).mono ?_
  · rw [(Agree.of_grown_some hg).cell (p := ⟨b, o + k, none⟩) hb1 hb2, hcell k (.int .i64 (l.getD k 0)) (by simp [hk])]
  · rintro e w' ⟨k, hk, rfl, h3, h4⟩
    refine ⟨_, ?_, rfl, h3, h4⟩
    show l.getD k 0 ∈ l
    have hg : l.getD k 0 = l[k] := by simp [hk]
    rw [hg]
    exact List.getElem_mem hk

def ShardsDrawn (w : World) (g p : Nat) (e : Ending) (w' : World) : Prop := ∃ v : Int, 0 ≤ v ∧ v ≤ 9 ∧ e = .returned (.int .i64 v) ∧ Rdr w' g (p + 1) ∧ w.grownBy w' (some g)
end Go.Proofs.YtibbpbbgmgdpdaaGreatDoor
