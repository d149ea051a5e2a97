/- The walks of the draws of keys and shards. -/
import Derived.Test.YtopapnbhnknpiaaReadW
namespace Go.Proofs.Ytopapnbhnknpiaa
open Go.RowKit
set_option linter.unusedVariables false

/-- one of the numbers of a list was chosen -/
def Chosen (w : World) (g p : Nat) (l : List Int) (e : Ending) (w' : World) : Prop := ∃ v : Int, v ∈ l ∧ e = .returned (.int .i64 v) ∧ Rdr w' g (p + 1) ∧ w.grownBy w' (some g)

theorem one_walk (w : World) (g p L b o c : Nat) (hr : Rdr w g p) (hp : p ≤ 1000000) (h1 : 1 ≤ L) (h2 : L ≤ 1000000) (hb : g < b) (V : Nat → Int)
    (hc : ∀ w', w.grownBy w' (some g) → ∀ k, k < L → w'.cell? ⟨b, o + k, none⟩ = some (.int .i64 (V k))) :
    Calls Try.prog 26 #[.pointer (some ⟨g, 0, none⟩), .slice (some ⟨b, o, none⟩) L c] w fun e w' => ∃ k, k < L ∧ e = .returned (.int .i64 (V k)) ∧ Rdr w' g (p + 1) ∧ w.grownBy w' (some g) := by
  have HC := Lib.hid hc
  have HR := Lib.hid hr
  clear hc hr
  go_enter Try.func26, Try.ntmps26
  go_wp2_with (go_at_call 27; refine (pick_any _ g p (L : Int) HR.out hp (by omega) (by omega)).mono ?_; rintro e w1 ⟨v, hv0, hv1, rfl, hr1, hg1⟩; have hcell := HC.out w1 hg1 v.toNat (by omega); have HG := Lib.hid hg1; have HR1 := Lib.hid hr1; clear hg1 hr1)
  go_ret
  exact ⟨v.toNat, by omega, rfl, HR1.out, HG.out⟩

theorem one_any (w : World) (g p : Nat) (v : Value) (l : List Int) (hr : Rdr w g p) (hp : p ≤ 1000000) (h1 : l ≠ []) (h2 : l.length ≤ 1000000) (hv : RdInts .i64 w (g + 1) w.heap.size v l) :
    Calls Try.prog 26 #[.pointer (some ⟨g, 0, none⟩), v] w (Chosen w g p l) := by
  obtain ⟨A, c, rfl, hc, hrd⟩ := hv
  obtain ⟨b, o, rfl, hb1, hb2, hcell⟩ := hrd (by simpa using h1)
  have hpos : 0 < l.length := List.length_pos_iff.2 h1
  refine (one_walk w g p l.length b o c hr hp hpos h2 hb1 (fun k => l.getD k 0) (fun w' hg k hk => ?_)).mono ?_
  · rw [(Agree.of_grown_some hg).cell (p := ⟨b, o + k, none⟩) hb1 hb2, hcell k (.int .i64 (l.getD k 0)) (by simp [hk])]
  · rintro e w' ⟨k, hk, rfl, h3, h4⟩
    refine ⟨_, ?_, rfl, h3, h4⟩
    show l.getD k 0 ∈ l
    have hg : l.getD k 0 = l[k] := by simp [hk]
    rw [hg]
    exact List.getElem_mem hk

def ShardsDrawn (w : World) (g p : Nat) (e : Ending) (w' : World) : Prop := ∃ v : Int, 0 ≤ v ∧ v ≤ 9 ∧ e = .returned (.int .i64 v) ∧ Rdr w' g (p + 1) ∧ w.grownBy w' (some g)
theorem someShards_any (w : World) (g p : Nat) (hr : Rdr w g p) (hp : p ≤ 1000000) :
    Calls Try.prog 28 #[.pointer (some ⟨g, 0, none⟩)] w (ShardsDrawn w g p) := by
  have HR := Lib.hid hr
  have hl := hr.lt
  clear hr
  go_enter Try.func28, Try.ntmps28
  go_wp2_with (go_at_call 26; refine (one_any _ g p _ [1, 2, 3, 4, 8, 0, 9, 5] (HR.out.grown (World.grownBy_alloc _ _ _)) hp (by simp) (by simp) ((RdInts.lit .i64 w hl _ _ rfl).wide (by omega) (by simp))).mono ?_; rintro e w1 ⟨v, hv, rfl, hr1, hg1⟩; have HV := Lib.hid hv; have HG := Lib.hid hg1; have HR1 := Lib.hid hr1; clear hv hg1 hr1)
  go_ret
  refine ⟨v, ?_, ?_, rfl, HR1.out, gb_new (World.grownBy_alloc w _ _) HG.out (by simp)⟩
  · have := HV.out; simp at this; omega
  · have := HV.out; simp at this; omega

def PairDrawn (w : World) (e : Ending) (w' : World) : Prop := ∃ k s : Int, 0 ≤ k ∧ k ≤ 100 ∧ 0 ≤ s ∧ s ≤ 9 ∧ e = .returned (.tuple #[.int .i64 k, .int .i64 s]) ∧ w.grownBy w' none
theorem drawShardOf_any (w : World) (A : Option Addr) (c : Nat) (bs : List Int) (h2 : bs.length ≤ c) (hb : bs.length ≤ 1048576) (h3 : ∀ x ∈ bs, 0 ≤ x ∧ x ≤ 255) (h4 : Rd w 0 w.heap.size A (bs.map (.int .u8))) :
    Calls Try.prog 17 #[.slice A bs.length c] w (PairDrawn w) := by
  have H2 := Lib.hid h2
  have HB := Lib.hid hb
  have H3 := Lib.hid h3
  have H4 := Lib.hid h4
  clear h2 hb h3 h4
  go_enter Try.func17, Try.ntmps17
  go_wp2_with fail
  refine (newReader_any _ A c bs H2.out HB.out H3.out H4.out).mono ?_
  rintro e w1 ⟨rfl, hr1, hg1⟩
  have HR1 := Lib.hid hr1
  have HG1 := Lib.hid hg1
  clear hr1 hg1
  go_wp2_with fail
  refine (pick_any _ _ 0 99 HR1.out (by omega) (by omega) (by omega)).mono ?_
  rintro e w2 ⟨x, hx0, hx1, rfl, hr2, hg2⟩
  have HR2 := Lib.hid hr2
  have HG2 := Lib.hid hg2
  clear hr2 hg2
  go_wp2_with fail
  refine (one_any _ _ 1 _ [1, 5, 99, 100, 0, 1 + x] (HR2.out.grown (World.grownBy_alloc _ _ _)) (by omega) (by simp) (by simp) ((RdInts.lit .i64 w2 HR2.out.lt _ _ rfl).wide (by omega) (by simp))).mono ?_
  rintro e w3 ⟨v, hv, rfl, hr3, hg3⟩
  have hv0 : 0 ≤ v := by simp at hv; omega
  have hv1 : v ≤ 100 := by simp at hv; omega
  have HR3 := Lib.hid hr3
  have HG3 := Lib.hid hg3
  clear hr3 hg3 hv
  go_wp2_with fail
  refine (someShards_any _ _ _ HR3.out (by omega)).mono ?_
  rintro e w4 ⟨s, hs0, hs1, rfl, hr4, hg4⟩
  have HR4 := Lib.hid hr4
  have HG4 := Lib.hid hg4
  clear hr4 hg4
  go_wp2_with fail
  go_ret2
  refine ⟨v, s, hv0, hv1, hs0, hs1, rfl, ?_⟩
  have a1 := gb_new HG1.out HG2.out (by intro g e; injection e with e; omega)
  have a2 := gb_new (gb_alloc a1 _) HG3.out (by intro g e; injection e with e; omega)
  exact gb_new a2 HG4.out (by intro g e; injection e with e; omega)

end Go.Proofs.Ytopapnbhnknpiaa
