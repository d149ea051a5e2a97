/- The walk of the draw of bytes. -/
import Derived.Test.YtopapnbhnknpiaaDrawKW
import Derived.Test.YtopapnbhnknpiaaRowB
namespace Go.Proofs.Ytopapnbhnknpiaa
open Go.RowKit
set_option linter.unusedVariables false

theorem info_u8 : (Try.prog.info? 5).map (fun i => (i.zero, i.size, i.bytes)) = some (some (.int .u8 0), 1, 1) := by kernel_rfl

theorem one_cell_new {w : World} {t : TypeId} {x : Value} : ∀ (j : Nat) (u : Value), [x][j]? = some u → (w.alloc (.cells #[x] t)).cell? ((⟨w.heap.size, 0, none⟩ : Addr).add j) = some u := by
  intro j u hu
  match j, hu with
  | 0, hu =>
    simp at hu
    subst hu
    rw [show (⟨w.heap.size, 0, none⟩ : Addr).add 0 = ⟨w.heap.size, 0, none⟩ from by simp [Addr.add], cell_of_row _ _ _ #[x] t (0, 0) (heap_alloc_new w _)]
    rfl
theorem one_cells {x : Value} (h : x.oneCell' = true) : ∀ u ∈ [x], u.oneCell' = true := by
  intro u hu
  simp at hu
  subst hu
  exact h

/-- bytes were drawn -/
def BytesDrawn (w : World) (e : Ending) (w' : World) : Prop := ∃ (v : Value) (l : List Int), e = .returned v ∧ OwnInts .u8 5 w' w.heap.size v l ∧ l.length ≤ 201 ∧ (∀ x ∈ l, 0 ≤ x ∧ x ≤ 255) ∧ w.grownBy w' none

set_option maxHeartbeats 1000000 in
theorem drawCheckOf_any (w : World) (A : Option Addr) (c : Nat) (bs : List Int) (h2 : bs.length ≤ c) (hb : bs.length ≤ 1048576) (h3 : ∀ x ∈ bs, 0 ≤ x ∧ x ≤ 255) (h4 : Rd w 0 w.heap.size A (bs.map (.int .u8))) :
    Calls Try.prog 18 #[.slice A bs.length c] w (BytesDrawn w) := by
  have H2 := Lib.hid h2
  have HB := Lib.hid hb
  have H3 := Lib.hid h3
  have H4 := Lib.hid h4
  clear h2 hb h3 h4
  obtain ⟨i0, hi0, hz0, hz1, hz2⟩ := info_parts info_u8
  go_enter Try.func18, Try.ntmps18
  go_wp2_with fail
  refine (newReader_any _ A c bs H2.out HB.out H3.out H4.out).mono ?_
  rintro e w1 ⟨rfl, hr1, hg1⟩
  have HR1 := Lib.hid hr1
  have HG1 := Lib.hid hg1
  clear hr1 hg1
  go_wp2_with fail
  have HR2 := Lib.hid ((HR1.out.grown (World.grownBy_alloc _ (.cells #[] 5) _)).grown (World.grownBy_alloc _ (.cells #[.int .i64 3, .int .i64 8, .int .i64 1, .int .i64 0, .int .i64 200, .int .i64 201, .int .i64 20] 3) _))
  have HL := Lib.hid (HR1.out.grown (World.grownBy_alloc _ (.cells #[] 5) _)).lt
  refine (one_any _ _ 0 (.slice (some ⟨w1.heap.size + 1, 0, none⟩) 7 7) [3, 8, 1, 0, 200, 201, 20] HR2.out (by omega) (by simp) (by simp) (RdInts.lit_at .i64 (by simp) (by have := HL.out; simp at this; omega) (by simp) _ _ rfl rfl)).mono ?_
  rintro e w2 ⟨n, hn, rfl, hr3, hg3⟩
  have hn0 : 0 ≤ n := by simp at hn; omega
  have hn1 : n ≤ 201 := by simp at hn; omega
  have HR3 := Lib.hid hr3
  have HG3 := Lib.hid hg3
  have HO := Lib.hid ((((World.ownsRow_made w1 (base := w1.heap.size) (e := 5) (size := 1) #[] 0 (Nat.le_refl _) (by decide) rfl).alloc (.cells #[.int .i64 3, .int .i64 8, .int .i64 1, .int .i64 0, .int .i64 200, .int .i64 201, .int .i64 20] 3))).kept HG3.out (.inr (by simp [Value.ownBlock]; have := HR1.out.lt; omega)))
  have HG4 := Lib.hid (gb_new (gb_alloc (gb_alloc HG1.out _) _) HG3.out (by intro g e; injection e with e; omega))
  have HLT := Lib.hid HR1.out.lt
  have HSZ := Lib.hid (show w1.heap.size ≤ w2.heap.size by have := HG3.out.size; simp at this; omega)
  clear hr3 hg3 hn HG3
  clear HR1 HR2 HL
  generalize hB : w1.heap.size = B at *
  have HBB := Lib.hid hB
  clear hB
  go_wp2_with fail
  go_loopw [4, 5] (fun v i wr => ∃ (m p : Nat) (l : List Int), m ≤ 201 ∧ i = .int .i64 m ∧ p + m ≤ 300 ∧ Rdr wr w.heap.size p ∧ wr.ownsRow B 5 1 v l.length (l.map (.int .u8)) ∧ l.length + m ≤ 201 ∧ (∀ x ∈ l, 0 ≤ x ∧ x ≤ 255) ∧ w.grownBy wr none ∧ B ≤ wr.heap.size) (fun _ i _ => (intOf i).toNat)
  case atStart => exact ⟨n.toNat, 1, [], by omega, by rw [Int.toNat_of_nonneg hn0], by omega, HR3.out, HO.out, by simp; omega, by simp, HG4.out, HSZ.out⟩
  case round =>
    obtain ⟨m, p, l, hm, rfl, hpm, hrd, hown, hlm, hby, hgr, hsz⟩ := hrel
    have hp2 : p ≤ 300 := by omega
    have R1 := Lib.hid hrd
    have R2 := Lib.hid hown
    have R3 := Lib.hid hby
    have R4 := Lib.hid hgr
    have R5 := Lib.hid hsz
    have R6 := Lib.hid hlm
    have R7 := Lib.hid hpm
    clear hrd hown hby hgr hsz hlm hpm HR3 HO HG4 HSZ
    by_cases hm0 : 0 < m
    · go_wp2_with fail
      refine (pick_any _ _ p 256 R1.out (by omega) (by omega) (by omega)).mono ?_
      rintro e w3 ⟨x, hx0, hx1, rfl, hr5, hg5⟩
      have S1 := Lib.hid hr5
      have S2 := Lib.hid hg5
      have S3 := Lib.hid (R2.out.kept hg5 (.inr (by
        intro e
        have h1 := (R2.out.lt _ e).1
        have h2 := HLT.out
        omega)))
      have S4 := Lib.hid (show B ≤ w3.heap.size by have := hg5.size; have := R5.out; omega)
      clear hr5 hg5
      have hlen := R6.out
      go_wp2_with (at_builtin; refine wpList_append_own _ rfl (.tmp 16) (.tmp 20) 24 rfl B 5 i0 (.int .u8 0) 1 1 Try.underlying24 hi0 hz0 hz1 hz2 rfl (by decide) _ l.length (l.map (.int .u8)) rfl (S3.out.alloc _) ⟨w3.heap.size, 0, none⟩ 1 1 [.int .u8 x] rfl rfl one_cell_new (one_cells rfl) (by unfold maxLen; omega) (by omega) (by have := S4.out; simp; omega) ?_; intro v' w4 hown' hgrow _; have T1 := Lib.hid hown'; have T2 := Lib.hid hgrow; clear hown' hgrow)
      go_roundw
      case rel =>
        have hO := T1.out
        rw [show l.map (Value.int IntKind.u8) ++ [Value.int IntKind.u8 x] = (l ++ [x]).map (Value.int IntKind.u8) from by simp] at hO
        have hlt := HLT.out
        have hrow : ∀ k, u4.ownBlock = some k → B ≤ k := fun k hk => (R2.out.lt k hk).1
        refine ⟨m - 1, p + 1, l ++ [x], by omega, by go_num, by have := R7.out; omega, ?_, by simpa using hO, by simp; omega, ?_, ?_, ?_⟩
        · exact ((S1.out.grown (World.grownBy_alloc _ _ none))).row T2.out (fun k hk => by have := hrow k hk; omega)
        · intro y hy
          rw [List.mem_append] at hy
          rcases hy with hy | hy
          · exact R3.out y hy
          · simp at hy
            omega
        · have g1 : w.grownBy w3 none := gb_new R4.out S2.out (fun g e => by injection e with e; omega)
          exact gb_new (gb_alloc g1 _) T2.out (fun k hk => by have := hrow k hk; omega)
        · have h1 := T2.out.size
          have h2 := S4.out
          simp at h1
          omega
      case measure => simp [intOf]; omega
    · obtain rfl : m = 0 := by omega
      go_wp2_with fail
      go_ret
      exact ⟨u4, l, rfl, (show OwnInts .u8 5 wr B u4 l from R2.out).wide (by have := HLT.out; omega), by have := R6.out; omega, R3.out, R4.out⟩

end Go.Proofs.Ytopapnbhnknpiaa
