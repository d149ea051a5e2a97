/- Logs between stores, in the laws' words. -/
import Derived.Test.YtejbfmnioomkbaaBetW
import Derived.Test.YtejbfmnioomkbaaLogL
import Derived.Test.YtejbfmnioomkbaaDrawR
namespace Go.Proofs.Ytejbfmnioomkbaa
open Go.RowKit
set_option linter.unusedVariables false
set_option maxRecDepth 100000
theorem small_bet {a b : List M.Item} (ha : Small a) (hb : Small b) : SmallE (M.LogBetween a b) := by
  unfold M.LogBetween
  split
  · rename_i h
    have h1 := (M.validStore_of h.1).1
    have h2 := (M.validStore_of h.2).1
    refine ⟨?_, fun x hx => ?_⟩
    · rw [List.length_append]
      have := M.dropsTo_len a b a.length
      have := M.putsTo_len a b b.length
      omega
    · rw [List.mem_append] at hx
      unfold M.dropsTo M.putsTo at hx
      rw [List.mem_map, List.mem_map] at hx
      rcases hx with ⟨y, hy, rfl⟩ | ⟨y, hy, rfl⟩
      · exact Nat.zero_le _
      · exact hb.2 y (List.mem_of_mem_take (List.mem_filter.1 hy).1)
  · exact SmallE.nil_
theorem lb_impl {w : World} {A B : Option Addr} {c d : Nat} {a b : List M.Item} (D : SeesI w A a) (E : SeesI w B b) : Calls Try.prog 9 #[.slice A a.length c, .slice B b.length d] w (GotE w (M.LogBetween a b)) :=
  (LogBetween_impl D E).mono fun _ _ h => gotE_own (small_bet D.2 E.2) h
end Go.Proofs.Ytejbfmnioomkbaa
