/- The plain laws of sessions, and the runs that the laws ask for. The plain laws of sessions: questions, puts and drops, items near. No program in sight. -/
import Derived.Test.YtibbpbbgmgdpdaaGreatDoorSesN
import Derived.Test.YtibbpbbgmgdpdaaGreatDoorDrawQ
import Derived.Test.YtibbpbbgmgdpdaaGreatDoorSes
namespace Go.Proofs.YtibbpbbgmgdpdaaGreatDoor
open Go.RowKit
set_option linter.unusedVariables false
set_option linter.unusedSimpArgs false
set_option maxRecDepth 100000
namespace M
def kindL : List (List UInt8) := [[112, 117, 116, 32, 52, 32, 51, 44, 45, 52, 44, 48, 44, 48, 32, 48], [110, 101, 97, 114, 32, 48, 44, 48, 44, 48, 44, 48, 32, 49], [107, 105, 110, 100, 32, 50], [110, 101, 97, 114, 32, 48, 44, 48, 44, 48, 44, 48, 32, 49], [107, 105, 110, 100, 32, 51], [110, 101, 97, 114, 32, 48, 44, 48, 44, 48, 44, 48, 32, 49], [107, 105, 110, 100, 32, 52], [110, 101, 97, 114, 32, 48, 44, 48, 44, 48, 44, 48, 32, 49]]
def kindT : List UInt8 := [111, 107, 10, 52, 58, 55, 10, 111, 107, 10, 52, 58, 52, 10, 111, 107, 10, 52, 58, 50, 53, 10, 111, 107, 10, 52, 58, 50, 10]
theorem kind_session : session kindL = kindT := by decide +kernel
/-- lines behind lines -/
theorem session_more (ls es : List (List UInt8)) (h : ls.length + es.length ≤ 20) : session (ls ++ es) = session ls ++ texts (states start ls) es := by
  unfold session
  rw [List.take_of_length_le (by rw [List.length_append]; omega), List.take_of_length_le (by omega), texts_append]
theorem session_take (ls : List (List UInt8)) (n : Nat) : ∃ r, session ls = session (ls.take n) ++ r := by
  refine ⟨texts (states start ((ls.take 20).take n)) ((ls.take 20).drop n), ?_⟩
  unfold session
  rw [List.take_take, Nat.min_comm 20 n, ← List.take_take, ← texts_append, List.take_append_drop]
end M
theorem run_at {w : World} {A : Option Addr} {n c : Nat} (ls : List (List UInt8)) (hn : n = ls.length) (hl : LibOk w) (D : SeesT w A ls) (hx : ∀ x ∈ ls, x.length ≤ 1048576) (hc : n ≤ c) :
    Calls Tryz.prog 10 #[.slice A n c] w fun e w' => e = .returned (.string (tb (M.session ls))) ∧ w.grownBy w' none := by
  subst hn
  exact RunSession_impl (c := c) hl D hx hc
end Go.Proofs.YtibbpbbgmgdpdaaGreatDoor

namespace Go.Proofs.YtibbpbbgmgdpdaaGreatDoor
set_option linter.unusedVariables false
set_option linter.unusedSimpArgs false
set_option maxRecDepth 100000
namespace M
def lDrop : List UInt8 := [100, 114, 111, 112, 32, 55, 55]
def lPut : List UInt8 := [112, 117, 116, 32, 55, 55, 32, 49, 44, 49, 44, 49, 44, 49, 32, 51]
def lNear : List UInt8 := [110, 101, 97, 114, 32, 48, 44, 48, 44, 48, 44, 48, 32, 51]
def lPut1 : List UInt8 := [112, 117, 116, 32, 49, 32, 57, 44, 45, 57, 44, 57, 44, 45, 57, 32, 48]
def lNear1 : List UInt8 := [110, 101, 97, 114, 32, 57, 44, 45, 57, 44, 57, 44, 45, 57, 32, 49]
def noL : List UInt8 := [110, 111, 10]
def okL : List UInt8 := [111, 107, 10]
def foundL : List UInt8 := [111, 107, 10, 49, 58, 48, 10]
theorem step_of (S : Ses) {line : List UInt8} {ws : List (List UInt8)} (h : cut 32 line = ws) : step S line =
    (if wd ws 0 = tPut ∧ ws.length = 4 then putS S (wd ws 1) (wd ws 2) (wd ws 3)
    else if wd ws 0 = tDrop ∧ ws.length = 2 then dropS S (wd ws 1)
    else if wd ws 0 = tNear ∧ ws.length = 3 then (S, nearT S (wd ws 1) (wd ws 2))
    else if wd ws 0 = tKind ∧ ws.length = 2 then kindS S (wd ws 1)
    else if line = tPair then (S, pairT S)
    else if line = tCount then (S, Lib.itoa S.list.length)
    else (S, tWhat)) := by
  subst h
  rfl
theorem step_count (S : Ses) : step S tCount = (S, Lib.itoa S.list.length) := by
  rw [step_of S (ws := [tCount]) (by decide), if_neg (by decide), if_neg (by decide), if_neg (by decide), if_neg (by decide), if_neg (by decide), if_pos rfl]
theorem step_pair (S : Ses) : step S tPair = (S, pairT S) := by
  rw [step_of S (ws := [tPair]) (by decide), if_neg (by decide), if_neg (by decide), if_neg (by decide), if_neg (by decide), if_pos rfl]
theorem step_drop (S : Ses) : step S lDrop = dropS S [55, 55] := by
  rw [step_of S (ws := [tDrop, [55, 55]]) (by decide), if_neg (by decide), if_pos (by decide)]
  rfl
theorem step_put (S : Ses) : step S lPut = putS S [55, 55] [49, 44, 49, 44, 49, 44, 49] [51] := by
  rw [step_of S (ws := [tPut, [55, 55], [49, 44, 49, 44, 49, 44, 49], [51]]) (by decide), if_pos (by decide)]
  rfl
theorem step_put1 (S : Ses) : step S lPut1 = putS S [49] [57, 44, 45, 57, 44, 57, 44, 45, 57] [48] := by
  rw [step_of S (ws := [tPut, [49], [57, 44, 45, 57, 44, 57, 44, 45, 57], [48]]) (by decide), if_pos (by decide)]
  rfl
theorem step_near (S : Ses) : step S lNear = (S, nearT S [48, 44, 48, 44, 48, 44, 48] [51]) := by
  rw [step_of S (ws := [tNear, [48, 44, 48, 44, 48, 44, 48], [51]]) (by decide), if_neg (by decide), if_neg (by decide), if_pos (by decide)]
  rfl
theorem step_near1 (S : Ses) : step S lNear1 = (S, nearT S [57, 44, 45, 57, 44, 57, 44, 45, 57] [49]) := by
  rw [step_of S (ws := [tNear, [57, 44, 45, 57, 44, 57, 44, 45, 57], [49]]) (by decide), if_neg (by decide), if_neg (by decide), if_pos (by decide)]
  rfl
theorem n77 : numOr [55, 55] = 77 := by decide +kernel
theorem n1 : numOr [49] = 1 := by decide +kernel
theorem n0 : numOr [48] = 0 := by decide +kernel
theorem v9 : vec [57, 44, 45, 57, 44, 57, 44, 45, 57] = [9, -9, 9, -9] := by decide +kernel

theorem texts_count (S : Ses) : texts S [tCount] = Lib.itoa S.list.length ++ [10] := by rw [texts_one, step_count]
/-- questions change nothing -/
theorem questions (ls : List (List UInt8)) (h : ls.length + 3 ≤ 20) : ∃ x y0 : List UInt8, session (ls ++ [tCount]) = session ls ++ x ∧ session (ls ++ [tPair, lNear, tCount]) = session ls ++ (y0 ++ x) ∧ 0 < y0.length := by
  refine ⟨texts (states start ls) [tCount], texts (states start ls) [tPair, lNear], session_more _ _ (by simp; omega), ?_, ?_⟩
  · rw [session_more _ _ (by simp; omega)]
    rw [show [tPair, lNear, tCount] = [tPair, lNear] ++ [tCount] from rfl, texts_append]
    have e : states (states start ls) [tPair, lNear] = states start ls := by
      show (step (step _ tPair).1 lNear).1 = _
      rw [step_pair, step_near]
    rw [e]
  · rw [texts_cons]
    simp
    omega

theorem filter_lt_gt {k : Int} : ∀ L : List Item, (∀ y ∈ L, y.key ≠ k) → ((L.filter fun y => decide (y.key < k)).filter fun y => decide (y.key ≠ k)).length + ((L.filter fun y => decide (k < y.key)).filter fun y => decide (y.key ≠ k)).length = L.length
  | [], _ => rfl
  | y :: r, h => by
    have ih := filter_lt_gt r (fun z hz => h z (List.mem_cons_of_mem _ hz))
    have hy := h y List.mem_cons_self
    rcases Int.lt_or_gt_of_ne hy with h1 | h1
    · have h2 : ¬ k < y.key := by omega
      simp only [List.filter_cons, h1, h2, decide_true, decide_false, if_true, ne_eq, hy, not_false_eq_true, List.length_cons, Bool.false_eq_true, if_false] at ih ⊢
      omega
    · have h2 : ¬ y.key < k := by omega
      simp only [List.filter_cons, h1, h2, decide_true, decide_false, if_true, ne_eq, hy, not_false_eq_true, List.length_cons, Bool.false_eq_true, if_false] at ih ⊢
      omega
theorem drop_put_len {L : List Item} {x : Item} (h : ∀ y ∈ L, y.key ≠ x.key) : (dropKey (put L x) x.key).length = L.length := by
  unfold dropKey put
  rw [List.filter_append, List.filter_append, List.length_append, List.length_append]
  have e : ([x].filter fun y => decide (y.key ≠ x.key)) = [] := by simp
  rw [e, List.length_nil, Nat.add_zero]
  exact filter_lt_gt L h
theorem keyAt_none {L : List Item} {k : Int} (h : ¬ 0 ≤ keyAt L k) : ∀ y ∈ L, y.key ≠ k := by
  rcases keyAt_cases L k with ⟨_, e⟩ | ⟨i, _, e, _⟩
  · intro y hy hk
    have := List.find?_eq_none.1 e y hy
    simp [hk] at this
  · omega
theorem keyAt_put (L : List Item) (x : Item) : 0 ≤ keyAt (put L x) x.key := by
  rcases keyAt_cases (put L x) x.key with ⟨_, e⟩ | ⟨i, _, e, _⟩
  · have := List.find?_eq_none.1 e x (by simp [put])
    simp at this
  · omega
/-- what is put can be dropped -/
theorem putdrop (ls : List (List UInt8)) (h : ls.length + 3 ≤ 20) : ∃ d x y : List UInt8, d.length = 3 ∧ session (ls ++ [lDrop]) = session ls ++ d ∧ session (ls ++ [tCount]) = session ls ++ x ∧ session (ls ++ [lPut, lDrop, tCount]) = session ls ++ y ∧ 3 ≤ y.length ∧
    (d = noL → y.take 3 = noL ∨ ∃ y0 : List UInt8, 0 < y0.length ∧ y = y0 ++ x) := by
  have hS := good_states good_start ls
  refine ⟨texts (states start ls) [lDrop], texts (states start ls) [tCount], texts (states start ls) [lPut, lDrop, tCount], ?_, session_more _ _ (by simp; omega), session_more _ _ (by simp; omega), session_more _ _ (by simp; omega), ?_⟩
  all_goals generalize states start ls = S at *
  · rw [texts_one, step_drop]
    unfold dropS
    cases DropItem S.list (numOr [55, 55]) <;> rfl
  · rw [texts_cons, step_put, texts_one, step_drop]
    unfold putS
    rw [n77]
    cases hp : PutItem S.list ⟨77, vec [49, 44, 49, 44, 49, 44, 49], numOr [51]⟩ with
    | none => exact ⟨by simp [tNo], fun _ => .inl rfl⟩
    | some L =>
      refine ⟨by simp [tOk], fun hd => .inr ?_⟩
      unfold PutItem at hp
      split at hp
      case isFalse => cases hp
      rename_i hv
      injection hp with hp
      subst hp
      have hno : ∀ y ∈ S.list, y.key ≠ 77 := by
        refine keyAt_none fun hk => ?_
        unfold dropS DropItem at hd
        rw [n77, if_pos ⟨hS.1, hk⟩] at hd
        exact absurd (show tOk ++ [10] = noL from hd) (by decide)
      have hd2 : DropItem (put S.list ⟨77, vec [49, 44, 49, 44, 49, 44, 49], numOr [51]⟩) 77 = some (dropKey (put S.list ⟨77, vec [49, 44, 49, 44, 49, 44, 49], numOr [51]⟩) 77) := by
        unfold DropItem
        rw [if_pos ⟨hv.2.2, keyAt_put S.list ⟨77, vec [49, 44, 49, 44, 49, 44, 49], numOr [51]⟩⟩]
      have hlen := drop_put_len (L := S.list) (x := ⟨77, vec [49, 44, 49, 44, 49, 44, 49], numOr [51]⟩) hno
      have e3 : step ⟨put S.list ⟨77, vec [49, 44, 49, 44, 49, 44, 49], numOr [51]⟩, S.kind⟩ lDrop = (⟨dropKey (put S.list ⟨77, vec [49, 44, 49, 44, 49, 44, 49], numOr [51]⟩) 77, S.kind⟩, tOk) := by
        rw [step_drop]
        unfold dropS
        rw [n77, hd2]
      refine ⟨okL ++ okL, by decide, ?_⟩
      show tOk ++ 10 :: texts ⟨put S.list ⟨77, vec [49, 44, 49, 44, 49, 44, 49], numOr [51]⟩, S.kind⟩ [lDrop, tCount] = _
      rw [texts_cons, e3, texts_count, texts_count]
      show _ = (okL ++ okL) ++ (Lib.itoa S.list.length ++ [10])
      rw [show (dropKey (put S.list ⟨77, vec [49, 44, 49, 44, 49, 44, 49], numOr [51]⟩) 77).length = S.list.length from hlen]
      rfl

theorem sort_head {l : List Hit} {h : Hit} (hm : h ∈ l) (hmin : ∀ z ∈ l, hlt z h = false) : (sortH l).take 1 = [h] := by
  have hp := sortH_perm l
  have hw := sortH_ws l
  have hm' := hp.mem_iff.2 hm
  cases e : sortH l with
  | nil => rw [e] at hm'; cases hm'
  | cons a t =>
    rw [e] at hm' hw hp
    have ha := hmin a (hp.mem_iff.1 List.mem_cons_self)
    rcases List.mem_cons.1 hm' with rfl | ht
    · rfl
    · have := (List.pairwise_cons.1 hw).1 h ht
      rw [hle_anti this ha]
      rfl
theorem dist_here {kind : Int} (h0 : 1 ≤ kind) (h1 : kind ≤ 4) : dist kind [9, -9, 9, -9] [9, -9, 9, -9] = 0 := by
  have : kind = 1 ∨ kind = 2 ∨ kind = 3 ∨ kind = 4 := by omega
  rcases this with rfl | rfl | rfl | rfl <;> decide +kernel
/-- items are found where they are -/
theorem nearhere (ls : List (List UInt8)) (h : ls.length + 2 ≤ 20) : ∃ y : List UInt8, session (ls ++ [lPut1, lNear1]) = session ls ++ y ∧ 3 ≤ y.length ∧ (y = foundL ∨ y.take 3 = noL) := by
  have hS := good_states good_start ls
  refine ⟨texts (states start ls) [lPut1, lNear1], session_more _ _ (by simp; omega), ?_⟩
  generalize states start ls = S at *
  rw [texts_cons, step_put1]
  unfold putS
  rw [n1, n0, v9]
  cases hp : PutItem S.list ⟨1, [9, -9, 9, -9], 0⟩ with
  | none => exact ⟨by simp [tNo], .inr rfl⟩
  | some L =>
    unfold PutItem at hp
    split at hp
    case isFalse => cases hp
    rename_i hv
    injection hp with hp
    subst hp
    refine ⟨by simp [tOk], .inl ?_⟩
    show tOk ++ 10 :: texts ⟨put S.list ⟨1, [9, -9, 9, -9], 0⟩, S.kind⟩ [lNear1] = _
    have hn : nearT ⟨put S.list ⟨1, [9, -9, 9, -9], 0⟩, S.kind⟩ [57, 44, 45, 57, 44, 57, 44, 45, 57] [49] = [49, 58, 48] := by
      unfold nearT
      rw [v9, n1, if_pos ⟨by decide, by decide⟩]
      have hd := dist_here hS.2.1 hS.2.2
      have hs : nearest (put S.list ⟨1, [9, -9, 9, -9], 0⟩) S.kind [9, -9, 9, -9] (1 : Int).toNat = [⟨1, 0⟩] := by
        refine sort_head ?_ ?_
        · refine List.mem_map.2 ⟨⟨1, [9, -9, 9, -9], 0⟩, by simp [put], ?_⟩
          unfold hitOf
          rw [hd]
        · intro z hz
          obtain ⟨y, hy, rfl⟩ := List.mem_map.1 hz
          have hvi := (validStore_of hv.2.2).2.1 y hy
          unfold validItem at hvi
          simp only [Bool.and_eq_true] at hvi
          have hk := inR_true hvi.1.1
          have hdd := (dist_rng (kind := S.kind) hvi.1.2 (show isVec [9, -9, 9, -9] = true by decide)).1
          rw [hlt_not]
          show 0 < dist S.kind y.pos [9, -9, 9, -9] ∨ 0 = dist S.kind y.pos [9, -9, 9, -9] ∧ 1 ≤ y.key
          omega
      show hitsT (nearest (put S.list ⟨1, [9, -9, 9, -9], 0⟩) S.kind [9, -9, 9, -9] (1 : Int).toNat) = _
      rw [hs]
      decide +kernel
    rw [texts_one, step_near1]
    show tOk ++ 10 :: (nearT ⟨put S.list ⟨1, [9, -9, 9, -9], 0⟩, S.kind⟩ [57, 44, 45, 57, 44, 57, 44, 45, 57] [49] ++ [10]) = _
    rw [hn]
    rfl
end M
open Go.RowKit
/-- the cells of a literal of texts -/
theorem lit_cells (w : World) (t : TypeId) (L : List (List UInt8)) {cs : Array Value} (hcs : cs.toList = L.map fun l => Value.string (tb l)) : ∀ (j : Nat) (u : Value), (L.map fun l => Value.string (tb l))[j]? = some u → (w.alloc (.cells cs t)).cell? ((⟨w.heap.size, 0, none⟩ : Addr).add j) = some u := by
  intro j u hu
  rw [← hcs] at hu
  rw [Addr.add_lit, cell_of_row _ _ _ cs t (0, 0) (heap_alloc_new w _)]
  simpa using hu
theorem strs_oneCell (L : List (List UInt8)) : ∀ u ∈ L.map fun l => Value.string (tb l), u.oneCell' = true := by
  intro u hu
  obtain ⟨l, _, rfl⟩ := List.mem_map.1 hu
  exact one_str _ List.mem_cons_self
theorem strs_first {w : World} {base n : Nat} {v : Value} {xs : List Value} (h : w.ownsRow base 9 1 v (0 + n) ([] ++ xs)) : w.ownsRow base 9 1 v n xs := by
  rw [Nat.zero_add, List.nil_append] at h
  exact h
theorem strs_push {w : World} {base n m : Nat} {v : Value} {ls L : List (List UInt8)} (hn : n = ls.length) (hm : m = L.length) (h : w.ownsRow base 9 1 v (n + m) ((ls.map fun l => Value.string (tb l)) ++ L.map fun l => Value.string (tb l))) :
    ∃ A c, v = .slice A (n + m) c ∧ n + m ≤ c ∧ SeesT w A (ls ++ L) := by
  rw [← List.map_append] at h
  have hl : n + m = (ls ++ L).length := by rw [List.length_append, hn, hm]
  rw [hl] at h ⊢
  have h' : OwnT w base v (ls ++ L) := h
  obtain ⟨A, c, rfl, hc⟩ := h'.form
  exact ⟨A, c, rfl, hc, h'.sees⟩
theorem all_app {ls L : List (List UInt8)} {m : Nat} (h : ∀ x ∈ ls, x.length ≤ m) (h' : ∀ x ∈ L, x.length ≤ m) : ∀ x ∈ ls ++ L, x.length ≤ m := fun x hx => by
  rcases List.mem_append.1 hx with hx | hx
  · exact h x hx
  · exact h' x hx
theorem ext_drop {l a b : List UInt8} (h : l = a ++ b) (r s : Nat) (hr : r = a.length) (hs : s = l.length) : (tb l).extract r s = tb b := by
  subst hr hs
  rw [tb_extract, List.take_length, h, List.drop_left]
theorem ext_part {l a b : List UInt8} (h : l = a ++ b) (r s k : Nat) (hr : r = a.length) (hs : s = r + k) : (tb l).extract r s = tb (b.take k) := by
  subst hr hs
  rw [tb_extract, h, List.take_length_add_append, List.drop_left]
end Go.Proofs.YtibbpbbgmgdpdaaGreatDoor
