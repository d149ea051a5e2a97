/- A session as plain functions on lists of bytes. No program in sight. -/
import Derived.Test.YtibbpbbgmgdpdaaGreatDoorNear
import Derived.Lib.ItoaLen
import Derived.Lib.ItoaMem
import Derived.Lib.AtoiTie
import Derived.Lib.SplitLaws
import Derived.Lib.Join
namespace Go.Proofs.YtibbpbbgmgdpdaaGreatDoor
set_option linter.unusedVariables false
namespace M
/-- a text cut at a byte -/
def cut (c : UInt8) : List UInt8 → List (List UInt8)
  | [] => [[]]
  | b :: r => if b = c then [] :: cut c r else
    match cut c r with
    | [] => [[b]]
    | w :: t => (b :: w) :: t
theorem cut_cons_eq (c : UInt8) (r : List UInt8) : cut c (c :: r) = [] :: cut c r := by
  rw [cut, if_pos rfl]
theorem cut_cons_ne {b c : UInt8} (h : b ≠ c) {r w : List UInt8} {t : List (List UInt8)} (e : cut c r = w :: t) : cut c (b :: r) = (b :: w) :: t := by
  rw [cut, if_neg h, e]
theorem cut_ne (c : UInt8) (l : List UInt8) : ∃ w t, cut c l = w :: t := by
  induction l with
  | nil => exact ⟨_, _, rfl⟩
  | cons b r ih =>
    obtain ⟨w, t, e⟩ := ih
    by_cases h : b = c
    · subst h; exact ⟨_, _, cut_cons_eq b r⟩
    · exact ⟨_, _, cut_cons_ne h e⟩
theorem cut_at {c : UInt8} {l : List UInt8} (h : c ∉ l) (r : List UInt8) : cut c (l ++ c :: r) = l :: cut c r := by
  induction l with
  | nil => exact cut_cons_eq c r
  | cons b l ih =>
    rw [List.mem_cons, not_or] at h
    exact cut_cons_ne (Ne.symm h.1) (ih h.2)
theorem cut_none {c : UInt8} {l : List UInt8} (h : c ∉ l) : cut c l = [l] := by
  induction l with
  | nil => rfl
  | cons b l ih =>
    rw [List.mem_cons, not_or] at h
    exact cut_cons_ne (Ne.symm h.1) (ih h.2)
theorem cut_lens (c : UInt8) (l : List UInt8) : ((cut c l).map fun w => w.length + 1).sum = l.length + 1 := by
  induction l with
  | nil => rfl
  | cons b r ih =>
    obtain ⟨w, t, e⟩ := cut_ne c r
    by_cases h : b = c
    · subst h; rw [cut_cons_eq, List.map_cons, List.sum_cons, ih, List.length_cons, List.length_nil]; omega
    · rw [cut_cons_ne h e]
      rw [e, List.map_cons, List.sum_cons] at ih
      rw [List.map_cons, List.sum_cons, List.length_cons, List.length_cons]
      omega
theorem sum_ge_len (l : List (List UInt8)) : l.length ≤ (l.map fun w => w.length + 1).sum := by
  induction l with
  | nil => exact Nat.le_refl _
  | cons x r ih => rw [List.map_cons, List.sum_cons, List.length_cons]; omega
theorem sum_ge_mem (l : List (List UInt8)) : ∀ x ∈ l, x.length + l.length ≤ (l.map fun w => w.length + 1).sum := by
  induction l with
  | nil => intro x hx; cases hx
  | cons y r ih =>
    intro x hx
    rw [List.map_cons, List.sum_cons, List.length_cons]
    rcases List.mem_cons.1 hx with rfl | hx
    · have := sum_ge_len r; omega
    · have := ih x hx; omega
/-- as many words as bytes, and one -/
theorem cut_len (c : UInt8) (l : List UInt8) : (cut c l).length ≤ l.length + 1 := by
  have := sum_ge_len (cut c l); rw [cut_lens] at this; exact this
theorem cut_mem {c : UInt8} {l w : List UInt8} (h : w ∈ cut c l) : w.length + (cut c l).length ≤ l.length + 1 := by
  have := sum_ge_mem _ w h; rw [cut_lens] at this; exact this
/-- the library's cut at one byte -/
theorem split_cut (c : UInt8) : ∀ l : List UInt8, Lib.splitK [c] 0 (Lib.count l [c]) l = cut c l
  | [] => by rw [Lib.count_miss (by rfl)]; rfl
  | b :: l => by
    have ih := split_cut c l
    by_cases h : b = c
    · subst h
      have hix : Lib.index (b :: l) [b] = 0 := by rw [Lib.index]; simp [List.isPrefixOf]
      rw [Lib.count_cons_eq, Nat.add_comm 1, Lib.splitK, hix, if_neg (by decide)]
      show _ :: Lib.splitK [b] 0 (Lib.count l [b]) l = _
      rw [ih, cut_cons_eq]
      rfl
    · have hp : ([c] : List UInt8).isPrefixOf (b :: l) = false := by simp [List.isPrefixOf, Ne.symm h]
      have hix : Lib.index (b :: l) [c] = if Lib.index l [c] == -1 then -1 else Lib.index l [c] + 1 := by rw [Lib.index, hp]; simp
      rw [Lib.count_cons_ne b c l h]
      cases hc : Lib.count l [c] with
      | zero =>
        rw [hc] at ih
        rw [cut_cons_ne h (w := l) (t := []) ih.symm]
        rfl
      | succ k =>
        rw [hc] at ih
        have hne : ¬ (Lib.index l [c] == -1) = true := fun e => by
          have := Lib.count_miss (beq_iff_eq.1 e)
          omega
        have hge := Lib.index_ge l [c]
        obtain ⟨j, hj⟩ : ∃ j : Nat, Lib.index l [c] = j := ⟨(Lib.index l [c]).toNat, by have : Lib.index l [c] ≠ -1 := fun e => hne (beq_iff_eq.2 e); omega⟩
        rw [Lib.splitK, if_neg hne, hj] at ih
        rw [cut_cons_ne h ih.symm, Lib.splitK, hix, if_neg hne, hj, if_neg (by intro e; have := beq_iff_eq.1 e; omega)]
        have e1 : ((j : Int) + 1).toNat = j + 1 := by omega
        have e2 : ((j : Int)).toNat = j := by omega
        rw [e1, e2]
        rfl
def wd (w : List (List UInt8)) (i : Nat) : List UInt8 := w.getD i []
/-- a number of at most four bytes -/
def num (s : List UInt8) : Option Int :=
  match Lib.atoi s with
  | some n => if s.length ≤ 4 ∧ Lib.itoa n = s then some n else none
  | none => none
theorem num_some {s : List UInt8} {n : Int} (h : num s = some n) : Lib.atoi s = some n ∧ s.length ≤ 4 ∧ Lib.itoa n = s := by
  unfold num at h
  split at h
  · rename_i m hm
    split at h
    · rename_i hh
      injection h with h
      subst h
      exact ⟨hm, hh⟩
    · cases h
  · cases h
/-- a sign and digits -/
def scan (s : List UInt8) : Option Nat := if s.head? = some 45 then Lib.decFrom 0 (s.drop 1) else Lib.decFrom 0 s
def signed (s : List UInt8) (m : Nat) : Int := if s.head? = some 45 then -(m : Int) else m
def pnum (s : List UInt8) : Option Int :=
  if s.length = 0 ∨ 4 < s.length then none else
    match scan s with
    | none => none
    | some m => if Lib.itoa (signed s m) = s then some (signed s m) else none
theorem decDigits_ne (u : Nat) : ∃ b r, Lib.decDigits u = b :: r ∧ 48 ≤ b.toNat ∧ b.toNat ≤ 57 := by
  induction u using Nat.strongRecOn with
  | _ u ih =>
    by_cases h : u < 10
    · refine ⟨_, _, Lib.decDigits_one h, ?_⟩
      rw [UInt8.toNat_ofNat']; omega
    · rw [Lib.decDigits, dif_neg h]
      obtain ⟨b, r, e, h1⟩ := ih (u / 10) (by omega)
      exact ⟨b, r ++ _, by rw [e]; rfl, h1⟩
theorem decFrom_bound (l : List UInt8) (h : l.length ≤ 4) {m : Nat} (e : Lib.decFrom 0 l = some m) : m < 10000 := by
  have := Lib.decFrom_lt l 0 m e
  have : (10 : Nat) ^ l.length ≤ 10 ^ 4 := Nat.pow_le_pow_right (by decide) h
  omega
theorem scan_bound {s : List UInt8} (h : s.length ≤ 4) {m : Nat} (e : scan s = some m) : m < 10000 := by
  unfold scan at e
  split at e
  · exact decFrom_bound _ (by rw [List.length_drop]; omega) e
  · exact decFrom_bound _ h e
theorem pnum_num (s : List UInt8) : pnum s = num s := by
  unfold pnum
  cases s with
  | nil => rfl
  | cons b r =>
    by_cases hl : 4 < (b :: r).length
    · rw [if_pos (.inr hl)]
      unfold num
      split
      · rw [if_neg (fun h => by omega)]
      · rfl
    · rw [if_neg (by simp only [List.length_cons] at hl ⊢; omega)]
      have hl4 : (b :: r).length ≤ 4 := by omega
      have key : ∀ m : Int, (if (b :: r).length ≤ 4 ∧ Lib.itoa m = b :: r then some m else none) = if Lib.itoa m = b :: r then some m else none := fun m => by
        by_cases h : Lib.itoa m = b :: r
        · rw [if_pos ⟨hl4, h⟩, if_pos h]
        · rw [if_neg (fun hh => h hh.2), if_neg h]
      unfold num scan signed
      by_cases h45 : b = 45
      · subst h45
        simp only [List.head?_cons, if_true, List.drop_succ_cons, List.drop_zero, Lib.atoi, beq_self_eq_true]
        cases r with
        | nil =>
          show (if Lib.itoa (-((0 : Nat) : Int)) = [45] then some (-((0 : Nat) : Int)) else none) = none
          have e0 : -((0 : Nat) : Int) = ((0 : Nat) : Int) := rfl
          rw [e0, Lib.itoa_nonneg, Lib.decDigits_one (by decide), if_neg (by decide)]
        | cons c t =>
          rw [Lib.decNat, if_neg (by simp)]
          cases Lib.decFrom 0 (c :: t) with
          | none => rfl
          | some m => simp only [Option.map]; exact (key _).symm
      · have h1 : ¬ (some b = some (45 : UInt8)) := fun e => h45 (Option.some.inj e)
        have h2 : (b == 45) = false := beq_eq_false_iff_ne.2 h45
        simp only [List.head?_cons, h1, if_false, Lib.atoi, h2, Bool.false_eq_true]
        by_cases h43 : b = 43
        · subst h43
          simp only [beq_self_eq_true, if_true]
          have e1 : Lib.decFrom 0 (43 :: r) = none := by rfl
          rw [e1]
          cases hd : Lib.decNat r with
          | none => rfl
          | some m =>
            simp only [Option.map]
            rw [if_neg]
            rintro ⟨_, e⟩
            rw [Lib.itoa_nonneg] at e
            obtain ⟨c, t, e2, h3, h4⟩ := decDigits_ne m
            rw [e2] at e
            injection e with e3 e4
            subst e3
            revert h3
            decide
        · have h3 : (b == 43) = false := beq_eq_false_iff_ne.2 h43
          simp only [h3, Bool.false_eq_true, if_false]
          rw [Lib.decNat, if_neg (by simp)]
          cases Lib.decFrom 0 (b :: r) with
          | none => rfl
          | some m => simp only [Option.map]; exact (key _).symm
def numOr (s : List UInt8) : Int := (num s).getD (-1)
theorem num_rng {s : List UInt8} {n : Int} (h : num s = some n) : -10000 < n ∧ n < 10000 := by
  rw [← pnum_num] at h
  unfold pnum at h
  split at h
  · cases h
  · rename_i hl
    split at h
    · cases h
    · rename_i m hm
      split at h
      · injection h with h
        subst h
        have := scan_bound (by omega) hm
        unfold signed
        split <;> omega
      · cases h
theorem numOr_rng (s : List UInt8) : -10000 < numOr s ∧ numOr s < 10000 := by
  unfold numOr
  cases h : num s with
  | none => decide
  | some n => exact num_rng h
/-- numbers of words, if all are numbers -/
def nums : List (List UInt8) → Option (List Int)
  | [] => some []
  | w :: r =>
    match num w, nums r with
    | some n, some l => some (n :: l)
    | _, _ => none
theorem nums_drop {ws : List (List UInt8)} {k : Nat} {l : List Int} (h : k < ws.length) (e : nums ws = (nums (ws.drop k)).map (l ++ ·)) {n : Int} (hn : num ws[k] = some n) :
    nums ws = (nums (ws.drop (k + 1))).map ((l ++ [n]) ++ ·) := by
  rw [e, List.drop_eq_getElem_cons h, nums, hn]
  cases nums (ws.drop (k + 1)) with
  | none => rfl
  | some m => simp
theorem nums_fail {ws : List (List UInt8)} {k : Nat} {l : List Int} (h : k < ws.length) (e : nums ws = (nums (ws.drop k)).map (l ++ ·)) (hn : num ws[k] = none) : nums ws = none := by
  rw [e, List.drop_eq_getElem_cons h, nums, hn]
  rfl
theorem nums_len : ∀ (ws : List (List UInt8)) (l : List Int), nums ws = some l → l.length = ws.length
  | [], l, h => by injection h with h; subst h; rfl
  | w :: r, l, h => by
    rw [nums] at h
    split at h
    · rename_i n m h1 h2
      injection h with h
      subst h
      rw [List.length_cons, List.length_cons, nums_len r m h2]
    · cases h
/-- the vector of a word -/
def vec (s : List UInt8) : List Int := (nums (cut 44 s)).getD []
theorem vec_len (s : List UInt8) : (vec s).length ≤ s.length + 1 := by
  unfold vec
  cases h : nums (cut 44 s) with
  | none => simp
  | some l => show l.length ≤ _; rw [nums_len _ _ h]; exact cut_len 44 s
/-- one hit, and hits -/
def hitT (h : Hit) : List UInt8 := Lib.itoa h.key ++ 58 :: Lib.itoa h.dist
def hitsT (l : List Hit) : List UInt8 := Lib.join (l.map hitT) [32]
/-- the two nearest items -/
def cpIn (kind : Int) (x : Item) : List Item → Item × Item → Item × Item
  | [], p => p
  | y :: r, p => cpIn kind x r (if dist kind x.pos y.pos < dist kind p.1.pos p.2.pos then (x, y) else p)
def cpOut (kind : Int) : List Item → Item × Item → Item × Item
  | [], p => p
  | x :: r, p => cpOut kind r (cpIn kind x r p)
def closest (L : List Item) (kind : Int) : Option (Item × Item) :=
  match L with
  | x :: y :: r => some (cpOut kind (x :: y :: r) (x, y))
  | _ => none
theorem closest_none {L : List Item} {kind : Int} (h : L.length < 2) : closest L kind = none := by
  match L, h with
  | [], _ => rfl
  | [_], _ => rfl
theorem closest_some {L : List Item} {kind : Int} (h : 2 ≤ L.length) : closest L kind = some (cpOut kind L (L[0], L[1])) := by
  match L, h with
  | x :: y :: r, _ => rfl
theorem cpIn_drop {kind : Int} {x : Item} {l : List Item} {k : Nat} (h : k < l.length) (p : Item × Item) :
    cpIn kind x (l.drop k) p = cpIn kind x (l.drop (k + 1)) (if dist kind x.pos l[k].pos < dist kind p.1.pos p.2.pos then (x, l[k]) else p) := by
  rw [List.drop_eq_getElem_cons h, cpIn]
theorem cpOut_drop {kind : Int} {l : List Item} {k : Nat} (h : k < l.length) (p : Item × Item) :
    cpOut kind (l.drop k) p = cpOut kind (l.drop (k + 1)) (cpIn kind l[k] (l.drop (k + 1)) p) := by
  rw [List.drop_eq_getElem_cons h, cpOut]
theorem cpIn_mem (kind : Int) (x : Item) (Q : Item → Prop) (hx : Q x) : ∀ (l : List Item) (p : Item × Item), (∀ y ∈ l, Q y) → Q p.1 ∧ Q p.2 → Q (cpIn kind x l p).1 ∧ Q (cpIn kind x l p).2
  | [], p, _, h => h
  | y :: r, p, hl, h => cpIn_mem kind x Q hx r _ (fun z hz => hl z (List.mem_cons_of_mem _ hz)) (by
      split
      · exact ⟨hx, hl y (List.mem_cons_self ..)⟩
      · exact h)
theorem cpOut_mem (kind : Int) (Q : Item → Prop) : ∀ (l : List Item) (p : Item × Item), (∀ y ∈ l, Q y) → Q p.1 ∧ Q p.2 → Q (cpOut kind l p).1 ∧ Q (cpOut kind l p).2
  | [], p, _, h => h
  | x :: r, p, hl, h => cpOut_mem kind Q r _ (fun z hz => hl z (List.mem_cons_of_mem _ hz)) (cpIn_mem kind x Q (hl x (List.mem_cons_self ..)) r p (fun z hz => hl z (List.mem_cons_of_mem _ hz)) h)
/-- texts -/
def tPut : List UInt8 := [112, 117, 116]
def tDrop : List UInt8 := [100, 114, 111, 112]
def tNear : List UInt8 := [110, 101, 97, 114]
def tKind : List UInt8 := [107, 105, 110, 100]
def tPair : List UInt8 := [112, 97, 105, 114]
def tCount : List UInt8 := [99, 111, 117, 110, 116]
def tNo : List UInt8 := [110, 111]
def tOk : List UInt8 := [111, 107]
def tWhat : List UInt8 := [119, 104, 97, 116]
structure Ses where
  list : List Item
  kind : Int
def Good (S : Ses) : Prop := validStore S.list = true ∧ 1 ≤ S.kind ∧ S.kind ≤ 4
def putS (S : Ses) (a b c : List UInt8) : Ses × List UInt8 :=
  match PutItem S.list ⟨numOr a, vec b, numOr c⟩ with
  | some L => (⟨L, S.kind⟩, tOk)
  | none => (S, tNo)
def dropS (S : Ses) (a : List UInt8) : Ses × List UInt8 :=
  match DropItem S.list (numOr a) with
  | some L => (⟨L, S.kind⟩, tOk)
  | none => (S, tNo)
def nearT (S : Ses) (a b : List UInt8) : List UInt8 :=
  if isVec (vec a) = true ∧ inR (numOr b) 1 16 = true then hitsT (nearest S.list S.kind (vec a) (numOr b).toNat) else tNo
def kindS (S : Ses) (a : List UInt8) : Ses × List UInt8 :=
  if inR (numOr a) 1 4 = true then (⟨S.list, numOr a⟩, tOk) else (S, tNo)
def pairT (S : Ses) : List UInt8 :=
  match closest S.list S.kind with
  | some (a, b) => Lib.itoa a.key ++ 32 :: Lib.itoa b.key
  | none => tNo
def step (S : Ses) (line : List UInt8) : Ses × List UInt8 :=
  let w := cut 32 line
  if wd w 0 = tPut ∧ w.length = 4 then putS S (wd w 1) (wd w 2) (wd w 3)
  else if wd w 0 = tDrop ∧ w.length = 2 then dropS S (wd w 1)
  else if wd w 0 = tNear ∧ w.length = 3 then (S, nearT S (wd w 1) (wd w 2))
  else if wd w 0 = tKind ∧ w.length = 2 then kindS S (wd w 1)
  else if line = tPair then (S, pairT S)
  else if line = tCount then (S, Lib.itoa S.list.length)
  else (S, tWhat)
def states (S : Ses) (ls : List (List UInt8)) : Ses := ls.foldl (fun S l => (step S l).1) S
def texts (S : Ses) : List (List UInt8) → List UInt8
  | [] => []
  | l :: r => (step S l).2 ++ 10 :: texts (step S l).1 r
def start : Ses := ⟨[], 1⟩
/-- RunSession -/
def session (ls : List (List UInt8)) : List UInt8 := texts start (ls.take 20)
theorem texts_append (S : Ses) : ∀ (a b : List (List UInt8)), texts S (a ++ b) = texts S a ++ texts (states S a) b := by
  intro a
  induction a generalizing S with
  | nil => intro b; rfl
  | cons l r ih =>
    intro b
    show _ ++ 10 :: texts _ (r ++ b) = (_ ++ 10 :: texts _ r) ++ _
    rw [ih, List.append_assoc]
    rfl
theorem states_append (S : Ses) (a b : List (List UInt8)) : states S (a ++ b) = states (states S a) b := List.foldl_append
theorem texts_one (S : Ses) (l : List UInt8) : texts S [l] = (step S l).2 ++ [10] := rfl
theorem texts_cons (S : Ses) (l : List UInt8) (r : List (List UInt8)) : texts S (l :: r) = (step S l).2 ++ 10 :: texts (step S l).1 r := rfl
theorem good_start : Good start := ⟨by decide, by decide, by decide⟩
theorem good_put {S : Ses} (hS : Good S) (a b c : List UInt8) : Good (putS S a b c).1 := by
  unfold putS
  cases h : PutItem S.list ⟨numOr a, vec b, numOr c⟩ with
  | none => exact hS
  | some L => exact ⟨PutItem_valid h, hS.2⟩
theorem good_drop {S : Ses} (hS : Good S) (a : List UInt8) : Good (dropS S a).1 := by
  unfold dropS
  cases h : DropItem S.list (numOr a) with
  | none => exact hS
  | some L => exact ⟨DropItem_valid h, hS.2⟩
theorem good_kind {S : Ses} (hS : Good S) (a : List UInt8) : Good (kindS S a).1 := by
  unfold kindS
  split
  · rename_i h; exact ⟨hS.1, inR_true h⟩
  · exact hS
theorem good_step {S : Ses} (hS : Good S) (l : List UInt8) : Good (step S l).1 := by
  unfold step
  simp only
  split
  · exact good_put hS _ _ _
  split
  · exact good_drop hS _
  split
  · exact hS
  split
  · exact good_kind hS _
  split
  · exact hS
  split
  · exact hS
  · exact hS
theorem good_states {S : Ses} (hS : Good S) (ls : List (List UInt8)) : Good (states S ls) := by
  induction ls generalizing S with
  | nil => exact hS
  | cons l r ih => exact ih (good_step hS l)
/-- texts are short -/
theorem itoa_le {n : Int} (h : -1000000 ≤ n ∧ n ≤ 1000000) : (Lib.itoa n).length ≤ 21 := Lib.itoa_length_le n (by omega) (by omega)
theorem hitT_le {h : Hit} (hh : okHit h) : (hitT h).length ≤ 43 := by
  have h1 := itoa_le (n := h.key) (by have := hh.1; omega)
  have h2 := itoa_le (n := h.dist) (by have := hh.2; omega)
  unfold hitT
  rw [List.length_append, List.length_cons]
  omega
theorem join_le (m : Nat) : ∀ (l : List (List UInt8)), (∀ x ∈ l, x.length ≤ m) → (Lib.join l [32]).length ≤ (m + 1) * l.length
  | [], _ => by simp [Lib.join_nil]
  | x :: r, h => by
    rw [Lib.join_cons, List.length_append, Lib.joinTail_length]
    have h1 := h x (List.mem_cons_self ..)
    have h2 : Lib.lens r ≤ m * r.length := by
      have hr : ∀ y ∈ r, y.length ≤ m := fun y hy => h y (List.mem_cons_of_mem _ hy)
      clear h
      induction r with
      | nil => simp [Lib.lens]
      | cons y t ih =>
        have a := ih (fun z hz => hr z (List.mem_cons_of_mem _ hz))
        have b := hr y (List.mem_cons_self ..)
        simp only [Lib.lens, List.map_cons, List.sum_cons, List.length_cons] at a ⊢
        rw [Nat.mul_succ]
        omega
    have h3 : (m + 1) * (x :: r).length = m * r.length + r.length + m + 1 := by rw [List.length_cons, Nat.mul_succ, Nat.add_mul]; omega
    have h4 : (([] : List UInt8).length + 1) * r.length = r.length := by simp
    simp only [List.length_cons] at h3 ⊢
    simp only [List.length_nil] at h4 ⊢
    omega
theorem hitsT_le {l : List Hit} (h : ∀ x ∈ l, okHit x) (hl : l.length ≤ 16) : (hitsT l).length ≤ 704 := by
  unfold hitsT
  have := join_le 43 (l.map hitT) (fun x hx => by
    obtain ⟨y, hy, rfl⟩ := List.mem_map.1 hx
    exact hitT_le (h y hy))
  rw [List.length_map] at this
  omega
theorem nearest_len16 {L : List Item} (hv : validStore L = true) (kind : Int) (m : List Int) (k : Nat) : (nearest L kind m k).length ≤ 16 := Nat.le_trans (nearest_len L kind m k) (validStore_of hv).1
theorem nearT_le {S : Ses} (hS : Good S) (a b : List UInt8) : (nearT S a b).length ≤ 704 := by
  unfold nearT
  split
  · rename_i h; exact hitsT_le (nearest_ok hS.1 h.1 _) (nearest_len16 hS.1 _ _ _)
  · decide
theorem closest_keys {S : Ses} (hS : Good S) {p : Item × Item} (h : closest S.list S.kind = some p) : (1 ≤ p.1.key ∧ p.1.key ≤ 99) ∧ (1 ≤ p.2.key ∧ p.2.key ≤ 99) := by
  by_cases hl : S.list.length < 2
  · rw [closest_none hl] at h; cases h
  · rw [closest_some (by omega)] at h
    injection h with h
    rw [← h]
    have hq : ∀ y ∈ S.list, 1 ≤ y.key ∧ y.key ≤ 99 := fun y hy => (item_of hS.1 hy).1
    exact cpOut_mem S.kind (fun y => 1 ≤ y.key ∧ y.key ≤ 99) S.list _ hq ⟨hq _ (List.getElem_mem _), hq _ (List.getElem_mem _)⟩
theorem pairT_le {S : Ses} (hS : Good S) : (pairT S).length ≤ 704 := by
  unfold pairT
  cases h : closest S.list S.kind with
  | none => decide
  | some p =>
    obtain ⟨a, b⟩ := p
    have h1 := closest_keys hS h
    have h2 := itoa_le (n := a.key) (by have := h1.1; simp only at this; omega)
    have h3 := itoa_le (n := b.key) (by have := h1.2; simp only at this; omega)
    show (Lib.itoa a.key ++ 32 :: Lib.itoa b.key).length ≤ _
    rw [List.length_append, List.length_cons]
    omega
theorem le2 (l : List UInt8) (h : l.length ≤ 4) : l.length ≤ 704 := by omega
theorem step_le {S : Ses} (hS : Good S) (l : List UInt8) : (step S l).2.length ≤ 704 := by
  unfold step
  simp only
  split
  · unfold putS
    split
    · exact le2 tOk (by decide)
    · exact le2 tNo (by decide)
  split
  · unfold dropS
    split
    · exact le2 tOk (by decide)
    · exact le2 tNo (by decide)
  split
  · exact nearT_le hS _ _
  split
  · unfold kindS
    split
    · exact le2 tOk (by decide)
    · exact le2 tNo (by decide)
  split
  · exact pairT_le hS
  split
  · have := (validStore_of hS.1).1
    have := itoa_le (n := S.list.length) (by omega)
    show (Lib.itoa S.list.length).length ≤ _
    omega
  · exact le2 tWhat (by decide)
theorem texts_le {S : Ses} (hS : Good S) (ls : List (List UInt8)) : (texts S ls).length ≤ 705 * ls.length := by
  induction ls generalizing S with
  | nil => exact Nat.le_refl _
  | cons l r ih =>
    rw [texts_cons, List.length_append, List.length_cons, List.length_cons]
    have := ih (good_step hS l)
    have := step_le hS l
    omega
theorem session_le (ls : List (List UInt8)) : (session ls).length ≤ 14100 := by
  unfold session
  have := texts_le good_start (ls.take 20)
  have : (ls.take 20).length ≤ 20 := List.length_take_le _ _
  omega
end M
end Go.Proofs.YtibbpbbgmgdpdaaGreatDoor
