/- What the functions of the store compute, as plain functions on lists and integers. No program in sight. Items, stores and logs as plain functions. No program in sight. Plain laws of shards and moved keys. No program in sight. Putting and dropping items as plain functions. No program in sight. Short logs as plain functions, and their plain laws. No program in sight. Pages of stores as plain functions, and their plain laws. No program in sight. Distances as plain functions. No program in sight. Logs between stores as plain functions. No program in sight. Replaying logs as a plain function, and its plain laws. No program in sight. Logs between stores lead from one to the other: plain laws. No program in sight. Histories as plain functions, and their plain laws. No program in sight. -/
import Derived.IntWalk
namespace Go.Proofs.YtibbpbbgmgdpdaaGreatDoor
namespace M

structure Item where
  key : Int
  pos : List Int
  tags : Int
structure Entry where
  kind : Int
  item : Item
structure Hist where
  log : List Entry
  times : List Int
structure Hit where
  key : Int
  dist : Int

def inR (n lo hi : Int) : Bool := decide (lo ≤ n ∧ n ≤ hi)
theorem inR_true {n lo hi : Int} (h : inR n lo hi = true) : lo ≤ n ∧ n ≤ hi := by simpa [inR] using h
theorem inR_false {n lo hi : Int} (h : inR n lo hi = false) : n < lo ∨ hi < n := by
  have : ¬ (lo ≤ n ∧ n ≤ hi) := by simpa [inR] using h
  omega
theorem inR_of {n lo hi : Int} (h1 : lo ≤ n) (h2 : n ≤ hi) : inR n lo hi = true := by simp [inR, h1, h2]
theorem inR_not {n lo hi : Int} (h : n < lo ∨ hi < n) : inR n lo hi = false := by
  have : ¬ (lo ≤ n ∧ n ≤ hi) := by omega
  simp [inR, this]

/-- the shard of a key -/
def sh (key s : Int) : Int := 389 * key % 1009 * s / 1009
def shardOf (key s : Int) : Int := if inR key 1 99 = true ∧ inR s 1 8 = true then sh key s else -1

/-- the checksum -/
def chk (l : List Int) : Int := l.foldl (fun n b => (31 * n + b) % 251) 1
def checkOf (l : List Int) : Int := if l.length ≤ 200 then chk l else -1

end M
end Go.Proofs.YtibbpbbgmgdpdaaGreatDoor

namespace Go.Proofs.YtibbpbbgmgdpdaaGreatDoor
namespace M

def isVec (l : List Int) : Bool := l.all (fun x => inR x (-100) 100) && decide (l.length = 4)
def validItem (x : Item) : Bool := inR x.key 1 99 && isVec x.pos && inR x.tags 0 15
/-- the item at place j is valid and behind the one ahead of it -/
def okAt (L : List Item) (j : Nat) : Bool :=
  match L[j]?, L[j - 1]? with
  | some x, some y => validItem x && (j == 0 || decide (y.key < x.key))
  | _, _ => true
def okTo (L : List Item) (k : Nat) : Bool := (List.range k).all (okAt L)
def validStore (L : List Item) : Bool := okTo L L.length && decide (L.length ≤ 16)

theorem okTo_succ (L : List Item) (k : Nat) : okTo L (k + 1) = (okTo L k && okAt L k) := by
  unfold okTo
  rw [List.range_succ, List.all_append]
  simp
theorem okTo_stop {L : List Item} {k : Nat} (hk : k < L.length) (h : okAt L k = false) : validStore L = false := by
  have : okTo L L.length = false := by
    unfold okTo
    rw [List.all_eq_false]
    exact ⟨k, by simpa using hk, by simp [h]⟩
  simp [validStore, this]
theorem okAt_eq {L : List Item} {k : Nat} (hk : k < L.length) : okAt L k = (validItem L[k] && (k == 0 || decide ((L[k - 1]'(by omega)).key < L[k].key))) := by
  unfold okAt
  rw [List.getElem?_eq_getElem hk, List.getElem?_eq_getElem (show k - 1 < L.length by omega)]
theorem validStore_of {L : List Item} (h : validStore L = true) : L.length ≤ 16 ∧ (∀ x ∈ L, validItem x = true) ∧ (L.map Item.key).Pairwise (· < ·) := by
  unfold validStore okTo at h
  simp only [Bool.and_eq_true, List.all_eq_true, List.mem_range, decide_eq_true_eq] at h
  obtain ⟨h1, h2⟩ := h
  have hv : ∀ k (hk : k < L.length), validItem L[k] = true := fun k hk => by
    have := h1 k hk
    rw [okAt_eq hk] at this
    simp only [Bool.and_eq_true] at this
    exact this.1
  have hs : ∀ k (hk : k + 1 < L.length), (L[k]'(by omega)).key < L[k + 1].key := fun k hk => by
    have := h1 (k + 1) hk
    rw [okAt_eq hk] at this
    simp only [Bool.and_eq_true, Bool.or_eq_true] at this
    rcases this.2 with h0 | h0
    · simp at h0
    · exact of_decide_eq_true h0
  refine ⟨h2, fun x hx => ?_, ?_⟩
  · obtain ⟨k, hk, rfl⟩ := List.getElem_of_mem hx
    exact hv k hk
  · have hm : ∀ d i (hi : i + d + 1 < L.length), (L[i]'(by omega)).key < (L[i + d + 1]'hi).key := by
      intro d
      induction d with
      | zero => intro i hi; exact hs i hi
      | succ d ih =>
        intro i hi
        have h3 := ih i (by omega)
        have h4 := hs (i + d + 1) hi
        have h5 : i + (d + 1) + 1 = i + d + 1 + 1 := by omega
        simp only [h5]
        omega
    rw [List.pairwise_iff_getElem]
    intro i j hi hj hij
    simp only [List.length_map] at hi hj
    rw [List.getElem_map, List.getElem_map]
    have := hm (j - i - 1) i (by omega)
    have h5 : i + (j - i - 1) + 1 = j := by omega
    simp only [h5] at this
    exact this
theorem validStore_to {L : List Item} (h1 : L.length ≤ 16) (h2 : ∀ x ∈ L, validItem x = true) (h3 : (L.map Item.key).Pairwise (· < ·)) : validStore L = true := by
  unfold validStore okTo
  simp only [Bool.and_eq_true, List.all_eq_true, List.mem_range, decide_eq_true_eq]
  refine ⟨fun k hk => ?_, h1⟩
  rw [okAt_eq hk]
  rw [h2 _ (List.getElem_mem hk)]
  rcases Nat.eq_zero_or_pos k with h0 | h0
  · subst h0; rfl
  · rw [List.pairwise_iff_getElem] at h3
    have := h3 (k - 1) k (by simp; omega) (by simpa using hk) (by omega)
    rw [List.getElem_map, List.getElem_map] at this
    simp [this]
theorem validStore_iff {L : List Item} : validStore L = true ↔ L.length ≤ 16 ∧ (∀ x ∈ L, validItem x = true) ∧ (L.map Item.key).Pairwise (· < ·) :=
  ⟨validStore_of, fun h => validStore_to h.1 h.2.1 h.2.2⟩

def shardItems (L : List Item) (s n : Int) : List Item := L.filter fun x => decide (sh x.key s = n)
def ShardItems (L : List Item) (s n : Int) : List Item := if validStore L = true ∧ inR s 1 8 = true then shardItems L s n else []
def moved (L : List Item) (f t : Int) : List Int := (L.filter fun x => decide (sh x.key f ≠ sh x.key t)).map Item.key
def MovedKeys (L : List Item) (f t : Int) : List Int := if validStore L = true ∧ inR f 1 8 = true ∧ inR t 1 8 = true then moved L f t else []

def validEntry (e : Entry) : Bool :=
  if e.kind = 2 then inR e.item.key 1 99 && decide (e.item.pos.length = 0) && decide (e.item.tags = 0)
  else decide (e.kind = 1) && validItem e.item
def validLog (l : List Entry) : Bool := l.all validEntry && decide (l.length ≤ 32)

end M
end Go.Proofs.YtibbpbbgmgdpdaaGreatDoor

namespace Go.Proofs.YtibbpbbgmgdpdaaGreatDoor
set_option linter.unusedVariables false
namespace M
theorem key_of_valid {x : Item} (h : validItem x = true) : 1 ≤ x.key ∧ x.key ≤ 99 := by
  unfold validItem at h
  simp only [Bool.and_eq_true] at h
  exact inR_true h.1.1
theorem sh_range {k s : Int} (h1 : 1 ≤ k) (h2 : k ≤ 99) (h3 : 1 ≤ s) (h4 : s ≤ 8) : 0 ≤ sh k s ∧ sh k s < s := by
  have a1 : 0 ≤ 389 * k % 1009 := by omega
  have a2 : 389 * k % 1009 ≤ 1008 := by omega
  unfold sh
  generalize 389 * k % 1009 = q at *
  obtain rfl | rfl | rfl | rfl | rfl | rfl | rfl | rfl : s = 1 ∨ s = 2 ∨ s = 3 ∨ s = 4 ∨ s = 5 ∨ s = 6 ∨ s = 7 ∨ s = 8 := by omega
  all_goals omega
theorem sh_one {k : Int} (h1 : 1 ≤ k) (h2 : k ≤ 99) : sh k 1 = 0 := by
  have := sh_range h1 h2 (s := 1) (by omega) (by omega)
  omega
theorem ShardItems_eq {L : List Item} {s n : Int} (hv : validStore L = true) (h1 : 1 ≤ s) (h2 : s ≤ 8) : ShardItems L s n = shardItems L s n := by
  unfold ShardItems; rw [if_pos ⟨hv, inR_of h1 h2⟩]
theorem ShardItems_none {L : List Item} {s n : Int} (hv : validStore L = true) (h1 : 1 ≤ s) (h2 : s ≤ 8) (hn : n < 0 ∨ s ≤ n) : ShardItems L s n = [] := by
  rw [ShardItems_eq hv h1 h2]
  unfold shardItems
  rw [List.filter_eq_nil_iff]
  intro x hx
  have hk := key_of_valid ((validStore_of hv).2.1 x hx)
  have := sh_range hk.1 hk.2 h1 h2
  simp
  omega
theorem ShardItems_all {L : List Item} (hv : validStore L = true) : ShardItems L 1 0 = L := by
  rw [ShardItems_eq hv (by omega) (by omega)]
  unfold shardItems
  rw [List.filter_eq_self]
  intro x hx
  have hk := key_of_valid ((validStore_of hv).2.1 x hx)
  simp [sh_one hk.1 hk.2]
theorem MovedKeys_same {L : List Item} {f : Int} : MovedKeys L f f = [] := by
  unfold MovedKeys
  split
  · unfold moved
    rw [List.map_eq_nil_iff, List.filter_eq_nil_iff]
    simp
  · rfl
theorem MovedKeys_flip (L : List Item) (f t : Int) : MovedKeys L t f = MovedKeys L f t := by
  unfold MovedKeys
  have e : moved L t f = moved L f t := by
    unfold moved
    congr 1
    refine List.filter_congr (fun x _ => ?_)
    rw [decide_eq_decide]
    exact ⟨fun h => h.symm, fun h => h.symm⟩
  rw [e]
  by_cases h : validStore L = true ∧ inR f 1 8 = true ∧ inR t 1 8 = true
  · rw [if_pos h, if_pos ⟨h.1, h.2.2, h.2.1⟩]
  · rw [if_neg h, if_neg (fun h' => h ⟨h'.1, h'.2.2, h'.2.1⟩)]
theorem shardOf_of {k s : Int} (h : 0 ≤ shardOf k s) : 1 ≤ k ∧ k ≤ 99 ∧ 1 ≤ s ∧ s ≤ 8 ∧ shardOf k s = sh k s := by
  unfold shardOf at h ⊢
  split at h
  · rename_i hc
    have a := inR_true hc.1
    have b := inR_true hc.2
    rw [if_pos hc]
    exact ⟨a.1, a.2, b.1, b.2, rfl⟩
  · omega
theorem shardOf_eq {k s : Int} (h1 : 1 ≤ k) (h2 : k ≤ 99) (h3 : 1 ≤ s) (h4 : s ≤ 8) : shardOf k s = sh k s := by
  unfold shardOf; rw [if_pos ⟨inR_of h1 h2, inR_of h3 h4⟩]
theorem mem_MovedKeys {L : List Item} {f t : Int} (hv : validStore L = true) (h1 : 1 ≤ f) (h2 : f ≤ 8) (h3 : 1 ≤ t) (h4 : t ≤ 8) {x : Item} (hx : x ∈ L) : x.key ∈ MovedKeys L f t ↔ sh x.key f ≠ sh x.key t := by
  unfold MovedKeys moved
  rw [if_pos ⟨hv, inR_of h1 h2, inR_of h3 h4⟩, List.mem_map]
  constructor
  · rintro ⟨y, hy, e⟩
    rw [List.mem_filter] at hy
    have := of_decide_eq_true hy.2
    rwa [e] at this
  · intro h
    exact ⟨x, List.mem_filter.2 ⟨hx, decide_eq_true h⟩, rfl⟩
theorem ShardItems_bad {L : List Item} {s n : Int} (h : validStore L = false ∨ s < 1 ∨ 8 < s) : ShardItems L s n = [] := by
  unfold ShardItems
  rw [if_neg]
  rintro ⟨h1, h2⟩
  rcases h with h | h
  · rw [h1] at h; cases h
  · have := inR_true h2; omega
theorem MovedKeys_bad {L : List Item} {f t : Int} (h : validStore L = false ∨ f < 1 ∨ 8 < f ∨ t < 1 ∨ 8 < t) : MovedKeys L f t = [] := by
  unfold MovedKeys
  rw [if_neg]
  rintro ⟨h1, h2, h3⟩
  rcases h with h | h
  · rw [h1] at h; cases h
  · have := inR_true h2; have := inR_true h3; omega
/-- how many items lie in the first k shards -/
def cnt (L : List Item) (s : Int) (k : Nat) : Nat := (L.filter fun x => decide (sh x.key s < (k : Int))).length
theorem filter_split {α : Type} (p q r : α → Bool) : ∀ L : List α, (∀ x ∈ L, r x = (p x || q x) ∧ (p x && q x) = false) → (L.filter r).length = (L.filter p).length + (L.filter q).length := by
  intro L
  induction L with
  | nil => intro _; rfl
  | cons a l ih =>
    intro h
    have h1 := h a (by simp)
    have h2 := ih (fun x hx => h x (by simp [hx]))
    cases hp : p a <;> cases hq : q a <;> simp [hp, hq] at h1 <;> simp [hp, hq, h1, h2] <;> omega
theorem cnt_succ (L : List Item) (s : Int) (k : Nat) : cnt L s (k + 1) = cnt L s k + (shardItems L s k).length := by
  unfold cnt shardItems
  refine filter_split _ _ _ L (fun x _ => ?_)
  constructor
  · rw [Bool.eq_iff_iff]; simp; omega
  · simp; omega
theorem cnt_zero {L : List Item} {s : Int} (hv : validStore L = true) (h1 : 1 ≤ s) (h2 : s ≤ 8) : cnt L s 0 = 0 := by
  unfold cnt
  rw [List.length_eq_zero_iff, List.filter_eq_nil_iff]
  intro x hx
  have hk := key_of_valid ((validStore_of hv).2.1 x hx)
  have := sh_range hk.1 hk.2 h1 h2
  simp
  omega
theorem cnt_all {L : List Item} {s : Nat} (hv : validStore L = true) (h1 : 1 ≤ s) (h2 : s ≤ 8) : cnt L s s = L.length := by
  unfold cnt
  congr 1
  rw [List.filter_eq_self]
  intro x hx
  have hk := key_of_valid ((validStore_of hv).2.1 x hx)
  have := sh_range hk.1 hk.2 (s := (s : Int)) (by omega) (by omega)
  simp
  omega
theorem keys_apart {L : List Item} (hv : validStore L = true) {i j : Nat} (hi : i < L.length) (hj : j < L.length) (h : j < i) : L[j].key < L[i].key := by
  have := (validStore_of hv).2.2
  rw [List.pairwise_map, List.pairwise_iff_getElem] at this
  exact this j i hj hi h
theorem valid_filter {L : List Item} (hv : validStore L = true) (p : Item → Bool) : validStore (L.filter p) = true := by
  obtain ⟨h1, h2, h3⟩ := validStore_of hv
  refine validStore_to (Nat.le_trans (List.length_filter_le _ _) h1) (fun x hx => h2 x (List.mem_filter.1 hx).1) ?_
  exact List.Pairwise.sublist (List.Sublist.map _ List.filter_sublist) h3
end M
end Go.Proofs.YtibbpbbgmgdpdaaGreatDoor

namespace Go.Proofs.YtibbpbbgmgdpdaaGreatDoor
namespace M
def put (L : List Item) (x : Item) : List Item := L.filter (fun y => decide (y.key < x.key)) ++ [x] ++ L.filter (fun y => decide (x.key < y.key))
def PutItem (L : List Item) (x : Item) : Option (List Item) := if validStore L = true ∧ validItem x = true ∧ validStore (put L x) = true then some (put L x) else none
def keyAt (L : List Item) (k : Int) : Int := match L.findIdx? (fun x => decide (x.key = k)) with | some i => (i : Int) | none => -1
def dropKey (L : List Item) (k : Int) : List Item := L.filter fun y => decide (y.key ≠ k)
def DropItem (L : List Item) (k : Int) : Option (List Item) := if validStore L = true ∧ 0 ≤ keyAt L k then some (dropKey L k) else none
theorem filter_take {L : List Item} {p : Item → Bool} {k : Nat} (hk : k < L.length) : (L.take (k + 1)).filter p = (L.take k).filter p ++ (if p L[k] = true then [L[k]] else []) := by
  rw [List.take_succ_eq_append_getElem hk, List.filter_append]
  congr 1
  by_cases h : p L[k] = true <;> simp [h]
end M
end Go.Proofs.YtibbpbbgmgdpdaaGreatDoor

namespace Go.Proofs.YtibbpbbgmgdpdaaGreatDoor
set_option linter.unusedVariables false
namespace M
def keyB (e x : Entry) : Bool := x.item.key == e.item.key
/-- does no later entry have the key of the entry at place i? -/
def keepAt (L : List Entry) (i : Nat) : Bool := match L[i]? with | some e => !(L.drop (i + 1)).any (keyB e) | none => false
def shortTo (L : List Entry) : Nat → List Entry
  | 0 => []
  | k + 1 => shortTo L k ++ (if keepAt L k = true then (L[k]?).toList else [])
def short (L : List Entry) : List Entry := shortTo L L.length
def ShortLog (L : List Entry) : List Entry := if validLog L = true then short L else []
theorem keepAt_eq {L : List Entry} {k : Nat} (hk : k < L.length) : keepAt L k = !(L.drop (k + 1)).any (keyB L[k]) := by
  unfold keepAt; rw [List.getElem?_eq_getElem hk]
theorem shortTo_succ {L : List Entry} {k : Nat} (hk : k < L.length) : shortTo L (k + 1) = shortTo L k ++ (if (L.drop (k + 1)).any (keyB L[k]) = true then [] else [L[k]]) := by
  show shortTo L k ++ _ = _
  rw [keepAt_eq hk, List.getElem?_eq_getElem hk]
  cases (L.drop (k + 1)).any (keyB L[k]) <;> simp
theorem shortTo_sub (L : List Entry) : ∀ k, (shortTo L k).Sublist (L.take k) := by
  intro k
  induction k with
  | zero => simp [shortTo]
  | succ k ih =>
    show (shortTo L k ++ _).Sublist _
    rw [List.take_add_one]
    refine List.Sublist.append ih ?_
    split
    · exact List.Sublist.refl _
    · exact List.nil_sublist _
theorem short_sub (L : List Entry) : (short L).Sublist L := by
  have := shortTo_sub L L.length
  rwa [List.take_length] at this
theorem shortTo_len (L : List Entry) (k : Nat) : (shortTo L k).length ≤ k := by
  have := (shortTo_sub L k).length_le
  rw [List.length_take] at this
  omega
/-- a recursive form -/
def shortR : List Entry → List Entry
  | [] => []
  | e :: r => if r.any (keyB e) = true then shortR r else e :: shortR r
theorem shortTo_cons (e : Entry) (r : List Entry) : ∀ k, shortTo (e :: r) (k + 1) = (if r.any (keyB e) = true then [] else [e]) ++ shortTo r k := by
  intro k
  induction k with
  | zero =>
    rw [shortTo_succ (by simp)]
    simp [shortTo]
  | succ k ih =>
    show shortTo (e :: r) (k + 1) ++ _ = _
    rw [ih]
    show _ = _ ++ (shortTo r k ++ _)
    rw [List.append_assoc]
    congr 2
theorem short_cons (e : Entry) (r : List Entry) : short (e :: r) = (if r.any (keyB e) = true then [] else [e]) ++ short r := shortTo_cons e r r.length
theorem short_eq : ∀ L, short L = shortR L := by
  intro L
  induction L with
  | nil => rfl
  | cons e r ih =>
    rw [short_cons, ih]
    show _ = if _ then _ else _
    split <;> simp
theorem short_keys {L : List Entry} {k : Int} : (∃ e ∈ short L, e.item.key = k) ↔ ∃ e ∈ L, e.item.key = k := by
  rw [short_eq]
  induction L with
  | nil => simp [shortR]
  | cons e r ih =>
    unfold shortR
    split
    · rename_i h
      rw [ih]
      constructor
      · rintro ⟨x, hx, h2⟩; exact ⟨x, by simp [hx], h2⟩
      · rintro ⟨x, hx, h2⟩
        simp only [List.mem_cons] at hx
        rcases hx with rfl | hx
        · rw [List.any_eq_true] at h
          obtain ⟨y, hy, h3⟩ := h
          exact ⟨y, hy, by have := beq_iff_eq.1 h3; omega⟩
        · exact ⟨x, hx, h2⟩
    · constructor
      · rintro ⟨x, hx, h2⟩
        simp only [List.mem_cons] at hx
        rcases hx with rfl | hx
        · exact ⟨x, by simp, h2⟩
        · obtain ⟨y, hy, h3⟩ := ih.1 ⟨x, hx, h2⟩
          exact ⟨y, by simp [hy], h3⟩
      · rintro ⟨x, hx, h2⟩
        simp only [List.mem_cons] at hx
        rcases hx with rfl | hx
        · exact ⟨x, by simp, h2⟩
        · obtain ⟨y, hy, h3⟩ := ih.2 ⟨x, hx, h2⟩
          exact ⟨y, by simp [hy], h3⟩
theorem short_apart (L : List Entry) : (short L).Pairwise (fun a b => a.item.key ≠ b.item.key) := by
  rw [short_eq]
  induction L with
  | nil => exact List.Pairwise.nil
  | cons e r ih =>
    unfold shortR
    split
    · exact ih
    · rename_i h
      refine List.Pairwise.cons (fun x hx hk => h ?_) ih
      obtain ⟨y, hy, h3⟩ := (short_keys (L := r) (k := e.item.key)).1 ⟨x, by rw [short_eq]; exact hx, hk.symm⟩
      exact List.any_eq_true.2 ⟨y, hy, beq_iff_eq.2 h3⟩
theorem short_same {L : List Entry} (h : L.Pairwise (fun a b => a.item.key ≠ b.item.key)) : short L = L := by
  rw [short_eq]
  induction L with
  | nil => rfl
  | cons e r ih =>
    rw [List.pairwise_cons] at h
    unfold shortR
    rw [if_neg, ih h.2]
    intro h9
    obtain ⟨y, hy, h3⟩ := List.any_eq_true.1 h9
    exact h.1 y hy (beq_iff_eq.1 h3).symm
theorem valid_sub {L L' : List Entry} (h : validLog L = true) (hs : L'.Sublist L) : validLog L' = true := by
  unfold validLog at h ⊢
  simp only [Bool.and_eq_true, List.all_eq_true, decide_eq_true_eq] at h ⊢
  exact ⟨fun x hx => h.1 x (hs.subset hx), by have := hs.length_le; omega⟩
theorem short_short (L : List Entry) : short (short L) = short L := short_same (short_apart L)
end M
end Go.Proofs.YtibbpbbgmgdpdaaGreatDoor

namespace Go.Proofs.YtibbpbbgmgdpdaaGreatDoor
set_option linter.unusedVariables false
namespace M
/-- the bytes of an item -/
def ib (x : Item) : List Int := x.key :: x.tags :: x.pos.map (· + 128)
/-- a page without its checksum -/
def body (L : List Item) : List Int := (L.length : Int) :: L.flatMap ib
def page (L : List Item) : List Int := body L ++ [chk (body L)]
def FormatPage (L : List Item) : List Int := if validStore L = true then page L else []
/-- the item of six bytes -/
def itemOf6 (b : List Int) : Item := ⟨b.getD 0 0, ((b.drop 2).take 4).map (· - 128), b.getD 1 0⟩
def items (b : List Int) : Nat → List Item
  | 0 => []
  | n + 1 => itemOf6 b :: items (b.drop 6) n
def store (b : List Int) : List Item := items (b.drop 1) (b.getD 0 0).toNat
def ParsePage (b : List Int) : Option (List Item) :=
  if 2 ≤ b.length ∧ (b.length : Int) = 6 * b.getD 0 0 + 2 ∧ chk (b.take (b.length - 1)) = b.getD (b.length - 1) 0 ∧ validStore (store b) = true then some (store b) else none
def bytes (b : List Int) : Prop := ∀ x ∈ b, 0 ≤ x ∧ x ≤ 255

theorem isVec_iff {l : List Int} : isVec l = true ↔ l.length = 4 ∧ ∀ x ∈ l, -100 ≤ x ∧ x ≤ 100 := by
  unfold isVec
  simp only [Bool.and_eq_true, List.all_eq_true, decide_eq_true_eq]
  exact ⟨fun ⟨a, b⟩ => ⟨b, fun x hx => inR_true (a x hx)⟩, fun ⟨a, b⟩ => ⟨fun x hx => inR_of (b x hx).1 (b x hx).2, a⟩⟩
theorem validItem_iff {x : Item} : validItem x = true ↔ (1 ≤ x.key ∧ x.key ≤ 99) ∧ (x.pos.length = 4 ∧ ∀ c ∈ x.pos, -100 ≤ c ∧ c ≤ 100) ∧ 0 ≤ x.tags ∧ x.tags ≤ 15 := by
  unfold validItem
  simp only [Bool.and_eq_true, isVec_iff]
  exact ⟨fun ⟨⟨a, b⟩, c⟩ => ⟨inR_true a, b, inR_true c⟩, fun ⟨a, b, c⟩ => ⟨⟨inR_of a.1 a.2, b⟩, inR_of c.1 c.2⟩⟩
theorem ib_length {x : Item} (h : validItem x = true) : (ib x).length = 6 := by
  have := (validItem_iff.1 h).2.1.1
  simp [ib, this]
theorem body_length {L : List Item} (h : ∀ x ∈ L, validItem x = true) : (L.flatMap ib).length = 6 * L.length := by
  induction L with
  | nil => rfl
  | cons x r ih =>
    rw [List.flatMap_cons, List.length_append, ib_length (h x (by simp)), ih (fun y hy => h y (by simp [hy]))]
    simp
    omega
theorem ib_bytes {x : Item} (h : validItem x = true) : bytes (ib x) := by
  obtain ⟨h1, ⟨h2, h3⟩, h4⟩ := validItem_iff.1 h
  intro c hc
  simp only [ib, List.mem_cons, List.mem_map] at hc
  rcases hc with rfl | rfl | ⟨d, hd, rfl⟩
  · omega
  · omega
  · have := h3 d hd; omega
theorem flat_bytes {L : List Item} (h : ∀ x ∈ L, validItem x = true) : bytes (L.flatMap ib) := by
  intro c hc
  obtain ⟨x, hx, hc⟩ := List.mem_flatMap.1 hc
  exact ib_bytes (h x hx) c hc
theorem body_bytes {L : List Item} (hl : L.length ≤ 255) (h : ∀ x ∈ L, validItem x = true) : bytes (body L) := by
  intro c hc
  simp only [body, List.mem_cons] at hc
  rcases hc with rfl | hc
  · omega
  · exact flat_bytes h c hc
theorem chk_rng (l : List Int) : 0 ≤ chk l ∧ chk l ≤ 250 := by
  unfold chk
  generalize hn : (1 : Int) = n
  have h0 : 0 ≤ n ∧ n ≤ 250 := by omega
  clear hn
  induction l generalizing n with
  | nil => exact h0
  | cons a r ih => exact ih ((31 * n + a) % 251) (by omega)
theorem page_bytes {L : List Item} (hl : L.length ≤ 255) (h : ∀ x ∈ L, validItem x = true) : bytes (page L) := by
  intro c hc
  simp only [page, List.mem_append, List.mem_singleton] at hc
  rcases hc with hc | rfl
  · exact body_bytes hl h c hc
  · have := chk_rng (body L); omega
theorem page_length {L : List Item} (h : ∀ x ∈ L, validItem x = true) : (page L).length = 6 * L.length + 2 := by
  simp [page, body, body_length h]
theorem FormatPage_bytes (L : List Item) : bytes (FormatPage L) := by
  unfold FormatPage
  split
  · rename_i h
    have := validStore_of h
    exact page_bytes (by omega) this.2.1
  · intro c hc; simp at hc
theorem FormatPage_le (L : List Item) : (FormatPage L).length ≤ 98 := by
  unfold FormatPage
  split
  · rename_i h
    have := validStore_of h
    rw [page_length this.2.1]
    omega
  · simp

/-! reading back what was written -/
theorem itemOf6_ib {x : Item} (h : validItem x = true) (r : List Int) : itemOf6 (ib x ++ r) = x := by
  obtain ⟨k, p, t⟩ := x
  have h2 := (validItem_iff.1 h).2.1.1
  simp only at h2
  have e : ((p.map (· + 128)) ++ r).take 4 = p.map (· + 128) := by
    rw [List.take_append_of_le_length (by simp [h2]), List.take_of_length_le (by simp [h2])]
  simp only [itemOf6, ib, List.cons_append, List.getD_cons_zero, List.getD_cons_succ, List.drop_succ_cons, List.drop_zero, e, List.map_map]
  congr 1
  have : ((fun x : Int => x - 128) ∘ fun x => x + 128) = id := by funext a; simp
  rw [this, List.map_id]
theorem items_flat {L : List Item} (h : ∀ x ∈ L, validItem x = true) (r : List Int) : items (L.flatMap ib ++ r) L.length = L := by
  induction L with
  | nil => rfl
  | cons x l ih =>
    have hx := h x (by simp)
    rw [List.flatMap_cons, List.append_assoc]
    show itemOf6 _ :: items _ _ = _
    rw [itemOf6_ib hx, show (ib x ++ (l.flatMap ib ++ r)).drop 6 = l.flatMap ib ++ r from by rw [List.drop_append_of_le_length (by rw [ib_length hx]; exact Nat.le_refl _), List.drop_of_length_le (by rw [ib_length hx]; exact Nat.le_refl _), List.nil_append], ih (fun y hy => h y (by simp [hy]))]
theorem store_page {L : List Item} (h : ∀ x ∈ L, validItem x = true) : store (page L) = L := by
  unfold store page body
  simp only [List.cons_append, List.drop_succ_cons, List.drop_zero, List.getD_cons_zero, Int.toNat_natCast]
  exact items_flat h _
theorem ParsePage_page {L : List Item} (hv : validStore L = true) : ParsePage (page L) = some L := by
  have hv' := validStore_of hv
  have hl := page_length hv'.2.1
  have hb : (body L).length = 6 * L.length + 1 := by simp [body, body_length hv'.2.1]
  unfold ParsePage
  rw [if_pos, store_page hv'.2.1]
  refine ⟨by omega, ?_, ?_, by rw [store_page hv'.2.1]; exact hv⟩
  · rw [hl]
    simp [page, body]
  · rw [hl]
    unfold page
    rw [show 6 * L.length + 2 - 1 = (body L).length by omega, List.take_append_of_le_length (Nat.le_refl _), List.take_of_length_le (Nat.le_refl _)]
    simp

/-! writing what was read -/
theorem items_length (b : List Int) : ∀ n, (items b n).length = n := by
  intro n
  induction n generalizing b with
  | zero => rfl
  | succ n ih => show (items _ n).length + 1 = _; rw [ih]
theorem ib_itemOf6 {b : List Int} (h : 6 ≤ b.length) : ib (itemOf6 b) = b.take 6 := by
  match b, h with
  | a :: c :: d :: e :: f :: g :: r, _ => simp [ib, itemOf6]
theorem flat_items {b : List Int} : ∀ n, 6 * n ≤ b.length → (items b n).flatMap ib = b.take (6 * n) := by
  intro n
  induction n generalizing b with
  | zero => intro _; rfl
  | succ n ih =>
    intro h
    show List.flatMap ib (itemOf6 b :: items (b.drop 6) n) = _
    rw [List.flatMap_cons, ib_itemOf6 (by omega), ih (by rw [List.length_drop]; omega), show 6 * (n + 1) = 6 + 6 * n by omega, List.take_add]
/-- of a right length: the page of what was read is the bytes just where the checksum is right -/
theorem page_store {b : List Int} (hb : bytes b) (h2 : 2 ≤ b.length) (hl : (b.length : Int) = 6 * b.getD 0 0 + 2) :
    body (store b) = b.take (b.length - 1) := by
  match b, h2 with
  | a :: r, h2 =>
    have ha := hb a (by simp)
    simp only [List.getD_cons_zero, List.length_cons] at hl
    have hn : 6 * a.toNat ≤ r.length := by omega
    unfold body store
    simp only [List.drop_succ_cons, List.drop_zero, List.getD_cons_zero]
    rw [items_length, flat_items _ hn, List.length_cons, Nat.add_sub_cancel, Int.toNat_of_nonneg ha.1]
    rw [show r.length = (6 * a.toNat) + 1 by omega, List.take_succ_cons]
theorem page_store_iff {b : List Int} (hb : bytes b) (h2 : 2 ≤ b.length) (hl : (b.length : Int) = 6 * b.getD 0 0 + 2) :
    page (store b) = b ↔ chk (b.take (b.length - 1)) = b.getD (b.length - 1) 0 := by
  unfold page
  rw [page_store hb h2 hl]
  have e : b = b.take (b.length - 1) ++ [b.getD (b.length - 1) 0] := by
    have h9 := List.take_append_drop (b.length - 1) b
    rw [show b.drop (b.length - 1) = [b.getD (b.length - 1) 0] from by
      rw [List.drop_eq_getElem_cons (by omega), List.drop_of_length_le (by omega)]
      simp [List.getD_eq_getElem?_getD, List.getElem?_eq_getElem (show b.length - 1 < b.length by omega)]] at h9
    exact h9.symm
  constructor
  · intro h
    have h3 := h.trans e
    have h4 := List.append_inj_right h3 rfl
    injection h4
  · intro h
    rw [h]
    exact e.symm
theorem ParsePage_some {b : List Int} {L : List Item} (hb : bytes b) (h : ParsePage b = some L) : validStore L = true ∧ page L = b := by
  unfold ParsePage at h
  split at h
  · rename_i hc
    injection h with h
    subst h
    exact ⟨hc.2.2.2, (page_store_iff hb hc.1 hc.2.1).2 hc.2.2.1⟩
  · cases h
theorem ParsePage_len {b : List Int} {L : List Item} (hb : bytes b) (h : ParsePage b = some L) : b.length = 6 * L.length + 2 := by
  have h1 := ParsePage_some hb h
  rw [← h1.2, page_length (validStore_of h1.1).2.1]
/-- what is not of a page's length is no page -/
theorem ParsePage_short {b : List Int} (h : (b.length : Int) ≠ 6 * b.getD 0 0 + 2) : ParsePage b = none := by
  unfold ParsePage
  rw [if_neg]
  rintro ⟨_, h2, _⟩
  exact h h2
theorem page_head (L : List Item) : ∃ r, page L = (L.length : Int) :: r := ⟨_, rfl⟩
theorem ParsePage_cut {L : List Item} (hv : validStore L = true) : ParsePage ((page L).take (6 * L.length + 1)) = none := by
  refine ParsePage_short ?_
  have hl := page_length (validStore_of hv).2.1
  obtain ⟨r, hr⟩ := page_head L
  have e : ((page L).take (6 * L.length + 1)).getD 0 0 = (L.length : Int) := by rw [hr, List.take_succ_cons]; rfl
  rw [e, List.length_take, hl]
  omega
theorem ParsePage_more {L : List Item} (hv : validStore L = true) : ParsePage (page L ++ [0]) = none := by
  refine ParsePage_short ?_
  have hl := page_length (validStore_of hv).2.1
  obtain ⟨r, hr⟩ := page_head L
  have e : (page L ++ [0]).getD 0 0 = (L.length : Int) := by rw [hr, List.cons_append]; rfl
  rw [e, List.length_append, hl]
  simp only [List.length_cons, List.length_nil]
  omega
/-- a page with another last byte is none -/
theorem ParsePage_last {L : List Item} (hv : validStore L = true) {x : Int} (hx : x ≠ chk (body L)) : ParsePage ((page L).set (6 * L.length + 1) x) = none := by
  have hb : (body L).length = 6 * L.length + 1 := by simp [body, body_length (validStore_of hv).2.1]
  have e : (page L).set (6 * L.length + 1) x = body L ++ [x] := by
    unfold page
    rw [List.set_append_right _ _ (by omega), hb, Nat.sub_self]
    rfl
  unfold ParsePage
  rw [if_neg]
  rw [e]
  rintro ⟨_, _, h, _⟩
  rw [List.length_append, List.length_singleton, Nat.add_sub_cancel, List.take_append_of_le_length (Nat.le_refl _), List.take_of_length_le (Nat.le_refl _)] at h
  apply hx
  rw [h]
  simp
theorem page_take {L : List Item} (h : ∀ x ∈ L, validItem x = true) : (page L).take (6 * L.length + 1) = body L := by
  have hb : (body L).length = 6 * L.length + 1 := by simp [body, body_length h]
  unfold page
  rw [List.take_append_of_le_length (by omega), List.take_of_length_le (by omega)]
theorem page_last {L : List Item} (h : ∀ x ∈ L, validItem x = true) : (page L)[6 * L.length + 1]? = some (chk (body L)) := by
  have hb : (body L).length = 6 * L.length + 1 := by simp [body, body_length h]
  unfold page
  rw [List.getElem?_append_right (by omega), hb, Nat.sub_self]
  rfl
end M
end Go.Proofs.YtibbpbbgmgdpdaaGreatDoor

namespace Go.Proofs.YtibbpbbgmgdpdaaGreatDoor
set_option linter.unusedVariables false
namespace M
def abs (d : Int) : Int := if d < 0 then -d else d
theorem abs_nonneg (d : Int) : 0 ≤ abs d := by unfold abs; split <;> omega
def dstep (kind n d : Int) : Int := if kind = 1 then n + d else if kind = 2 then (if n < d then d else n) else if kind = 3 then n + d * d else n + (if 0 < d then 1 else 0)
def distTo (kind : Int) (l m : List Int) : Nat → Int
  | 0 => 0
  | k + 1 => dstep kind (distTo kind l m k) (abs (l.getD k 0 - m.getD k 0))
def dist (kind : Int) (l m : List Int) : Int := distTo kind l m l.length
theorem sq_le {d : Int} (h0 : 0 ≤ d) (h1 : d ≤ 200) : 0 ≤ d * d ∧ d * d ≤ 40000 := by
  refine ⟨Int.mul_nonneg h0 h0, ?_⟩
  calc d * d ≤ 200 * d := Int.mul_le_mul_of_nonneg_right h1 h0
    _ ≤ 200 * 200 := Int.mul_le_mul_of_nonneg_left h1 (by omega)
    _ = 40000 := by decide
theorem distTo_rng {kind : Int} {l m : List Int} (hl : ∀ x ∈ l, -100 ≤ x ∧ x ≤ 100) (hm : ∀ x ∈ m, -100 ≤ x ∧ x ≤ 100) : ∀ k, 0 ≤ distTo kind l m k ∧ distTo kind l m k ≤ 40000 * k := by
  have hg : ∀ (l : List Int), (∀ x ∈ l, -100 ≤ x ∧ x ≤ 100) → ∀ k, -100 ≤ l.getD k 0 ∧ l.getD k 0 ≤ 100 := fun l hl k => by
    rw [List.getD_eq_getElem?_getD]
    cases h : l[k]? with
    | none => simp
    | some x => exact hl x (List.mem_of_getElem? h)
  intro k
  induction k with
  | zero => simp [distTo]
  | succ k ih =>
    have h1 := hg l hl k
    have h2 := hg m hm k
    have h3 : 0 ≤ abs (l.getD k 0 - m.getD k 0) ∧ abs (l.getD k 0 - m.getD k 0) ≤ 200 := by unfold abs; split <;> omega
    have h4 := sq_le h3.1 h3.2
    show 0 ≤ dstep kind (distTo kind l m k) (abs (l.getD k 0 - m.getD k 0)) ∧ dstep kind (distTo kind l m k) (abs (l.getD k 0 - m.getD k 0)) ≤ _
    generalize abs (l.getD k 0 - m.getD k 0) = d at *
    generalize distTo kind l m k = n at *
    unfold dstep
    generalize d * d = q at *
    repeat' split
    all_goals omega
theorem distTo_count {l m : List Int} : ∀ k, k ≤ l.length → k ≤ m.length → (distTo 4 l m k = 0 ↔ l.take k = m.take k) := by
  intro k
  induction k with
  | zero => intro _ _; simp [distTo]
  | succ k ih =>
    intro h1 h2
    have hn : ∀ k, 0 ≤ distTo 4 l m k := by
      intro k
      induction k with
      | zero => simp [distTo]
      | succ k ih => simp only [distTo, dstep]; split <;> (try split) <;> omega
    have hk := hn k
    have e : distTo 4 l m (k + 1) = distTo 4 l m k + (if 0 < abs (l.getD k 0 - m.getD k 0) then 1 else 0) := rfl
    rw [e, List.take_succ_eq_append_getElem (show k < l.length by omega), List.take_succ_eq_append_getElem (show k < m.length by omega)]
    have g1 : l.getD k 0 = l[k] := by simp [List.getD_eq_getElem?_getD, List.getElem?_eq_getElem (show k < l.length by omega)]
    have g2 : m.getD k 0 = m[k] := by simp [List.getD_eq_getElem?_getD, List.getElem?_eq_getElem (show k < m.length by omega)]
    rw [g1, g2]
    have i := ih (by omega) (by omega)
    constructor
    · intro h
      have h0 : distTo 4 l m k = 0 := by split at h <;> omega
      have h3 : l[k] = m[k] := by
        rw [h0] at h
        unfold abs at h
        split at h
        · omega
        · split at h <;> omega
      rw [i.1 h0, h3]
    · intro h
      have hi := List.append_inj_left' h rfl
      have h3 := List.append_inj_right' h rfl
      injection h3 with h3
      rw [i.2 hi, h3, Int.sub_self]
      rfl
theorem dist_count {l m : List Int} (h : l.length = m.length) : dist 4 l m = 0 ↔ l = m := by
  unfold dist
  rw [distTo_count _ (Nat.le_refl _) (by omega), List.take_of_length_le (Nat.le_refl _), h, List.take_of_length_le (Nat.le_refl _)]
/-- are two items the same? -/
def sameB (x y : Item) : Bool := x.key == y.key && decide (x.pos = y.pos) && x.tags == y.tags
end M
end Go.Proofs.YtibbpbbgmgdpdaaGreatDoor

namespace Go.Proofs.YtibbpbbgmgdpdaaGreatDoor
set_option linter.unusedVariables false
namespace M
def noKey (b : List Item) (x : Item) : Bool := decide (keyAt b x.key < 0)
def dropOf (x : Item) : Entry := ⟨2, ⟨x.key, [], 0⟩⟩
def putOf (x : Item) : Entry := ⟨1, x⟩
def need (a : List Item) (y : Item) : Bool := match a.find? (fun x => decide (x.key = y.key)) with | some x => !sameB x y | none => true
def dropsTo (a b : List Item) (k : Nat) : List Entry := ((a.take k).filter (noKey b)).map dropOf
def putsTo (a b : List Item) (k : Nat) : List Entry := ((b.take k).filter (need a)).map putOf
def LogBetween (a b : List Item) : List Entry := if validStore a = true ∧ validStore b = true then dropsTo a b a.length ++ putsTo a b b.length else []
theorem dropsTo_succ {a b : List Item} {k : Nat} (hk : k < a.length) : dropsTo a b (k + 1) = dropsTo a b k ++ (if noKey b a[k] = true then [dropOf a[k]] else []) := by
  unfold dropsTo
  rw [filter_take hk, List.map_append]
  split <;> rfl
theorem putsTo_succ {a b : List Item} {k : Nat} (hk : k < b.length) : putsTo a b (k + 1) = putsTo a b k ++ (if need a b[k] = true then [putOf b[k]] else []) := by
  unfold putsTo
  rw [filter_take hk, List.map_append]
  split <;> rfl
theorem dropsTo_len (a b : List Item) (k : Nat) : (dropsTo a b k).length ≤ a.length := by
  unfold dropsTo
  rw [List.length_map]
  exact Nat.le_trans (List.length_filter_le _ _) (by rw [List.length_take]; omega)
theorem putsTo_len (a b : List Item) (k : Nat) : (putsTo a b k).length ≤ b.length := by
  unfold putsTo
  rw [List.length_map]
  exact Nat.le_trans (List.length_filter_le _ _) (by rw [List.length_take]; omega)
theorem keyAt_cases (a : List Item) (k : Int) : (keyAt a k = -1 ∧ a.find? (fun x => decide (x.key = k)) = none) ∨ ∃ (i : Nat) (hi : i < a.length), keyAt a k = i ∧ a.find? (fun x => decide (x.key = k)) = some a[i] := by
  unfold keyAt
  cases h : a.findIdx? (fun x => decide (x.key = k)) with
  | none =>
    left
    refine ⟨rfl, ?_⟩
    rw [List.findIdx?_eq_none_iff] at h
    rw [List.find?_eq_none]
    intro x hx
    simpa using h x hx
  | some i =>
    right
    rw [List.findIdx?_eq_some_iff_getElem] at h
    obtain ⟨hi, hp, hj⟩ := h
    refine ⟨i, hi, rfl, ?_⟩
    rw [List.find?_eq_some_iff_getElem]
    exact ⟨hp, i, hi, rfl, fun j hj' => by simpa using hj j hj'⟩
theorem keyAt_lt (a : List Item) (k : Int) : -1 ≤ keyAt a k ∧ keyAt a k < a.length := by
  rcases keyAt_cases a k with ⟨h, _⟩ | ⟨i, hi, h, _⟩ <;> rw [h] <;> constructor <;> omega
theorem need_none {a : List Item} {y : Item} (h : a.find? (fun x => decide (x.key = y.key)) = none) : need a y = true := by unfold need; rw [h]
theorem need_some {a : List Item} {y x : Item} (h : a.find? (fun x => decide (x.key = y.key)) = some x) : need a y = !sameB x y := by unfold need; rw [h]
end M
end Go.Proofs.YtibbpbbgmgdpdaaGreatDoor

namespace Go.Proofs.YtibbpbbgmgdpdaaGreatDoor
set_option linter.unusedVariables false
namespace M
def apply (L : List Item) (e : Entry) : Option (List Item) := if e.kind = 1 then PutItem L e.item else DropItem L e.item.key
def replay : List Item → List Entry → List Item × Nat
  | L, [] => (L, 0)
  | L, e :: r => match apply L e with | some L' => ((replay L' r).1, (replay L' r).2 + 1) | none => (L, 0)
def ReplayLog (L : List Item) (l : List Entry) : List Item × Int := if validStore L = true ∧ validLog l = true then ((replay L l).1, ((replay L l).2 : Int)) else ([], -1)
/-- the item of a key -/
def get (L : List Item) (k : Int) : Option Item := L.find? fun x => decide (x.key = k)
def GetItem (L : List Item) (k : Int) : Option Item := if validStore L = true then get L k else none

theorem replay_nil (L : List Item) : replay L [] = (L, 0) := rfl
theorem replay_some {L L' : List Item} {e : Entry} (h : apply L e = some L') (r : List Entry) : replay L (e :: r) = ((replay L' r).1, (replay L' r).2 + 1) := by
  show (match apply L e with | some L' => _ | none => _) = _
  rw [h]
theorem replay_none {L : List Item} {e : Entry} (h : apply L e = none) (r : List Entry) : replay L (e :: r) = (L, 0) := by
  show (match apply L e with | some L' => _ | none => _) = _
  rw [h]
theorem replay_le : ∀ (l : List Entry) (L : List Item), (replay L l).2 ≤ l.length := by
  intro l
  induction l with
  | nil => intro L; simp [replay_nil]
  | cons e r ih =>
    intro L
    cases h : apply L e with
    | none => rw [replay_none h]; simp
    | some L' => rw [replay_some h]; have := ih L'; simp; omega

/-! stores -/
theorem valid_sublist {L L' : List Item} (h : validStore L = true) (hs : L'.Sublist L) : validStore L' = true := by
  obtain ⟨h1, h2, h3⟩ := validStore_of h
  exact validStore_to (Nat.le_trans hs.length_le h1) (fun x hx => h2 x (hs.subset hx)) (h3.sublist (hs.map _))
theorem valid_nil : validStore [] = true := validStore_to (by simp) (by simp) (by simp)
theorem keys_pw {L : List Item} (h : validStore L = true) : L.Pairwise (fun a b => a.key < b.key) := by
  have := (validStore_of h).2.2
  rwa [List.pairwise_map] at this
theorem put_pw {L : List Item} (h : validStore L = true) (x : Item) : (put L x).Pairwise (fun a b => a.key < b.key) := by
  have hp := keys_pw h
  unfold put
  rw [List.pairwise_append, List.pairwise_append]
  refine ⟨⟨hp.sublist List.filter_sublist, by simp, fun a ha b hb => ?_⟩, hp.sublist List.filter_sublist, fun a ha b hb => ?_⟩
  · simp at hb ha
    subst hb
    exact ha.2
  · simp at ha hb
    rcases ha with ha | rfl
    · omega
    · exact hb.2
theorem put_valid {L : List Item} {x : Item} (h : validStore L = true) (hx : validItem x = true) : validStore (put L x) = decide ((put L x).length ≤ 16) := by
  by_cases hl : (put L x).length ≤ 16
  · rw [decide_eq_true hl]
    refine validStore_to hl (fun y hy => ?_) (by rw [List.pairwise_map]; exact put_pw h x)
    simp only [put, List.mem_append, List.mem_filter, List.mem_singleton] at hy
    rcases hy with (hy | hy) | hy
    · exact (validStore_of h).2.1 y hy.1
    · rw [hy]; exact hx
    · exact (validStore_of h).2.1 y hy.1
  · rw [decide_eq_false hl]
    cases hv : validStore (put L x)
    · rfl
    · exact absurd (validStore_of hv).1 hl
theorem PutItem_valid {L L' : List Item} {x : Item} (h : PutItem L x = some L') : validStore L' = true := by
  unfold PutItem at h
  split at h
  · rename_i hc
    injection h with h
    rw [← h]; exact hc.2.2
  · cases h
theorem DropItem_valid {L L' : List Item} {k : Int} (h : DropItem L k = some L') : validStore L' = true := by
  unfold DropItem at h
  split at h
  · rename_i hc
    injection h with h
    rw [← h]
    exact valid_sublist hc.1 List.filter_sublist
  · cases h
theorem apply_valid {L L' : List Item} {e : Entry} (h : apply L e = some L') : validStore L' = true := by
  unfold apply at h
  split at h
  · exact PutItem_valid h
  · exact DropItem_valid h
theorem replay_valid : ∀ (l : List Entry) (L : List Item), validStore L = true → validStore (replay L l).1 = true := by
  intro l
  induction l with
  | nil => intro L h; exact h
  | cons e r ih =>
    intro L h
    cases ha : apply L e with
    | none => rw [replay_none ha]; exact h
    | some L' => rw [replay_some ha]; exact ih L' (apply_valid ha)

/-! the items of keys -/
theorem get_mem {L : List Item} {k : Int} {x : Item} (h : get L k = some x) : x ∈ L ∧ x.key = k := by
  unfold get at h
  exact ⟨List.mem_of_find?_eq_some h, by have := List.find?_some h; simpa using this⟩
theorem get_of_mem {L : List Item} (h : validStore L = true) {x : Item} (hx : x ∈ L) : get L x.key = some x := by
  have hp := keys_pw h
  clear h
  unfold get
  induction L with
  | nil => cases hx
  | cons y r ih =>
    rw [List.pairwise_cons] at hp
    rw [List.mem_cons] at hx
    rcases hx with rfl | hx
    · simp
    · have := hp.1 x hx
      rw [List.find?_cons_of_neg (by simp; omega)]
      exact ih hx hp.2
theorem get_none {L : List Item} {k : Int} : get L k = none ↔ ∀ x ∈ L, x.key ≠ k := by
  unfold get
  rw [List.find?_eq_none]
  simp
theorem get_of {L : List Item} (h : validStore L = true) {x : Item} {k : Int} (hx : x ∈ L) (hk : x.key = k) : get L k = some x := hk ▸ get_of_mem h hx
theorem get_put {L : List Item} {x : Item} (h : validStore L = true) (hv : validStore (put L x) = true) (k : Int) : get (put L x) k = if k = x.key then some x else get L k := by
  have hm : ∀ y, y ∈ put L x ↔ (y ∈ L ∧ y.key ≠ x.key) ∨ y = x := by
    intro y
    simp only [put, List.mem_append, List.mem_filter, List.mem_singleton, decide_eq_true_eq]
    constructor
    · rintro ((h | h) | h)
      · exact .inl ⟨h.1, by omega⟩
      · exact .inr h
      · exact .inl ⟨h.1, by omega⟩
    · rintro (⟨h1, h2⟩ | h)
      · by_cases h3 : y.key < x.key
        · exact .inl (.inl ⟨h1, h3⟩)
        · exact .inr ⟨h1, by omega⟩
      · exact .inl (.inr h)
  split
  · rename_i hk
    exact get_of hv ((hm x).2 (.inr rfl)) hk.symm
  · rename_i hk
    cases hg : get L k with
    | none =>
      rw [get_none] at hg ⊢
      intro y hy
      rcases (hm y).1 hy with h1 | rfl
      · exact hg y h1.1
      · exact fun e => hk e.symm
    | some y =>
      obtain ⟨h1, h2⟩ := get_mem hg
      exact get_of hv ((hm y).2 (.inl ⟨h1, by omega⟩)) h2
theorem get_drop {L : List Item} {q : Int} (h : validStore L = true) (k : Int) : get (dropKey L q) k = if k = q then none else get L k := by
  have hv : validStore (dropKey L q) = true := valid_sublist h List.filter_sublist
  split
  · rename_i hk
    subst hk
    rw [get_none]
    intro y hy
    simp [dropKey] at hy
    exact hy.2
  · rename_i hk
    cases hg : get L k with
    | none =>
      rw [get_none] at hg ⊢
      intro y hy
      simp [dropKey] at hy
      exact hg y hy.1
    | some y =>
      obtain ⟨h1, h2⟩ := get_mem hg
      exact get_of hv (by simp [dropKey]; exact ⟨h1, by omega⟩) h2
theorem keyAt_get (L : List Item) (k : Int) : (0 ≤ keyAt L k) ↔ (get L k).isSome = true := by
  rcases keyAt_cases L k with ⟨h, hf⟩ | ⟨i, hi, h, hf⟩
  · rw [h]; unfold get; rw [hf]; simp
  · rw [h]; unfold get; rw [hf]; simp
/-- two valid stores with the same items of keys are the same -/
theorem store_ext {L L' : List Item} (h : validStore L = true) (h' : validStore L' = true) (hg : ∀ k, get L k = get L' k) : L = L' := by
  have hm : ∀ x, x ∈ L ↔ x ∈ L' := fun x => ⟨fun hx => (get_mem (hg x.key ▸ get_of_mem h hx)).1, fun hx => (get_mem ((hg x.key).symm ▸ get_of_mem h' hx)).1⟩
  have hp := keys_pw h
  have hp' := keys_pw h'
  clear h h' hg
  induction L generalizing L' with
  | nil =>
    cases L' with
    | nil => rfl
    | cons y r => exact absurd ((hm y).2 (by simp)) (by simp)
  | cons x r ih =>
    cases L' with
    | nil => exact absurd ((hm x).1 (by simp)) (by simp)
    | cons y s =>
      rw [List.pairwise_cons] at hp hp'
      have hxy : x = y := by
        have h1 := (hm x).1 (by simp)
        have h2 := (hm y).2 (by simp)
        rw [List.mem_cons] at h1 h2
        rcases h1 with h1 | h1
        · exact h1
        · rcases h2 with h2 | h2
          · exact h2.symm
          · have a := hp.1 y h2
            have b := hp'.1 x h1
            omega
      subst hxy
      congr 1
      refine ih (fun z => ?_) hp.2 hp'.2
      have hz := hm z
      rw [List.mem_cons, List.mem_cons] at hz
      constructor
      · intro h1
        rcases hz.1 (.inr h1) with h2 | h2
        · subst h2; have := hp.1 z h1; omega
        · exact h2
      · intro h1
        rcases hz.2 (.inr h1) with h2 | h2
        · subst h2; have := hp'.1 z h1; omega
        · exact h2

/-- what an entry does to a key -/
def effect (e : Entry) : Option Item := if e.kind = 1 then some e.item else none
theorem apply_get {L L' : List Item} {e : Entry} (h : apply L e = some L') (k : Int) : get L' k = if k = e.item.key then effect e else get L k := by
  unfold apply at h
  unfold effect
  split at h
  · rename_i hk
    unfold PutItem at h
    split at h
    · rename_i hc
      injection h with h
      subst h
      rw [get_put hc.1 hc.2.2, if_pos hk]
    · cases h
  · rename_i hk
    unfold DropItem at h
    split at h
    · rename_i hc
      injection h with h
      subst h
      rw [get_drop hc.1, if_neg hk]
    · cases h
theorem replay_get_other {k : Int} : ∀ (l : List Entry) (L : List Item), (∀ e ∈ l, e.item.key ≠ k) → get (replay L l).1 k = get L k := by
  intro l
  induction l with
  | nil => intro L _; rfl
  | cons e r ih =>
    intro L h
    cases ha : apply L e with
    | none => rw [replay_none ha]
    | some L' =>
      rw [replay_some ha]
      show get (replay L' r).1 k = _
      rw [ih L' (fun x hx => h x (by simp [hx])), apply_get ha, if_neg (fun e1 => h e (by simp) e1.symm)]
theorem replay_append : ∀ (l m : List Entry) (L : List Item), (replay L l).2 = l.length → replay L (l ++ m) = ((replay (replay L l).1 m).1, l.length + (replay (replay L l).1 m).2) := by
  intro l
  induction l with
  | nil => intro m L _; simp [replay_nil]
  | cons e r ih =>
    intro m L h
    cases ha : apply L e with
    | none => rw [replay_none ha] at h; simp at h
    | some L' =>
      rw [replay_some ha] at h
      rw [List.cons_append, replay_some ha, replay_some ha]
      have := ih m L' (by simpa using h)
      rw [this]
      simp
      omega
theorem replay_append_stop : ∀ (l m : List Entry) (L : List Item), (replay L l).2 ≠ l.length → replay L (l ++ m) = replay L l := by
  intro l
  induction l with
  | nil => intro m L h; simp [replay_nil] at h
  | cons e r ih =>
    intro m L h
    cases ha : apply L e with
    | none => rw [List.cons_append, replay_none ha, replay_none ha]
    | some L' =>
      rw [replay_some ha] at h
      rw [List.cons_append, replay_some ha, replay_some ha]
      rw [ih m L' (by simpa using h)]
/-- a part of what is done can be done -/
theorem replay_take {l : List Entry} {L : List Item} (h : (replay L l).2 = l.length) (k : Nat) (hk : k ≤ l.length) : (replay L (l.take k)).2 = k := by
  have hl : (l.take k).length = k := by rw [List.length_take]; omega
  by_cases h1 : (replay L (l.take k)).2 = (l.take k).length
  · rw [h1, hl]
  · have := replay_append_stop (l.take k) (l.drop k) L h1
    rw [List.take_append_drop] at this
    rw [this] at h
    have h2 := replay_le (l.take k) L
    rw [hl] at h1 h2
    omega
theorem replay_halves {l : List Entry} {L : List Item} (h : (replay L l).2 = l.length) (k : Nat) (hk : k ≤ l.length) :
    (replay L (l.take k)).2 = k ∧ (replay (replay L (l.take k)).1 (l.drop k)).2 = l.length - k ∧ (replay (replay L (l.take k)).1 (l.drop k)).1 = (replay L l).1 := by
  have h1 := replay_take h k hk
  have hl : (l.take k).length = k := by rw [List.length_take]; omega
  have h2 := replay_append (l.take k) (l.drop k) L (by rw [h1, hl])
  rw [List.take_append_drop, hl] at h2
  rw [h2] at h
  refine ⟨h1, by simp at h; omega, by rw [h2]⟩
theorem replay_stop : ∀ (l : List Entry) (L : List Item), replay L (l.take (replay L l).2) = replay L l := by
  intro l
  induction l with
  | nil => intro L; rfl
  | cons e r ih =>
    intro L
    cases ha : apply L e with
    | none => rw [replay_none ha]; rfl
    | some L' =>
      have := ih L'
      rw [replay_some ha]
      show replay L ((e :: r).take ((replay L' r).2 + 1)) = _
      rw [List.take_succ_cons, replay_some ha, this]
theorem replay_next : ∀ (l : List Entry) (L : List Item) (h : (replay L l).2 < l.length), apply (replay L l).1 (l[(replay L l).2]'h) = none := by
  intro l
  induction l with
  | nil => intro L h; simp at h
  | cons e r ih =>
    intro L h
    cases ha : apply L e with
    | none => 
      have e0 := replay_none ha r
      simp only [e0]
      exact ha
    | some L' =>
      have e0 := replay_some ha r
      simp only [e0]
      have h' : (replay L' r).2 < r.length := by rw [e0] at h; simpa using h
      exact ih L' h'
/-- the last entry of a key counts -/
theorem replay_last {l : List Entry} {L : List Item} (h : (replay L l).2 = l.length) {i : Nat} (hi : i < l.length) (hn : ∀ e ∈ l.drop (i + 1), e.item.key ≠ l[i].item.key) : get (replay L l).1 l[i].item.key = effect l[i] := by
  obtain ⟨h1, h2, h3⟩ := replay_halves h i (by omega)
  rw [List.drop_eq_getElem_cons hi] at h2 h3
  cases ha : apply (replay L (l.take i)).1 l[i] with
  | none => rw [replay_none ha] at h2; simp at h2; omega
  | some L' =>
    rw [replay_some ha] at h2 h3
    rw [← h3]
    show get (replay L' _).1 _ = _
    rw [replay_get_other _ _ hn, apply_get ha, if_pos rfl]
/-- the last entry of a key -/
def lastOf : List Entry → Int → Option Entry
  | [], _ => none
  | e :: r, k => match lastOf r k with | some x => some x | none => if e.item.key = k then some e else none
theorem lastOf_cons (e : Entry) (r : List Entry) (k : Int) : lastOf (e :: r) k = (match lastOf r k with | some x => some x | none => if e.item.key = k then some e else none) := rfl
theorem replay_get : ∀ (l : List Entry) (L : List Item) (k : Int), (replay L l).2 = l.length → get (replay L l).1 k = match lastOf l k with | some e => effect e | none => get L k := by
  intro l
  induction l with
  | nil => intro L k _; rfl
  | cons e r ih =>
    intro L k h
    cases ha : apply L e with
    | none => rw [replay_none ha] at h; simp at h
    | some L' =>
      rw [replay_some ha] at h ⊢
      have := ih L' k (by simpa using h)
      show get (replay L' r).1 k = _
      rw [this, lastOf_cons]
      cases hl : lastOf r k with
      | some x => rfl
      | none =>
        show get L' k = _
        rw [apply_get ha]
        by_cases hk : e.item.key = k
        · simp [hk]
        · rw [if_neg (fun e1 : k = e.item.key => hk e1.symm)]
          simp [hk]
theorem lastOf_none {l : List Entry} {k : Int} : lastOf l k = none ↔ ∀ e ∈ l, e.item.key ≠ k := by
  induction l with
  | nil => simp [lastOf]
  | cons e r ih =>
    unfold lastOf
    cases hl : lastOf r k with
    | some x =>
      simp only [reduceCtorEq, false_iff]
      intro h
      rw [ih.2 (fun x hx => h x (by simp [hx]))] at hl
      cases hl
    | none =>
      rw [ih] at hl
      by_cases hk : e.item.key = k
      · simp [hk]
      · simp [hk]; exact hl
theorem lastOf_short (l : List Entry) (k : Int) : lastOf (short l) k = lastOf l k := by
  rw [short_eq]
  induction l with
  | nil => rfl
  | cons e r ih =>
    unfold shortR
    split
    · rename_i h
      rw [ih]
      conv => rhs; unfold lastOf
      cases hl : lastOf r k with
      | some x => rfl
      | none =>
        rw [lastOf_none] at hl
        obtain ⟨y, hy, h3⟩ := List.any_eq_true.1 h
        have h4 := beq_iff_eq.1 h3
        rw [if_neg (fun e1 => hl y hy (h4.trans e1))]
    · unfold lastOf
      rw [ih]
/-- a short log does the same -/
theorem replay_short {l : List Entry} {L : List Item} (hv : validStore L = true) (h : (replay L l).2 = l.length) (h' : (replay L (short l)).2 = (short l).length) : (replay L (short l)).1 = (replay L l).1 := by
  refine store_ext (replay_valid _ _ hv) (replay_valid _ _ hv) (fun k => ?_)
  rw [replay_get _ _ _ h, replay_get _ _ _ h', lastOf_short]
end M
end Go.Proofs.YtibbpbbgmgdpdaaGreatDoor

namespace Go.Proofs.YtibbpbbgmgdpdaaGreatDoor
set_option linter.unusedVariables false
namespace M
theorem asc_sub {m : List Int} : ∀ {l : List Int}, l.Pairwise (· < ·) → m.Pairwise (· < ·) → (∀ x ∈ l, x ∈ m) → l.Sublist m := by
  induction m with
  | nil =>
    intro l _ _ h
    cases l with
    | nil => exact List.Sublist.refl _
    | cons x r => exact absurd (h x (by simp)) (by simp)
  | cons y s ih =>
    intro l hl hm h
    cases l with
    | nil => exact List.nil_sublist _
    | cons x r =>
      rw [List.pairwise_cons] at hl hm
      by_cases hxy : x = y
      · subst hxy
        refine List.Sublist.cons_cons _ (ih hl.2 hm.2 fun z hz => ?_)
        have h1 := h z (by simp [hz])
        have h2 := hl.1 z hz
        rw [List.mem_cons] at h1
        rcases h1 with h1 | h1
        · omega
        · exact h1
      · have hx := h x (by simp)
        rw [List.mem_cons] at hx
        rcases hx with hx | hx
        · exact absurd hx hxy
        · have h3 := hm.1 x hx
          refine List.Sublist.cons _ (ih (List.pairwise_cons.2 hl) hm.2 fun z hz => ?_)
          have h1 := h z hz
          rw [List.mem_cons] at h1 hz
          rcases h1 with h1 | h1
          · rcases hz with hz | hz
            · omega
            · have := hl.1 z hz; omega
          · exact h1
theorem asc_ext {l m : List Int} (hl : l.Pairwise (· < ·)) (hm : m.Pairwise (· < ·)) (h : ∀ x, x ∈ l ↔ x ∈ m) : l = m :=
  (asc_sub hl hm fun x hx => (h x).1 hx).eq_of_length_le (asc_sub hm hl fun x hx => (h x).2 hx).length_le
theorem key_pw {L : List Item} (h : validStore L = true) : (L.map Item.key).Pairwise (· < ·) := (validStore_of h).2.2
theorem sub_pw {L S : List Item} (h : validStore L = true) (hs : S.Sublist L) : (S.map Item.key).Pairwise (· < ·) := (key_pw h).sublist (hs.map _)
theorem le_of_keys {L b : List Item} (hL : (L.map Item.key).Pairwise (· < ·)) (hb : (b.map Item.key).Pairwise (· < ·)) (h : ∀ x ∈ L, ∃ y ∈ b, y.key = x.key) : L.length ≤ b.length := by
  have := (asc_sub hL hb fun k hk => by
    obtain ⟨x, hx, rfl⟩ := List.mem_map.1 hk
    obtain ⟨y, hy, e⟩ := h x hx
    exact List.mem_map.2 ⟨y, hy, e⟩).length_le
  rwa [List.length_map, List.length_map] at this

theorem noKey_iff {b : List Item} {x : Item} : noKey b x = true ↔ get b x.key = none := by
  unfold noKey
  rw [decide_eq_true_iff]
  have := keyAt_get b x.key
  cases h : get b x.key with
  | none => rw [h] at this; simp at this; simp; omega
  | some y => rw [h] at this; simp at this; simp; omega
theorem need_get {a : List Item} {y : Item} : need a y = (match get a y.key with | some x => !sameB x y | none => true) := rfl
theorem sameB_iff {x y : Item} : sameB x y = true ↔ x = y := by
  unfold sameB
  cases x; cases y
  simp
  constructor
  · rintro ⟨⟨h1, h2⟩, h3⟩; exact ⟨h1, h2, h3⟩
  · rintro ⟨h1, h2, h3⟩; exact ⟨⟨h1, h2⟩, h3⟩

/-! drops are done -/
theorem replay_drops : ∀ (D : List Item) (L : List Item), validStore L = true → (D.map Item.key).Pairwise (· < ·) → (∀ d ∈ D, (get L d.key).isSome = true) → (replay L (D.map dropOf)).2 = D.length := by
  intro D
  induction D with
  | nil => intro L _ _ _; rfl
  | cons d r ih =>
    intro L hv hp hg
    rw [List.map_cons, List.pairwise_cons] at hp
    have ha : apply L (dropOf d) = some (dropKey L d.key) := by
      show (if (2 : Int) = 1 then _ else DropItem L d.key) = _
      rw [if_neg (by decide)]
      unfold DropItem
      rw [if_pos ⟨hv, (keyAt_get L d.key).2 (hg d (by simp))⟩]
    rw [List.map_cons, replay_some ha]
    have := ih (dropKey L d.key) (valid_sublist hv List.filter_sublist) hp.2 (fun x hx => by
      rw [get_drop hv, if_neg]
      · exact hg x (by simp [hx])
      · have := hp.1 x.key (List.mem_map_of_mem hx); omega)
    simp [this]
/-! puts are done -/
theorem replay_puts {b : List Item} (hb : validStore b = true) : ∀ (P : List Item) (L : List Item), validStore L = true → (∀ x ∈ L, ∃ y ∈ b, y.key = x.key) → (∀ y ∈ P, y ∈ b) → (replay L (P.map putOf)).2 = P.length := by
  intro P
  induction P with
  | nil => intro L _ _ _; rfl
  | cons y r ih =>
    intro L hv hk hP
    have hy := hP y (by simp)
    have hk' : ∀ x ∈ put L y, ∃ z ∈ b, z.key = x.key := by
      intro x hx
      simp only [put, List.mem_append, List.mem_filter, List.mem_singleton] at hx
      rcases hx with (h | h) | h
      · exact hk x h.1
      · subst h; exact ⟨_, hy, rfl⟩
      · exact hk x h.1
    have hpv : validStore (put L y) = true := by
      rw [put_valid hv ((validStore_of hb).2.1 y hy)]
      have := le_of_keys (by rw [List.pairwise_map]; exact put_pw hv y) (key_pw hb) hk'
      have := (validStore_of hb).1
      simp; omega
    have ha : apply L (putOf y) = some (put L y) := by
      show (if (1 : Int) = 1 then PutItem L y else _) = _
      rw [if_pos rfl]
      unfold PutItem
      rw [if_pos ⟨hv, (validStore_of hb).2.1 y hy, hpv⟩]
    rw [List.map_cons, replay_some ha]
    have := ih (put L y) hpv hk' (fun z hz => hP z (by simp [hz]))
    simp [this]

def drops (a b : List Item) : List Item := a.filter (noKey b)
def puts (a b : List Item) : List Item := b.filter (need a)
theorem LogBetween_eq {a b : List Item} (ha : validStore a = true) (hb : validStore b = true) : LogBetween a b = (drops a b).map dropOf ++ (puts a b).map putOf := by
  unfold LogBetween
  rw [if_pos ⟨ha, hb⟩]
  unfold dropsTo putsTo
  rw [List.take_length, List.take_length]
  rfl
theorem LogBetween_not {a b : List Item} (h : validStore a = false ∨ validStore b = false) : LogBetween a b = [] := by
  unfold LogBetween
  rw [if_neg]
  rintro ⟨h1, h2⟩
  rcases h with h | h
  · rw [h] at h1; cases h1
  · rw [h] at h2; cases h2
theorem lastOf_some {l : List Entry} {k : Int} {e : Entry} (h : lastOf l k = some e) : e ∈ l ∧ e.item.key = k := by
  induction l with
  | nil => cases h
  | cons x r ih =>
    unfold lastOf at h
    cases hl : lastOf r k with
    | some y =>
      rw [hl] at h
      injection h with h
      subst h
      have := ih hl
      exact ⟨by simp [this.1], this.2⟩
    | none =>
      rw [hl] at h
      simp only at h
      split at h
      · rename_i hk
        injection h with h
        subst h
        exact ⟨by simp, hk⟩
      · cases h
theorem between_done {a b : List Item} (ha : validStore a = true) (hb : validStore b = true) : (replay a (LogBetween a b)).2 = (LogBetween a b).length ∧ (replay a (LogBetween a b)).1 = b := by
  rw [LogBetween_eq ha hb]
  have hD := replay_drops (drops a b) a ha (sub_pw ha List.filter_sublist) (fun d hd => by
    rw [get_of_mem ha (List.mem_filter.1 hd).1]; rfl)
  rw [replay_append _ _ _ (by rw [hD, List.length_map])]
  have hv1 := replay_valid ((drops a b).map dropOf) a ha
  have hg1 : ∀ k, get (replay a ((drops a b).map dropOf)).1 k = if (get b k).isSome = true then get a k else none := by
    intro k
    rw [replay_get _ _ _ (by rw [hD, List.length_map])]
    cases hl : lastOf ((drops a b).map dropOf) k with
    | some e =>
      obtain ⟨h1, h2⟩ := lastOf_some hl
      obtain ⟨x, hx, rfl⟩ := List.mem_map.1 h1
      have h3 := noKey_iff.1 (List.mem_filter.1 hx).2
      have h4 : x.key = k := h2
      rw [h4] at h3
      rw [h3]
      rfl
    | none =>
      rw [lastOf_none] at hl
      show get a k = _
      split
      · rfl
      · rename_i hn
        cases hga : get a k with
        | none => rfl
        | some x =>
          obtain ⟨h1, h2⟩ := get_mem hga
          have : noKey b x = true := noKey_iff.2 (by rw [h2]; simpa using hn)
          exact absurd h2 (hl (dropOf x) (List.mem_map_of_mem (List.mem_filter.2 ⟨h1, this⟩)))
  have hk1 : ∀ x ∈ (replay a ((drops a b).map dropOf)).1, ∃ y ∈ b, y.key = x.key := by
    intro x hx
    have h1 := get_of_mem hv1 hx
    rw [hg1] at h1
    split at h1
    · rename_i hs
      rw [Option.isSome_iff_exists] at hs
      obtain ⟨y, hy⟩ := hs
      exact ⟨y, (get_mem hy).1, (get_mem hy).2⟩
    · cases h1
  have hP := replay_puts hb (puts a b) _ hv1 hk1 (fun y hy => (List.mem_filter.1 hy).1)
  refine ⟨by rw [hP, List.length_append, List.length_map, List.length_map], ?_⟩
  refine store_ext (replay_valid _ _ hv1) hb (fun k => ?_)
  rw [replay_get _ _ _ (by rw [hP, List.length_map])]
  cases hl : lastOf ((puts a b).map putOf) k with
  | some e =>
    obtain ⟨h1, h2⟩ := lastOf_some hl
    obtain ⟨y, hy, rfl⟩ := List.mem_map.1 h1
    have h4 : y.key = k := h2
    rw [← h4, get_of_mem hb (List.mem_filter.1 hy).1]
    rfl
  | none =>
    rw [lastOf_none] at hl
    show get (replay a ((drops a b).map dropOf)).1 k = _
    rw [hg1]
    cases hgb : get b k with
    | none => rfl
    | some y =>
      obtain ⟨h1, h2⟩ := get_mem hgb
      have hn : need a y = false := by
        cases h : need a y
        · rfl
        · exact absurd h2 (hl (putOf y) (List.mem_map_of_mem (List.mem_filter.2 ⟨h1, h⟩)))
      rw [need_get, h2] at hn
      show (if true = true then get a k else none) = some y
      rw [if_pos rfl]
      cases hga : get a k with
      | none => rw [hga] at hn; cases hn
      | some x =>
        rw [hga] at hn
        have : sameB x y = true := by simpa using hn
        rw [sameB_iff.1 this]
theorem between_valid {a b : List Item} (ha : validStore a = true) (hb : validStore b = true) : validLog (LogBetween a b) = true := by
  rw [LogBetween_eq ha hb]
  unfold validLog
  simp only [Bool.and_eq_true, List.all_eq_true, decide_eq_true_eq]
  constructor
  · intro e he
    rw [List.mem_append, List.mem_map, List.mem_map] at he
    rcases he with ⟨x, hx, rfl⟩ | ⟨x, hx, rfl⟩
    · have := key_of_valid ((validStore_of ha).2.1 x (List.mem_filter.1 hx).1)
      unfold validEntry
      rw [if_pos (show (dropOf x).kind = 2 from rfl)]
      show (inR x.key 1 99 && decide (([] : List Int).length = 0) && decide ((0 : Int) = 0)) = true
      rw [inR_of this.1 this.2]; rfl
    · unfold validEntry
      rw [if_neg (by show ¬ (1 : Int) = 2; decide)]
      show (decide ((1 : Int) = 1) && validItem x) = true
      rw [(validStore_of hb).2.1 x (List.mem_filter.1 hx).1]; rfl
  · rw [List.length_append, List.length_map, List.length_map]
    have h1 := List.length_filter_le (noKey b) a
    have h2 := List.length_filter_le (need a) b
    have h3 := (validStore_of ha).1
    have h4 := (validStore_of hb).1
    unfold drops puts
    omega
theorem between_keys {a b : List Item} (ha : validStore a = true) (hb : validStore b = true) : (LogBetween a b).Pairwise (fun x y => x.item.key ≠ y.item.key) := by
  rw [LogBetween_eq ha hb, List.pairwise_append]
  refine ⟨?_, ?_, fun e he f hf => ?_⟩
  · have := sub_pw ha (List.filter_sublist (p := noKey b))
    rw [List.pairwise_map] at this ⊢
    exact this.imp fun {x y} h => by show x.key ≠ y.key; omega
  · have := sub_pw hb (List.filter_sublist (p := need a))
    rw [List.pairwise_map] at this ⊢
    exact this.imp fun {x y} h => by show x.key ≠ y.key; omega
  · obtain ⟨x, hx, rfl⟩ := List.mem_map.1 he
    obtain ⟨y, hy, rfl⟩ := List.mem_map.1 hf
    have h1 := noKey_iff.1 (List.mem_filter.1 hx).2
    rw [get_none] at h1
    exact fun h => h1 y (List.mem_filter.1 hy).1 h.symm
theorem between_short {a b : List Item} (ha : validStore a = true) (hb : validStore b = true) : ShortLog (LogBetween a b) = LogBetween a b := by
  unfold ShortLog
  rw [if_pos (between_valid ha hb), short_same (between_keys ha hb)]
theorem between_self {a : List Item} : LogBetween a a = [] := by
  cases ha : validStore a
  · exact LogBetween_not (.inl ha)
  · rw [LogBetween_eq ha ha]
    have h1 : drops a a = [] := by
      unfold drops
      rw [List.filter_eq_nil_iff]
      intro x hx h
      rw [noKey_iff, get_of_mem ha hx] at h
      cases h
    have h2 : puts a a = [] := by
      unfold puts
      rw [List.filter_eq_nil_iff]
      intro x hx h
      rw [need_get, get_of_mem ha hx] at h
      have : sameB x x = true := sameB_iff.2 rfl
      simp [this] at h
    rw [h1, h2]; rfl
theorem between_fill {b : List Item} (hb : validStore b = true) : LogBetween [] b = b.map putOf := by
  rw [LogBetween_eq valid_nil hb]
  have h2 : puts [] b = b := by
    unfold puts
    rw [List.filter_eq_self]
    intro x hx
    rfl
  rw [h2]; rfl
theorem between_gone {b : List Item} (hb : validStore b = true) : LogBetween b [] = b.map dropOf := by
  rw [LogBetween_eq hb valid_nil]
  have h2 : drops b [] = b := by
    unfold drops
    rw [List.filter_eq_self]
    intro x hx
    rfl
  rw [h2]
  show _ ++ [] = _
  rw [List.append_nil]

/-! the keys that differ -/
def differ (x y : Option Item) : Bool := match x, y with | some x, some y => !sameB x y | none, none => false | _, _ => true
def keys99 : List Int := (List.range 99).map fun i : Nat => (i : Int) + 1
theorem mem_keys99 {k : Int} : k ∈ keys99 ↔ 1 ≤ k ∧ k ≤ 99 := by
  unfold keys99
  rw [List.mem_map]
  constructor
  · rintro ⟨i, hi, rfl⟩; rw [List.mem_range] at hi; omega
  · rintro ⟨h1, h2⟩; exact ⟨(k - 1).toNat, by rw [List.mem_range]; omega, by omega⟩
theorem keys99_pw : keys99.Pairwise (· < ·) := by
  unfold keys99
  rw [List.pairwise_map]
  exact List.pairwise_lt_range.imp fun h => by omega
def changed (a b : List Item) : List Int := keys99.filter fun k => differ (get a k) (get b k)
theorem differ_comm (x y : Option Item) : differ x y = differ y x := by
  cases x <;> cases y <;> try rfl
  rename_i x y
  show (!sameB x y) = !sameB y x
  congr 1
  rw [Bool.eq_iff_iff, sameB_iff, sameB_iff]
  exact ⟨fun h => h.symm, fun h => h.symm⟩
theorem changed_comm (a b : List Item) : changed a b = changed b a := by
  unfold changed
  congr 1
  funext k
  exact differ_comm _ _
theorem differ_self (x : Option Item) : differ x x = false := by
  cases x with
  | none => rfl
  | some x =>
    show (!sameB x x) = false
    rw [sameB_iff.2 rfl]; rfl
theorem changed_self (a : List Item) : changed a a = [] := by
  unfold changed
  rw [List.filter_eq_nil_iff]
  intro k _
  rw [differ_self]
  simp
theorem filter_keys {L : List Item} (hL : validStore L = true) (p : Item → Bool) (q : Int → Bool) (h : ∀ x ∈ L, p x = q x.key) : (L.filter p).map Item.key = keys99.filter fun k => (get L k).isSome && q k := by
  refine asc_ext (sub_pw hL List.filter_sublist) (keys99_pw.sublist List.filter_sublist) (fun k => ?_)
  rw [List.mem_map, List.mem_filter, mem_keys99]
  constructor
  · rintro ⟨x, hx, rfl⟩
    rw [List.mem_filter] at hx
    have hk := key_of_valid ((validStore_of hL).2.1 x hx.1)
    refine ⟨hk, ?_⟩
    rw [get_of_mem hL hx.1, ← h x hx.1, hx.2]; rfl
  · rintro ⟨_, h2⟩
    rw [Bool.and_eq_true, Option.isSome_iff_exists] at h2
    obtain ⟨⟨x, hx⟩, h3⟩ := h2
    obtain ⟨h4, h5⟩ := get_mem hx
    exact ⟨x, List.mem_filter.2 ⟨h4, by rw [h x h4, h5]; exact h3⟩, h5⟩
theorem filter_two {α : Type} {p q r : α → Bool} (h : ∀ x, r x = (p x || q x)) (hn : ∀ x, p x = true → q x = true → False) (l : List α) : (l.filter p).length + (l.filter q).length = (l.filter r).length := by
  induction l with
  | nil => rfl
  | cons x s ih =>
    rw [List.filter_cons, List.filter_cons, List.filter_cons, h x]
    cases hp : p x <;> cases hq : q x
    · simpa using ih
    · simp; omega
    · simp; omega
    · exact absurd (hn x hp hq) id
theorem drops_keys {a b : List Item} (ha : validStore a = true) : (drops a b).map Item.key = keys99.filter fun k => (get a k).isSome && (get b k).isNone := by
  refine filter_keys ha _ (fun k => (get b k).isNone) (fun x hx => ?_)
  rw [Bool.eq_iff_iff, noKey_iff, Option.isNone_iff_eq_none]
theorem puts_keys {a b : List Item} (hb : validStore b = true) : (puts a b).map Item.key = keys99.filter fun k => (get b k).isSome && differ (get a k) (get b k) := by
  refine filter_keys hb _ (fun k => differ (get a k) (get b k)) (fun x hx => ?_)
  rw [need_get, get_of_mem hb hx]
  cases get a x.key <;> rfl
theorem between_len {a b : List Item} (ha : validStore a = true) (hb : validStore b = true) : (LogBetween a b).length = (changed a b).length := by
  rw [LogBetween_eq ha hb, List.length_append, List.length_map, List.length_map]
  have h1 := congrArg List.length (drops_keys (b := b) ha)
  have h2 := congrArg List.length (puts_keys (a := a) hb)
  rw [List.length_map] at h1 h2
  rw [h1, h2]
  refine filter_two (fun k => ?_) (fun k => ?_) keys99
  · cases get a k <;> cases get b k <;> simp [differ]
  · cases get a k <;> cases get b k <;> simp [differ]
theorem between_back {a b : List Item} (ha : validStore a = true) (hb : validStore b = true) : (LogBetween b a).length = (LogBetween a b).length := by
  rw [between_len ha hb, between_len hb ha, changed_comm]
theorem between_mem {a b : List Item} (ha : validStore a = true) (hb : validStore b = true) {e : Entry} (he : e ∈ LogBetween a b) : e.item.key ∈ changed a b := by
  rw [LogBetween_eq ha hb, List.mem_append, List.mem_map, List.mem_map] at he
  unfold changed
  rcases he with ⟨x, hx, rfl⟩ | ⟨x, hx, rfl⟩
  · have h1 : x.key ∈ (drops a b).map Item.key := List.mem_map_of_mem hx
    rw [drops_keys ha, List.mem_filter] at h1
    refine List.mem_filter.2 ⟨h1.1, ?_⟩
    have h2 := h1.2
    show differ (get a x.key) (get b x.key) = true
    revert h2
    cases get a x.key <;> cases get b x.key <;> simp [differ]
  · have h1 : x.key ∈ (puts a b).map Item.key := List.mem_map_of_mem hx
    rw [puts_keys hb, List.mem_filter] at h1
    refine List.mem_filter.2 ⟨h1.1, ?_⟩
    have h2 := h1.2
    show differ (get a x.key) (get b x.key) = true
    revert h2
    cases get a x.key <;> cases get b x.key <;> simp [differ]
end M
end Go.Proofs.YtibbpbbgmgdpdaaGreatDoor

namespace Go.Proofs.YtibbpbbgmgdpdaaGreatDoor
set_option linter.unusedVariables false
namespace M
def tAt (l : List Int) (j : Nat) : Bool :=
  match l[j]?, l[j - 1]? with
  | some x, some y => inR x 1 1000 && (j == 0 || decide (y ≤ x))
  | _, _ => true
def tTo (l : List Int) (k : Nat) : Bool := (List.range k).all (tAt l)
def timesOk (l : List Int) : Bool := tTo l l.length
theorem tTo_succ (l : List Int) (k : Nat) : tTo l (k + 1) = (tTo l k && tAt l k) := by
  unfold tTo
  rw [List.range_succ, List.all_append]
  simp
theorem tTo_stop {l : List Int} {k : Nat} (hk : k < l.length) (h : tAt l k = false) : timesOk l = false := by
  unfold timesOk tTo
  rw [List.all_eq_false]
  exact ⟨k, by simpa using hk, by simp [h]⟩
theorem tAt_eq {l : List Int} {k : Nat} (hk : k < l.length) : tAt l k = (inR l[k] 1 1000 && (k == 0 || decide ((l[k - 1]'(by omega)) ≤ l[k]))) := by
  unfold tAt
  rw [List.getElem?_eq_getElem hk, List.getElem?_eq_getElem (show k - 1 < l.length by omega)]
theorem timesOk_iff {l : List Int} : timesOk l = true ↔ (∀ x ∈ l, 1 ≤ x ∧ x ≤ 1000) ∧ l.Pairwise (· ≤ ·) := by
  unfold timesOk tTo
  simp only [List.all_eq_true, List.mem_range]
  constructor
  · intro h
    have hv : ∀ k (hk : k < l.length), 1 ≤ l[k] ∧ l[k] ≤ 1000 := fun k hk => by
      have := h k hk
      rw [tAt_eq hk, Bool.and_eq_true] at this
      exact inR_true this.1
    have hs : ∀ k (hk : k + 1 < l.length), (l[k]'(by omega)) ≤ l[k + 1] := fun k hk => by
      have := h (k + 1) hk
      rw [tAt_eq hk, Bool.and_eq_true, Bool.or_eq_true] at this
      rcases this.2 with h0 | h0
      · simp at h0
      · exact of_decide_eq_true h0
    refine ⟨fun x hx => ?_, ?_⟩
    · obtain ⟨k, hk, rfl⟩ := List.getElem_of_mem hx
      exact hv k hk
    · have hm : ∀ d i (hi : i + d + 1 < l.length), (l[i]'(by omega)) ≤ (l[i + d + 1]'hi) := by
        intro d
        induction d with
        | zero => intro i hi; exact hs i hi
        | succ d ih =>
          intro i hi
          have h3 := ih i (by omega)
          have h4 := hs (i + d + 1) hi
          have h5 : i + (d + 1) + 1 = i + d + 1 + 1 := by omega
          simp only [h5]
          omega
      rw [List.pairwise_iff_getElem]
      intro i j hi hj hij
      have := hm (j - i - 1) i (by omega)
      have h5 : i + (j - i - 1) + 1 = j := by omega
      simp only [h5] at this
      exact this
  · rintro ⟨h1, h2⟩ k hk
    rw [tAt_eq hk, Bool.and_eq_true, Bool.or_eq_true]
    have := h1 _ (List.getElem_mem hk)
    refine ⟨inR_of this.1 this.2, ?_⟩
    rcases Nat.eq_zero_or_pos k with h0 | h0
    · subst h0; exact .inl rfl
    · rw [List.pairwise_iff_getElem] at h2
      exact .inr (decide_eq_true (h2 (k - 1) k (by omega) hk (by omega)))
def validHist (h : Hist) : Bool := validLog h.log && decide (h.times.length = h.log.length) && timesOk h.times && decide ((replay [] h.log).2 = h.log.length)
theorem validHist_iff {h : Hist} : validHist h = true ↔ validLog h.log = true ∧ h.times.length = h.log.length ∧ timesOk h.times = true ∧ (replay [] h.log).2 = h.log.length := by
  unfold validHist
  simp only [Bool.and_eq_true, decide_eq_true_eq, and_assoc]
/-- how many times are not behind t -/
def upTo (l : List Int) (t : Int) : Nat := (l.filter fun x => decide (x ≤ t)).length
theorem upTo_le (l : List Int) (t : Int) : upTo l t ≤ l.length := List.length_filter_le _ _
/-- of rising times the first ones are those not behind t -/
theorem filter_upTo {l : List Int} (h : l.Pairwise (· ≤ ·)) (t : Int) : l.filter (fun x => decide (x ≤ t)) = l.take (upTo l t) := by
  unfold upTo
  induction l with
  | nil => rfl
  | cons x r ih =>
    rw [List.pairwise_cons] at h
    by_cases hx : x ≤ t
    · rw [List.filter_cons_of_pos (by simpa using hx), List.length_cons, List.take_succ_cons, ← ih h.2]
    · have : (x :: r).filter (fun x => decide (x ≤ t)) = [] := by
        rw [List.filter_eq_nil_iff]
        intro y hy
        rw [List.mem_cons] at hy
        rcases hy with rfl | hy
        · simpa using hx
        · have := h.1 y hy; simp; omega
      rw [this]; rfl
theorem upTo_spec {l : List Int} (h : l.Pairwise (· ≤ ·)) (t : Int) {i : Nat} (hi : i < l.length) : l[i] ≤ t ↔ i < upTo l t := by
  have h1 := filter_upTo h t
  have h2 := upTo_le l t
  constructor
  · intro hx
    rcases Nat.lt_or_ge i (upTo l t) with h3 | h3
    · exact h3
    · exfalso
      have hd : (l.drop (upTo l t)).filter (fun x => decide (x ≤ t)) = [] := by
        have h4 : (l.take (upTo l t) ++ l.drop (upTo l t)).filter (fun x => decide (x ≤ t)) = l.take (upTo l t) := by rw [List.take_append_drop]; exact h1
        rw [List.filter_append] at h4
        have h5 : (l.take (upTo l t)).filter (fun x => decide (x ≤ t)) = l.take (upTo l t) := by
          rw [List.filter_eq_self]
          intro y hy
          rw [← h1, List.mem_filter] at hy
          exact hy.2
        rw [h5] at h4
        have h6 := congrArg List.length h4
        rw [List.length_append] at h6
        exact List.eq_nil_of_length_eq_zero (by omega)
      rw [List.filter_eq_nil_iff] at hd
      refine hd l[i] ?_ (by simpa using hx)
      rw [List.mem_drop_iff_getElem]
      exact ⟨i - upTo l t, by omega, by congr 1; omega⟩
  · intro h3
    have : l[i] ∈ l.take (upTo l t) := by
      rw [List.mem_take_iff_getElem]
      exact ⟨i, by omega, rfl⟩
    rw [← h1, List.mem_filter] at this
    simpa using this.2
def takeH (h : Hist) (n : Nat) : Hist := ⟨h.log.take n, h.times.take n⟩
def storeAt (h : Hist) (t : Int) : List Item := (replay [] (h.log.take (upTo h.times t))).1
def StoreAt (h : Hist) (t : Int) : List Item := if validHist h = true ∧ inR t 0 1000 = true then storeAt h t else []
def addH (h : Hist) (e : Entry) (t : Int) : Hist := ⟨h.log ++ [e], h.times ++ [t]⟩
def AddEntry (h : Hist) (e : Entry) (t : Int) : Option Hist := if validHist h = true ∧ validHist (addH h e t) = true then some (addH h e t) else none
def RollBack (h : Hist) (t : Int) : Option Hist := if validHist h = true ∧ inR t 0 1000 = true then some (takeH h (upTo h.times t)) else none
def ChangedKeys (h : Hist) (a b : Int) : List Int := if validHist h = true ∧ inR a 0 1000 = true ∧ inR b 0 1000 = true then changed (storeAt h a) (storeAt h b) else []
theorem timesOk_pw {l : List Int} (h : timesOk l = true) : l.Pairwise (· ≤ ·) := (timesOk_iff.1 h).2
theorem upTo_all {l : List Int} (h : timesOk l = true) {t : Int} (ht : 1000 ≤ t) : upTo l t = l.length := by
  unfold upTo
  rw [List.filter_eq_self.2]
  intro x hx
  have := (timesOk_iff.1 h).1 x hx
  simp; omega
theorem upTo_zero {l : List Int} (h : timesOk l = true) {t : Int} (ht : t ≤ 0) : upTo l t = 0 := by
  unfold upTo
  rw [List.filter_eq_nil_iff.2]
  · rfl
  · intro x hx
    have := (timesOk_iff.1 h).1 x hx
    simp; omega
theorem upTo_take {l : List Int} (h : l.Pairwise (· ≤ ·)) (s t : Int) : upTo (l.take (upTo l s)) t = if s ≤ t then upTo l s else upTo l t := by
  rw [← filter_upTo h s]
  unfold upTo
  rw [List.filter_filter]
  split
  · congr 1
    refine List.filter_congr fun x _ => ?_
    rw [Bool.eq_iff_iff]; simp; omega
  · congr 1
    refine List.filter_congr fun x _ => ?_
    rw [Bool.eq_iff_iff]; simp; omega
theorem take_valid {h : Hist} (hv : validHist h = true) (n : Nat) : validHist (takeH h n) = true := by
  obtain ⟨h1, h2, h3, h4⟩ := validHist_iff.1 hv
  refine validHist_iff.2 ⟨valid_sub h1 (List.take_sublist _ _), ?_, ?_, ?_⟩
  · show (h.times.take n).length = (h.log.take n).length
    rw [List.length_take, List.length_take, h2]
  · obtain ⟨a, b⟩ := timesOk_iff.1 h3
    exact timesOk_iff.2 ⟨fun x hx => a x (List.mem_of_mem_take hx), b.sublist (List.take_sublist _ _)⟩
  · show (replay [] (h.log.take n)).2 = (h.log.take n).length
    by_cases hn : n ≤ h.log.length
    · rw [replay_take h4 n hn, List.length_take]; omega
    · rw [List.take_of_length_le (by omega)]; exact h4
theorem take_all (h : Hist) (n : Nat) (h1 : h.log.length ≤ n) (h2 : h.times.length ≤ n) : takeH h n = h := by
  unfold takeH
  rw [List.take_of_length_le h1, List.take_of_length_le h2]
theorem store_valid (h : Hist) (t : Int) : validStore (storeAt h t) = true := replay_valid _ _ valid_nil
theorem storeAt_take {h : Hist} (hv : validHist h = true) (s t : Int) : storeAt (takeH h (upTo h.times s)) t = storeAt h (if s ≤ t then s else t) := by
  obtain ⟨h1, h2, h3, h4⟩ := validHist_iff.1 hv
  unfold storeAt takeH
  show (replay [] ((h.log.take (upTo h.times s)).take (upTo (h.times.take (upTo h.times s)) t))).1 = _
  rw [upTo_take (timesOk_pw h3), List.take_take]
  split
  · rw [Nat.min_self]
  · rename_i hst
    have : upTo h.times t ≤ upTo h.times s := by
      unfold upTo
      refine (List.Sublist.length_le ?_)
      have e : h.times.filter (fun x => decide (x ≤ t)) = (h.times.filter (fun x => decide (x ≤ s))).filter (fun x => decide (x ≤ t)) := by
        rw [List.filter_filter]
        refine List.filter_congr fun x _ => ?_
        rw [Bool.eq_iff_iff]; simp; omega
      rw [e]
      exact List.filter_sublist
    rw [Nat.min_eq_left this]
theorem storeAt_all {h : Hist} (hv : validHist h = true) {t : Int} (ht : 1000 ≤ t) : storeAt h t = (replay [] h.log).1 := by
  obtain ⟨h1, h2, h3, h4⟩ := validHist_iff.1 hv
  unfold storeAt
  rw [upTo_all h3 ht, h2, List.take_length]
theorem storeAt_zero {h : Hist} (hv : validHist h = true) {t : Int} (ht : t ≤ 0) : storeAt h t = [] := by
  obtain ⟨h1, h2, h3, h4⟩ := validHist_iff.1 hv
  unfold storeAt
  rw [upTo_zero h3 ht]; rfl
theorem storeAt_between {h : Hist} {t : Int} (hn : t ∉ h.times) : storeAt h (t - 1) = storeAt h t := by
  unfold storeAt upTo
  have e : h.times.filter (fun x => decide (x ≤ t - 1)) = h.times.filter (fun x => decide (x ≤ t)) := by
    refine List.filter_congr fun x hx => ?_
    have : x ≠ t := fun e => hn (e ▸ hx)
    rw [Bool.eq_iff_iff]; simp; omega
  rw [e]
/-! adding -/
theorem add_valid_of {h : Hist} {e : Entry} {t : Int} (hv : validHist (addH h e t) = true) : validEntry e = true ∧ 1 ≤ t ∧ t ≤ 1000 ∧ ∀ x ∈ h.times, x ≤ t := by
  obtain ⟨h1, h2, h3, h4⟩ := validHist_iff.1 hv
  have a : validEntry e = true := by
    unfold validLog at h1
    simp only [Bool.and_eq_true, List.all_eq_true] at h1
    exact h1.1 e (by simp [addH])
  obtain ⟨b, c⟩ := timesOk_iff.1 h3
  have hb := b t (by simp [addH])
  refine ⟨a, hb.1, hb.2, fun x hx => ?_⟩
  have c : (h.times ++ [t]).Pairwise (· ≤ ·) := c
  rw [List.pairwise_append] at c
  exact c.2.2 x hx t (by simp)
theorem add_late {h : Hist} {e : Entry} {s t : Int} (hv : validHist h = true) (ha : validHist (addH h e t) = true) (hs : 1 ≤ s ∧ s ≤ 1000) (hl : ∀ x ∈ h.times, x ≤ s) : validHist (addH h e s) = true := by
  obtain ⟨h1, h2, h3, h4⟩ := validHist_iff.1 ha
  obtain ⟨g1, g2, g3, g4⟩ := validHist_iff.1 hv
  refine validHist_iff.2 ⟨h1, ?_, ?_, h4⟩
  · show (h.times ++ [s]).length = (h.log ++ [e]).length
    rw [List.length_append, List.length_append, g2]; rfl
  · obtain ⟨b, c⟩ := timesOk_iff.1 g3
    refine timesOk_iff.2 ⟨fun x hx => ?_, ?_⟩
    · have hx : x ∈ h.times ++ [s] := hx
      rw [List.mem_append, List.mem_singleton] at hx
      rcases hx with hx | rfl
      · exact b x hx
      · exact hs
    · show (h.times ++ [s]).Pairwise (· ≤ ·)
      rw [List.pairwise_append]
      exact ⟨c, by simp, fun x hx y hy => by simp at hy; subst hy; exact hl x hx⟩
theorem add_early {h : Hist} {e : Entry} {s : Int} (hn : ∃ x ∈ h.times, s < x) : validHist (addH h e s) = false := by
  cases hv : validHist (addH h e s)
  · rfl
  · obtain ⟨x, hx, h1⟩ := hn
    have := (add_valid_of hv).2.2.2 x hx
    omega
theorem upTo_append (l : List Int) (t s : Int) : upTo (l ++ [t]) s = upTo l s + if t ≤ s then 1 else 0 := by
  unfold upTo
  rw [List.filter_append, List.length_append]
  congr 1
  by_cases h : t ≤ s
  · rw [List.filter_cons_of_pos (by simpa using h), if_pos h]; rfl
  · rw [List.filter_cons_of_neg (by simpa using h), if_neg h]; rfl
theorem upTo_of_le {l : List Int} {s : Int} (h : ∀ x ∈ l, x ≤ s) : upTo l s = l.length := by
  unfold upTo
  rw [List.filter_eq_self.2]
  intro x hx
  simpa using h x hx
/-- earlier times: the same behind AddEntry -/
theorem storeAt_add_early {h : Hist} {e : Entry} {t s : Int} (hv : validHist h = true) (hs : s < t) : storeAt (addH h e t) s = storeAt h s := by
  obtain ⟨g1, g2, g3, g4⟩ := validHist_iff.1 hv
  unfold storeAt addH
  show (replay [] ((h.log ++ [e]).take (upTo (h.times ++ [t]) s))).1 = _
  rw [upTo_append, if_neg (by omega), Nat.add_zero, List.take_append_of_le_length (by have := upTo_le h.times s; omega)]
theorem take_add_early {h : Hist} {e : Entry} {t s : Int} (hv : validHist h = true) (hs : s < t) : takeH (addH h e t) (upTo (addH h e t).times s) = takeH h (upTo h.times s) := by
  obtain ⟨g1, g2, g3, g4⟩ := validHist_iff.1 hv
  unfold takeH addH
  show (⟨(h.log ++ [e]).take (upTo (h.times ++ [t]) s), (h.times ++ [t]).take (upTo (h.times ++ [t]) s)⟩ : Hist) = _
  rw [upTo_append, if_neg (by omega), Nat.add_zero, List.take_append_of_le_length (by have := upTo_le h.times s; omega), List.take_append_of_le_length (upTo_le h.times s)]
theorem storeAt_add {h : Hist} {e : Entry} {t : Int} (ha : validHist (addH h e t) = true) : get (storeAt (addH h e t) t) e.item.key = effect e := by
  obtain ⟨h1, h2, h3, h4⟩ := validHist_iff.1 ha
  have hle := (add_valid_of ha).2.2.2
  unfold storeAt
  have : upTo (addH h e t).times t = (addH h e t).log.length := by
    rw [← h2]
    refine upTo_of_le fun x hx => ?_
    have hx : x ∈ h.times ++ [t] := hx
    rw [List.mem_append, List.mem_singleton] at hx
    rcases hx with hx | rfl
    · exact hle x hx
    · exact Int.le_refl _
  rw [this, List.take_length]
  have hl : (addH h e t).log.length = h.log.length + 1 := by simp [addH]
  have he : (addH h e t).log[h.log.length]'(by rw [hl]; omega) = e := by simp [addH]
  have := replay_last h4 (i := h.log.length) (by rw [hl]; omega) (fun x hx => by
    rw [List.drop_of_length_le (by rw [hl]; exact Nat.le_refl _)] at hx
    cases hx)
  rw [he] at this
  exact this
theorem add_take {h : Hist} (h2 : h.times.length = h.log.length) {i : Nat} (hi : i < h.log.length) : addH (takeH h i) h.log[i] (h.times[i]'(by omega)) = takeH h (i + 1) := by
  unfold addH takeH
  rw [List.take_succ_eq_append_getElem hi, List.take_succ_eq_append_getElem (show i < h.times.length by omega)]
theorem AddEntry_take {h : Hist} (hv : validHist h = true) {i : Nat} (hi : i < h.log.length) (hi' : i < h.times.length) : AddEntry (takeH h i) h.log[i] h.times[i] = some (takeH h (i + 1)) := by
  unfold AddEntry
  rw [add_take (validHist_iff.1 hv).2.1 hi, if_pos ⟨take_valid hv i, take_valid hv (i + 1)⟩]
end M
end Go.Proofs.YtibbpbbgmgdpdaaGreatDoor
