/- The nearest items as plain functions. No program in sight. -/
import Derived.Test.YtibbpbbgmgdpdaaGreatDoorPure
namespace Go.Proofs.YtibbpbbgmgdpdaaGreatDoor
set_option linter.unusedVariables false
namespace M
/-- one hit comes before another -/
def hlt (a b : Hit) : Bool := decide (a.dist < b.dist) || (decide (a.dist = b.dist) && decide (a.key < b.key))
theorem hlt_iff {a b : Hit} : hlt a b = true ↔ a.dist < b.dist ∨ a.dist = b.dist ∧ a.key < b.key := by simp [hlt]
theorem hlt_not {a b : Hit} : hlt a b = false ↔ b.dist < a.dist ∨ b.dist = a.dist ∧ b.key ≤ a.key := by
  rw [← Bool.not_eq_true, hlt_iff]
  omega
theorem hit_ext {a b : Hit} (h1 : a.key = b.key) (h2 : a.dist = b.dist) : a = b := by
  cases a; cases b; simp at h1 h2; simp [h1, h2]
theorem hle_anti {a b : Hit} (h1 : hlt b a = false) (h2 : hlt a b = false) : a = b := by
  rw [hlt_not] at h1 h2
  exact hit_ext (by omega) (by omega)
theorem hle_trans {a b c : Hit} (h1 : hlt b a = false) (h2 : hlt c b = false) : hlt c a = false := by
  rw [hlt_not] at *
  omega
theorem hlt_le {a b : Hit} (h : hlt a b = true) : hlt b a = false := by
  rw [hlt_iff] at h
  rw [hlt_not]
  omega
/-- in order -/
def WS (l : List Hit) : Prop := l.Pairwise fun a b => hlt b a = false
def ins (h : Hit) : List Hit → List Hit
  | [] => [h]
  | x :: r => if hlt h x = true then h :: x :: r else x :: ins h r
theorem ins_perm (h : Hit) : ∀ l, (ins h l).Perm (h :: l)
  | [] => List.Perm.refl _
  | x :: r => by
    unfold ins
    split
    · exact List.Perm.refl _
    · exact (List.Perm.cons x (ins_perm h r)).trans (List.Perm.swap _ _ _)
theorem ins_len (h : Hit) (l : List Hit) : (ins h l).length = l.length + 1 := by rw [(ins_perm h l).length_eq]; rfl
theorem ins_ws {h : Hit} : ∀ {l : List Hit}, WS l → WS (ins h l)
  | [], _ => List.pairwise_singleton _ _
  | x :: r, hw => by
    unfold ins
    have hx := List.pairwise_cons.1 hw
    split
    · rename_i hh
      refine List.pairwise_cons.2 ⟨fun y hy => ?_, hw⟩
      rcases List.mem_cons.1 hy with rfl | hy
      · exact hlt_le hh
      · exact hle_trans (hlt_le hh) (hx.1 y hy)
    · rename_i hh
      rw [Bool.not_eq_true] at hh
      refine List.pairwise_cons.2 ⟨fun y hy => ?_, ins_ws hx.2⟩
      rcases List.mem_cons.1 ((ins_perm h r).mem_iff.1 hy) with rfl | hy
      · exact hh
      · exact hx.1 y hy
def sortH (l : List Hit) : List Hit := l.foldr ins []
theorem sortH_perm : ∀ l, (sortH l).Perm l
  | [] => List.Perm.refl _
  | x :: r => (ins_perm x (sortH r)).trans ((sortH_perm r).cons x)
theorem sortH_ws : ∀ l, WS (sortH l)
  | [] => List.Pairwise.nil
  | x :: r => ins_ws (sortH_ws r)
theorem sortH_len (l : List Hit) : (sortH l).length = l.length := (sortH_perm l).length_eq
theorem ws_unique {l m : List Hit} (h1 : WS l) (h2 : WS m) (hp : l.Perm m) : l = m :=
  List.Perm.eq_of_pairwise (le := fun a b => hlt b a = false) (fun a b _ _ h h' => hle_anti h h') h1 h2 hp
theorem sortH_unique {l m : List Hit} (hp : m.Perm l) (hw : WS m) : sortH l = m := ws_unique (sortH_ws l) hw ((sortH_perm l).trans hp.symm)
theorem sortH_congr {l m : List Hit} (hp : l.Perm m) : sortH l = sortH m := sortH_unique ((sortH_perm m).trans hp.symm) (sortH_ws m)
theorem sortH_self {l : List Hit} (hw : WS l) : sortH l = l := sortH_unique (List.Perm.refl _) hw
theorem sortH_nil : sortH [] = [] := rfl
/-- the place where a hit is put -/
theorem ins_at {h : Hit} {l : List Hit} {i : Nat} (hw : WS l) (hi : i ≤ l.length) (h1 : ∀ x ∈ l.drop i, hlt h x = true) (h2 : ∀ j, j + 1 = i → hlt h (l.getD j ⟨0, 0⟩) = false) :
    ins h l = l.take i ++ h :: l.drop i := by
  have ht : ∀ x ∈ l.take i, hlt h x = false := by
    cases i with
    | zero => intro x hx; simp at hx
    | succ j =>
      have hj : j < l.length := hi
      have hg : l.getD j ⟨0, 0⟩ = l[j] := by simp [List.getD_eq_getElem?_getD, List.getElem?_eq_getElem hj]
      have hq := h2 j rfl
      rw [hg] at hq
      intro x hx
      obtain ⟨m, hm, rfl⟩ := List.getElem_of_mem hx
      rw [List.length_take] at hm
      rw [List.getElem_take]
      by_cases e : m = j
      · subst e; exact hq
      · exact hle_trans (List.pairwise_iff_getElem.1 hw m j (by omega) hj (by omega)) hq
  refine ws_unique (ins_ws hw) ?_ ((ins_perm h l).trans ?_)
  · have hw2 := hw
    rw [← List.take_append_drop i l] at hw2
    obtain ⟨a1, a2, a3⟩ := List.pairwise_append.1 hw2
    refine List.pairwise_append.2 ⟨a1, List.pairwise_cons.2 ⟨fun y hy => hlt_le (h1 y hy), a2⟩, fun x hx y hy => ?_⟩
    rcases List.mem_cons.1 hy with rfl | hy
    · exact ht x hx
    · exact a3 x hx y hy
  · refine List.Perm.trans ?_ List.perm_middle.symm
    rw [List.take_append_drop]
theorem ins_take (h : Hit) : ∀ (l : List Hit) (k : Nat), (ins h (l.take k)).take k = (ins h l).take k
  | l, 0 => by simp
  | [], k + 1 => by simp
  | x :: r, k + 1 => by
    rw [List.take_succ_cons]
    unfold ins
    split
    · rw [List.take_succ_cons, List.take_succ_cons]
      congr 1
      cases k with
      | zero => simp
      | succ m => rw [List.take_succ_cons, List.take_succ_cons, List.take_take]; congr 2; omega
    · rw [List.take_succ_cons, List.take_succ_cons, ins_take h r k]
/-- hits added one after the other, at most k -/
def addAll (k : Nat) (acc : List Hit) (xs : List Hit) : List Hit := xs.foldl (fun a x => (ins x a).take k) acc
theorem addAll_take (k : Nat) : ∀ (xs acc : List Hit), addAll k (acc.take k) xs = (xs.foldl (fun a x => ins x a) acc).take k
  | [], acc => rfl
  | x :: r, acc => by
    show addAll k ((ins x (acc.take k)).take k) r = _
    rw [ins_take]
    exact addAll_take k r (ins x acc)
theorem foldIns (xs : List Hit) : ∀ acc, (xs.foldl (fun a x => ins x a) acc).Perm (acc ++ xs) := by
  induction xs with
  | nil => intro acc; simp
  | cons x r ih =>
    intro acc
    refine (ih (ins x acc)).trans ?_
    exact ((ins_perm x acc).append_right r).trans List.perm_middle.symm
theorem foldIns_ws (xs : List Hit) : ∀ acc, WS acc → WS (xs.foldl (fun a x => ins x a) acc) := by
  induction xs with
  | nil => intro acc h; exact h
  | cons x r ih => intro acc h; exact ih _ (ins_ws h)
theorem addAll_sort (k : Nat) (xs acc : List Hit) (hw : WS acc) : addAll k (acc.take k) xs = (sortH (acc ++ xs)).take k := by
  rw [addAll_take, sortH_unique (foldIns xs acc) (foldIns_ws xs acc hw)]
theorem addAll_nil (k : Nat) (xs : List Hit) : addAll k [] xs = (sortH xs).take k := by
  have h := addAll_sort k xs [] List.Pairwise.nil
  rwa [List.take_nil, List.nil_append] at h
theorem addAll_append (k : Nat) (acc xs ys : List Hit) : addAll k acc (xs ++ ys) = addAll k (addAll k acc xs) ys := List.foldl_append
theorem addAll_succ (k : Nat) (acc xs : List Hit) {n : Nat} (h : n < xs.length) : addAll k acc (xs.take (n + 1)) = (ins xs[n] (addAll k acc (xs.take n))).take k := by
  rw [List.take_succ_eq_append_getElem h, addAll_append]
  rfl
theorem addAll_ws (k : Nat) (xs : List Hit) (acc : List Hit) (hw : WS acc) : WS (addAll k acc xs) := by
  induction xs generalizing acc with
  | nil => exact hw
  | cons x r ih => exact ih _ (List.Pairwise.sublist (List.take_sublist _ _) (ins_ws hw))
theorem addAll_len (k : Nat) (xs : List Hit) (acc : List Hit) (hl : acc.length ≤ k) : (addAll k acc xs).length ≤ k := by
  induction xs generalizing acc with
  | nil => exact hl
  | cons x r ih => exact ih _ (by rw [List.length_take]; omega)
/-- the first ones of two lists of hits -/
def mergeK (k : Nat) (a b : List Hit) : List Hit := (sortH (a ++ b)).take k
theorem mergeK_first (k : Nat) (a b : List Hit) : mergeK k ((sortH a).take k) ((sortH b).take k) = (sortH (a ++ b)).take k := by
  have hs : ∀ l : List Hit, addAll k [] ((sortH l).take k) = (sortH l).take k := fun l => by
    rw [addAll_nil, sortH_self (List.Pairwise.sublist (List.take_sublist _ _) (sortH_ws l)), List.take_take, Nat.min_self]
  have hc : ∀ x y : List Hit, addAll k [] (x ++ y) = addAll k [] (y ++ x) := fun x y => by rw [addAll_nil, addAll_nil, sortH_congr List.perm_append_comm]
  unfold mergeK
  rw [← addAll_nil, addAll_append, hs, ← addAll_nil k a, ← addAll_append, hc, addAll_append, hs, ← addAll_nil k b, ← addAll_append, hc, addAll_nil]
def hitOf (kind : Int) (m : List Int) (x : Item) : Hit := ⟨x.key, dist kind x.pos m⟩
def nears (L : List Item) (kind : Int) (m : List Int) : List Hit := L.map (hitOf kind m)
def nearest (L : List Item) (kind : Int) (m : List Int) (k : Nat) : List Hit := (sortH (nears L kind m)).take k
def canFind (L : List Item) (kind : Int) (m : List Int) (k : Int) : Bool := validStore L && (inR kind 1 4 && (isVec m && inR k 1 16))
theorem canFind_of {L : List Item} {kind : Int} {m : List Int} {k : Int} (h : canFind L kind m k = true) : validStore L = true ∧ (1 ≤ kind ∧ kind ≤ 4) ∧ isVec m = true ∧ 1 ≤ k ∧ k ≤ 16 := by
  unfold canFind at h
  simp only [Bool.and_eq_true] at h
  exact ⟨h.1, inR_true h.2.1, h.2.2.1, inR_true h.2.2.2⟩
def Nearest (L : List Item) (kind : Int) (m : List Int) (k : Int) : List Hit := if canFind L kind m k = true then nearest L kind m k.toNat else []
def ShardNearest (L : List Item) (s kind : Int) (m : List Int) (k : Int) : List Hit := if canFind L kind m k = true ∧ inR s 1 8 = true then nearest L kind m k.toNat else []
theorem nearest_len (L : List Item) (kind : Int) (m : List Int) (k : Nat) : (nearest L kind m k).length ≤ L.length := by
  unfold nearest nears
  rw [List.length_take, sortH_len, List.length_map]
  omega
theorem nears_keys (L : List Item) (kind : Int) (m : List Int) : (nears L kind m).map Hit.key = L.map Item.key := by
  unfold nears
  rw [List.map_map]
  rfl
def KD (l : List Hit) : Prop := (l.map Hit.key).Nodup
theorem KD.perm {l m : List Hit} (h : KD l) (hp : l.Perm m) : KD m := ((hp.map Hit.key).nodup_iff).1 h
theorem KD.sub {l m : List Hit} (h : KD l) (hs : m.Sublist l) : KD m := List.Pairwise.sublist (hs.map _) h
theorem nears_kd {L : List Item} (hv : validStore L = true) (kind : Int) (m : List Int) : KD (nears L kind m) := by
  unfold KD
  rw [nears_keys]
  exact (validStore_of hv).2.2.imp fun h => by omega
theorem nearest_kd {L : List Item} (hv : validStore L = true) (kind : Int) (m : List Int) (k : Nat) : KD (nearest L kind m k) :=
  ((nears_kd hv kind m).perm (sortH_perm _).symm).sub (List.take_sublist _ _)
theorem nearest_ws (L : List Item) (kind : Int) (m : List Int) (k : Nat) : WS (nearest L kind m k) := List.Pairwise.sublist (List.take_sublist _ _) (sortH_ws _)
theorem isVec_of {l : List Int} (h : isVec l = true) : (∀ x ∈ l, -100 ≤ x ∧ x ≤ 100) ∧ l.length = 4 := by
  unfold isVec at h
  rw [Bool.and_eq_true, List.all_eq_true, decide_eq_true_eq] at h
  exact ⟨fun x hx => inR_true (h.1 x hx), h.2⟩
theorem dist_rng {kind : Int} {l m : List Int} (hl : isVec l = true) (hm : isVec m = true) : 0 ≤ dist kind l m ∧ dist kind l m ≤ 160000 := by
  have h1 := isVec_of hl
  have h2 := isVec_of hm
  have h3 := distTo_rng (kind := kind) h1.1 h2.1 l.length
  unfold dist
  rw [h1.2] at *
  omega
theorem item_of {L : List Item} (hv : validStore L = true) {x : Item} (hx : x ∈ L) : (1 ≤ x.key ∧ x.key ≤ 99) ∧ isVec x.pos = true ∧ (0 ≤ x.tags ∧ x.tags ≤ 15) := by
  have h := (validStore_of hv).2.1 x hx
  unfold validItem at h
  simp only [Bool.and_eq_true] at h
  exact ⟨inR_true h.1.1, h.1.2, inR_true h.2⟩
/-- hits of a store -/
def okHit (h : Hit) : Prop := (1 ≤ h.key ∧ h.key ≤ 99) ∧ 0 ≤ h.dist ∧ h.dist ≤ 1000000
theorem nears_ok {L : List Item} (hv : validStore L = true) {kind : Int} {m : List Int} (hm : isVec m = true) : ∀ h ∈ nears L kind m, okHit h := fun h hh => by
  obtain ⟨x, hx, rfl⟩ := List.mem_map.1 hh
  have h1 := item_of hv hx
  have h2 := dist_rng (kind := kind) h1.2.1 hm
  exact ⟨h1.1, h2.1, by show dist kind x.pos m ≤ 1000000; omega⟩
theorem nearest_ok {L : List Item} (hv : validStore L = true) {kind : Int} {m : List Int} (hm : isVec m = true) (k : Nat) : ∀ h ∈ nearest L kind m k, okHit h :=
  fun h hh => nears_ok hv hm h ((sortH_perm _).mem_iff.1 (List.mem_of_mem_take hh))
theorem filter_two_perm {α : Type} (p q r : α → Bool) (L : List α) (h : ∀ x ∈ L, r x = (p x || q x) ∧ (p x && q x) = false) : (L.filter p ++ L.filter q).Perm (L.filter r) := by
  induction L with
  | nil => exact List.Perm.refl _
  | cons x l ih =>
    have hx := h x (List.mem_cons_self ..)
    have i := ih fun y hy => h y (List.mem_cons_of_mem _ hy)
    simp only [List.filter_cons]
    cases hp : p x <;> cases hq : q x <;> rw [hp, hq] at hx <;> simp at hx <;> simp only [hx, if_true, Bool.false_eq_true, if_false]
    · exact i
    · exact List.perm_middle.trans (i.cons x)
    · exact i.cons x
/-- the nearest items of the first shards -/
def upShard (L : List Item) (s kind : Int) (m : List Int) (k : Nat) (n : Nat) : List Hit := (sortH (nears (L.filter fun x => decide (sh x.key s < (n : Int))) kind m)).take k
theorem sh_rng {key s : Int} (h1 : 1 ≤ key) (h2 : 1 ≤ s) : 0 ≤ sh key s ∧ sh key s < s := by
  have h3 : 0 ≤ 389 * key % 1009 := Int.emod_nonneg _ (by omega)
  have h4 : 389 * key % 1009 < 1009 := Int.emod_lt_of_pos _ (by omega)
  unfold sh
  generalize 389 * key % 1009 = r at *
  refine ⟨Int.ediv_nonneg (Int.mul_nonneg h3 (by omega)) (by omega), ?_⟩
  rw [Int.ediv_lt_iff_lt_mul (by omega), Int.mul_comm]
  exact Int.mul_lt_mul_of_pos_left h4 (by omega)
theorem upShard_zero {L : List Item} {s kind : Int} {m : List Int} {k : Nat} (hv : validStore L = true) (hs : 1 ≤ s) : upShard L s kind m k 0 = [] := by
  unfold upShard
  rw [List.filter_eq_nil_iff.2 fun x hx => by
    have := sh_rng (item_of hv hx).1.1 hs
    rw [decide_eq_true_eq]
    omega]
  simp [nears, sortH_nil]
theorem upShard_all {L : List Item} {s : Nat} {kind : Int} {m : List Int} {k : Nat} (hv : validStore L = true) (hs : 1 ≤ (s : Int)) : upShard L s kind m k s = nearest L kind m k := by
  unfold upShard nearest
  rw [List.filter_eq_self.2 fun x hx => by
    have := sh_rng (item_of hv hx).1.1 hs
    rw [decide_eq_true_eq]
    exact this.2]
theorem upShard_perm (L : List Item) (s kind : Int) (m : List Int) (n : Nat) :
    (nears (L.filter fun x => decide (sh x.key s < (n : Int))) kind m ++ nears (shardItems L s n) kind m).Perm (nears (L.filter fun x => decide (sh x.key s < ((n + 1 : Nat) : Int))) kind m) := by
  unfold nears shardItems
  rw [← List.map_append]
  refine List.Perm.map _ (filter_two_perm _ _ _ L fun x _ => ⟨?_, ?_⟩)
  · rw [Bool.eq_iff_iff]
    simp
    omega
  · rw [← Bool.not_eq_true]
    simp
    omega
theorem upShard_succ (L : List Item) (s kind : Int) (m : List Int) (k n : Nat) : mergeK k (upShard L s kind m k n) (nearest (shardItems L s n) kind m k) = upShard L s kind m k (n + 1) := by
  unfold upShard nearest
  rw [mergeK_first, sortH_congr (upShard_perm L s kind m n)]
theorem upShard_kd {L : List Item} (hv : validStore L = true) (s kind : Int) (m : List Int) (k n : Nat) : KD (upShard L s kind m k n ++ nearest (shardItems L s n) kind m k) := by
  have h1 := (nears_kd (valid_filter hv _) kind m).perm (upShard_perm L s kind m n).symm
  refine KD.sub (h1.perm ((sortH_perm _).symm.append (sortH_perm _).symm)) ((List.take_sublist _ _).append (List.take_sublist _ _))
theorem upShard_ok {L : List Item} (hv : validStore L = true) {m : List Int} (hm : isVec m = true) (s kind : Int) (k n : Nat) : ∀ h ∈ upShard L s kind m k n, okHit h := nearest_ok (valid_filter hv _) hm k
theorem upShard_ws (L : List Item) (s kind : Int) (m : List Int) (k n : Nat) : WS (upShard L s kind m k n) := nearest_ws _ _ _ _
theorem upShard_len {L : List Item} (hv : validStore L = true) (s kind : Int) (m : List Int) (k n : Nat) : (upShard L s kind m k n).length ≤ 16 :=
  Nat.le_trans (nearest_len _ _ _ _) (Nat.le_trans (List.length_filter_le _ _) (validStore_of hv).1)
/-- without the nearest one -/
theorem nearest_tail {L : List Item} (hv : validStore L = true) {kind : Int} {m : List Int} {k : Nat} {h : Hit} {T : List Hit} (e : sortH (nears L kind m) = h :: T) :
    sortH (nears (dropKey L h.key) kind m) = T ∧ (∀ x ∈ T, x.key ≠ h.key) ∧ h.key ∈ L.map Item.key := by
  have hp := sortH_perm (nears L kind m)
  have hk := (nears_kd hv kind m).perm hp.symm
  rw [e] at hp hk
  have hd : ∀ x ∈ T, x.key ≠ h.key := fun x hx he => (List.nodup_cons.1 hk).1 (List.mem_map.2 ⟨x, hx, he⟩)
  refine ⟨sortH_unique ?_ ?_, hd, ?_⟩
  · have h1 := hp.filter fun x => decide (x.key ≠ h.key)
    rw [List.filter_cons_of_neg (by simp), List.filter_eq_self.2 fun x hx => by simpa using hd x hx] at h1
    refine h1.trans (List.Perm.of_eq ?_)
    unfold nears dropKey
    rw [List.filter_map]
    rfl
  · have := sortH_ws (nears L kind m)
    rw [e] at this
    exact (List.pairwise_cons.1 this).2
  · rw [← nears_keys L kind m]
    exact List.mem_map.2 ⟨h, hp.mem_iff.1 (List.mem_cons_self ..), rfl⟩
end M
end Go.Proofs.YtibbpbbgmgdpdaaGreatDoor
