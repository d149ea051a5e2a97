/- Pages of stores as plain functions, and their plain laws. No program in sight. -/
import Derived.Test.YtjooangmmboogaaPureS
namespace Go.Proofs.Ytjooangmmboogaa
set_option linter.unusedVariables false
namespace M
/-- the bytes of an item -/
def ib (x : Item) : List Int := x.key :: x.tags :: x.pos.map (· + 128)
/-- a page without its checksum -/
def body (L : List Item) : List Int := (L.length : Int) :: L.flatMap ib
def page (L : List Item) : List Int := body L ++ [chk (body L)]
def FormatPage (L : List Item) : List Int := if validStore L = true then page L else []
/-- the item of six bytes -/
def itemOf6 (b : List Int) : Item := ⟨b.getD 0 0, ((b.drop 2).take 4).map (· - 128), b.getD 1 0⟩
def items (b : List Int) : Nat → List Item
  | 0 => []
  | n + 1 => itemOf6 b :: items (b.drop 6) n
def store (b : List Int) : List Item := items (b.drop 1) (b.getD 0 0).toNat
def ParsePage (b : List Int) : Option (List Item) :=
  if 2 ≤ b.length ∧ (b.length : Int) = 6 * b.getD 0 0 + 2 ∧ chk (b.take (b.length - 1)) = b.getD (b.length - 1) 0 ∧ validStore (store b) = true then some (store b) else none
def bytes (b : List Int) : Prop := ∀ x ∈ b, 0 ≤ x ∧ x ≤ 255

theorem isVec_iff {l : List Int} : isVec l = true ↔ l.length = 4 ∧ ∀ x ∈ l, -100 ≤ x ∧ x ≤ 100 := by
  unfold isVec
  simp only [Bool.and_eq_true, List.all_eq_true, decide_eq_true_eq]
  exact ⟨fun ⟨a, b⟩ => ⟨b, fun x hx => inR_true (a x hx)⟩, fun ⟨a, b⟩ => ⟨fun x hx => inR_of (b x hx).1 (b x hx).2, a⟩⟩
theorem validItem_iff {x : Item} : validItem x = true ↔ (1 ≤ x.key ∧ x.key ≤ 99) ∧ (x.pos.length = 4 ∧ ∀ c ∈ x.pos, -100 ≤ c ∧ c ≤ 100) ∧ 0 ≤ x.tags ∧ x.tags ≤ 15 := by
  unfold validItem
  simp only [Bool.and_eq_true, isVec_iff]
  exact ⟨fun ⟨⟨a, b⟩, c⟩ => ⟨inR_true a, b, inR_true c⟩, fun ⟨a, b, c⟩ => ⟨⟨inR_of a.1 a.2, b⟩, inR_of c.1 c.2⟩⟩
theorem ib_length {x : Item} (h : validItem x = true) : (ib x).length = 6 := by
  have := (validItem_iff.1 h).2.1.1
  simp [ib, this]
theorem body_length {L : List Item} (h : ∀ x ∈ L, validItem x = true) : (L.flatMap ib).length = 6 * L.length := by
  induction L with
  | nil => rfl
  | cons x r ih =>
    rw [List.flatMap_cons, List.length_append, ib_length (h x (by simp)), ih (fun y hy => h y (by simp [hy]))]
    simp
    omega
theorem ib_bytes {x : Item} (h : validItem x = true) : bytes (ib x) := by
  obtain ⟨h1, ⟨h2, h3⟩, h4⟩ := validItem_iff.1 h
  intro c hc
  simp only [ib, List.mem_cons, List.mem_map] at hc
  rcases hc with rfl | rfl | ⟨d, hd, rfl⟩
  · omega
  · omega
  · have := h3 d hd; omega
theorem flat_bytes {L : List Item} (h : ∀ x ∈ L, validItem x = true) : bytes (L.flatMap ib) := by
  intro c hc
  obtain ⟨x, hx, hc⟩ := List.mem_flatMap.1 hc
  exact ib_bytes (h x hx) c hc
theorem body_bytes {L : List Item} (hl : L.length ≤ 255) (h : ∀ x ∈ L, validItem x = true) : bytes (body L) := by
  intro c hc
  simp only [body, List.mem_cons] at hc
  rcases hc with rfl | hc
  · omega
  · exact flat_bytes h c hc
theorem chk_rng (l : List Int) : 0 ≤ chk l ∧ chk l ≤ 250 := by
  unfold chk
  generalize hn : (1 : Int) = n
  have h0 : 0 ≤ n ∧ n ≤ 250 := by omega
  clear hn
  induction l generalizing n with
  | nil => exact h0
  | cons a r ih => exact ih ((31 * n + a) % 251) (by omega)
theorem page_bytes {L : List Item} (hl : L.length ≤ 255) (h : ∀ x ∈ L, validItem x = true) : bytes (page L) := by
  intro c hc
  simp only [page, List.mem_append, List.mem_singleton] at hc
  rcases hc with hc | rfl
  · exact body_bytes hl h c hc
  · have := chk_rng (body L); omega
theorem page_length {L : List Item} (h : ∀ x ∈ L, validItem x = true) : (page L).length = 6 * L.length + 2 := by
  simp [page, body, body_length h]
theorem FormatPage_bytes (L : List Item) : bytes (FormatPage L) := by
  unfold FormatPage
  split
  · rename_i h
    have := validStore_of h
    exact page_bytes (by omega) this.2.1
  · intro c hc; simp at hc
theorem FormatPage_le (L : List Item) : (FormatPage L).length ≤ 98 := by
  unfold FormatPage
  split
  · rename_i h
    have := validStore_of h
    rw [page_length this.2.1]
    omega
  · simp

/-! reading back what was written -/
theorem itemOf6_ib {x : Item} (h : validItem x = true) (r : List Int) : itemOf6 (ib x ++ r) = x := by
  obtain ⟨k, p, t⟩ := x
  have h2 := (validItem_iff.1 h).2.1.1
  simp only at h2
  have e : ((p.map (· + 128)) ++ r).take 4 = p.map (· + 128) := by
    rw [List.take_append_of_le_length (by simp [h2]), List.take_of_length_le (by simp [h2])]
  simp only [itemOf6, ib, List.cons_append, List.getD_cons_zero, List.getD_cons_succ, List.drop_succ_cons, List.drop_zero, e, List.map_map]
  congr 1
  have : ((fun x : Int => x - 128) ∘ fun x => x + 128) = id := by funext a; simp
  rw [this, List.map_id]
theorem items_flat {L : List Item} (h : ∀ x ∈ L, validItem x = true) (r : List Int) : items (L.flatMap ib ++ r) L.length = L := by
  induction L with
  | nil => rfl
  | cons x l ih =>
    have hx := h x (by simp)
    rw [List.flatMap_cons, List.append_assoc]
    show itemOf6 _ :: items _ _ = _
    rw [itemOf6_ib hx, show (ib x ++ (l.flatMap ib ++ r)).drop 6 = l.flatMap ib ++ r from by rw [List.drop_append_of_le_length (by rw [ib_length hx]; exact Nat.le_refl _), List.drop_of_length_le (by rw [ib_length hx]; exact Nat.le_refl _), List.nil_append], ih (fun y hy => h y (by simp [hy]))]
theorem store_page {L : List Item} (h : ∀ x ∈ L, validItem x = true) : store (page L) = L := by
  unfold store page body
  simp only [List.cons_append, List.drop_succ_cons, List.drop_zero, List.getD_cons_zero, Int.toNat_natCast]
  exact items_flat h _
theorem ParsePage_page {L : List Item} (hv : validStore L = true) : ParsePage (page L) = some L := by
  have hv' := validStore_of hv
  have hl := page_length hv'.2.1
  have hb : (body L).length = 6 * L.length + 1 := by simp [body, body_length hv'.2.1]
  unfold ParsePage
  rw [if_pos, store_page hv'.2.1]
  refine ⟨by omega, ?_, ?_, by rw [store_page hv'.2.1]; exact hv⟩
  · rw [hl]
    simp [page, body]
  · rw [hl]
    unfold page
    rw [show 6 * L.length + 2 - 1 = (body L).length by omega, List.take_append_of_le_length (Nat.le_refl _), List.take_of_length_le (Nat.le_refl _)]
    simp

/-! writing what was read -/
theorem items_length (b : List Int) : ∀ n, (items b n).length = n := by
  intro n
  induction n generalizing b with
  | zero => rfl
  | succ n ih => show (items _ n).length + 1 = _; rw [ih]
theorem ib_itemOf6 {b : List Int} (h : 6 ≤ b.length) : ib (itemOf6 b) = b.take 6 := by
  match b, h with
  | a :: c :: d :: e :: f :: g :: r, _ => simp [ib, itemOf6]
theorem flat_items {b : List Int} : ∀ n, 6 * n ≤ b.length → (items b n).flatMap ib = b.take (6 * n) := by
  intro n
  induction n generalizing b with
  | zero => intro _; rfl
  | succ n ih =>
    intro h
    show List.flatMap ib (itemOf6 b :: items (b.drop 6) n) = _
    rw [List.flatMap_cons, ib_itemOf6 (by omega), ih (by rw [List.length_drop]; omega), show 6 * (n + 1) = 6 + 6 * n by omega, List.take_add]
/-- of a right length: the page of what was read is the bytes just where the checksum is right -/
theorem page_store {b : List Int} (hb : bytes b) (h2 : 2 ≤ b.length) (hl : (b.length : Int) = 6 * b.getD 0 0 + 2) :
    body (store b) = b.take (b.length - 1) := by
  match b, h2 with
  | a :: r, h2 =>
    have ha := hb a (by simp)
    simp only [List.getD_cons_zero, List.length_cons] at hl
    have hn : 6 * a.toNat ≤ r.length := by omega
    unfold body store
    simp only [List.drop_succ_cons, List.drop_zero, List.getD_cons_zero]
    rw [items_length, flat_items _ hn, List.length_cons, Nat.add_sub_cancel, Int.toNat_of_nonneg ha.1]
    rw [show r.length = (6 * a.toNat) + 1 by omega, List.take_succ_cons]
theorem page_store_iff {b : List Int} (hb : bytes b) (h2 : 2 ≤ b.length) (hl : (b.length : Int) = 6 * b.getD 0 0 + 2) :
    page (store b) = b ↔ chk (b.take (b.length - 1)) = b.getD (b.length - 1) 0 := by
  unfold page
  rw [page_store hb h2 hl]
  have e : b = b.take (b.length - 1) ++ [b.getD (b.length - 1) 0] := by
    have h9 := List.take_append_drop (b.length - 1) b
    rw [show b.drop (b.length - 1) = [b.getD (b.length - 1) 0] from by
      rw [List.drop_eq_getElem_cons (by omega), List.drop_of_length_le (by omega)]
      simp [List.getD_eq_getElem?_getD, List.getElem?_eq_getElem (show b.length - 1 < b.length by omega)]] at h9
    exact h9.symm
  constructor
  · intro h
    have h3 := h.trans e
    have h4 := List.append_inj_right h3 rfl
    injection h4
  · intro h
    rw [h]
    exact e.symm
theorem ParsePage_some {b : List Int} {L : List Item} (hb : bytes b) (h : ParsePage b = some L) : validStore L = true ∧ page L = b := by
  unfold ParsePage at h
  split at h
  · rename_i hc
    injection h with h
    subst h
    exact ⟨hc.2.2.2, (page_store_iff hb hc.1 hc.2.1).2 hc.2.2.1⟩
  · cases h
theorem ParsePage_len {b : List Int} {L : List Item} (hb : bytes b) (h : ParsePage b = some L) : b.length = 6 * L.length + 2 := by
  have h1 := ParsePage_some hb h
  rw [← h1.2, page_length (validStore_of h1.1).2.1]
/-- what is not of a page's length is no page -/
theorem ParsePage_short {b : List Int} (h : (b.length : Int) ≠ 6 * b.getD 0 0 + 2) : ParsePage b = none := by
  unfold ParsePage
  rw [if_neg]
  rintro ⟨_, h2, _⟩
  exact h h2
theorem page_head (L : List Item) : ∃ r, page L = (L.length : Int) :: r := ⟨_, rfl⟩
theorem ParsePage_cut {L : List Item} (hv : validStore L = true) : ParsePage ((page L).take (6 * L.length + 1)) = none := by
  refine ParsePage_short ?_
  have hl := page_length (validStore_of hv).2.1
  obtain ⟨r, hr⟩ := page_head L
  have e : ((page L).take (6 * L.length + 1)).getD 0 0 = (L.length : Int) := by rw [hr, List.take_succ_cons]; rfl
  rw [e, List.length_take, hl]
  omega
theorem ParsePage_more {L : List Item} (hv : validStore L = true) : ParsePage (page L ++ [0]) = none := by
  refine ParsePage_short ?_
  have hl := page_length (validStore_of hv).2.1
  obtain ⟨r, hr⟩ := page_head L
  have e : (page L ++ [0]).getD 0 0 = (L.length : Int) := by rw [hr, List.cons_append]; rfl
  rw [e, List.length_append, hl]
  simp only [List.length_cons, List.length_nil]
  omega
/-- a page with another last byte is none -/
theorem ParsePage_last {L : List Item} (hv : validStore L = true) {x : Int} (hx : x ≠ chk (body L)) : ParsePage ((page L).set (6 * L.length + 1) x) = none := by
  have hb : (body L).length = 6 * L.length + 1 := by simp [body, body_length (validStore_of hv).2.1]
  have e : (page L).set (6 * L.length + 1) x = body L ++ [x] := by
    unfold page
    rw [List.set_append_right _ _ (by omega), hb, Nat.sub_self]
    rfl
  unfold ParsePage
  rw [if_neg]
  rw [e]
  rintro ⟨_, _, h, _⟩
  rw [List.length_append, List.length_singleton, Nat.add_sub_cancel, List.take_append_of_le_length (Nat.le_refl _), List.take_of_length_le (Nat.le_refl _)] at h
  apply hx
  rw [h]
  simp
theorem page_take {L : List Item} (h : ∀ x ∈ L, validItem x = true) : (page L).take (6 * L.length + 1) = body L := by
  have hb : (body L).length = 6 * L.length + 1 := by simp [body, body_length h]
  unfold page
  rw [List.take_append_of_le_length (by omega), List.take_of_length_le (by omega)]
theorem page_last {L : List Item} (h : ∀ x ∈ L, validItem x = true) : (page L)[6 * L.length + 1]? = some (chk (body L)) := by
  have hb : (body L).length = 6 * L.length + 1 := by simp [body, body_length h]
  unfold page
  rw [List.getElem?_append_right (by omega), hb, Nat.sub_self]
  rfl
end M
end Go.Proofs.Ytjooangmmboogaa
