/- FnCheckOfChange: changed bytes are found: proved for every input, with no condition. -/
import Derived.Test.YtopapnbhnknpiaaFrame
import Derived.Test.YtopapnbhnknpiaaCheckW
import Derived.Test.YtopapnbhnknpiaaDrawCW
namespace Go.Proofs.Ytopapnbhnknpiaa
open Go.ChangeShapes Go.WideShapes Go.ChangeAt Go.RowKit
set_option linter.unusedVariables false

def chkFrom (n : Int) (l : List Int) : Int := l.foldl (fun n b => (31 * n + b) % 251) n
theorem chkFrom_apart (l : List Int) : ∀ n n' : Int, 0 ≤ n → n ≤ 250 → 0 ≤ n' → n' ≤ 250 → n ≠ n' → chkFrom n l ≠ chkFrom n' l := by
  induction l with
  | nil => exact fun n n' _ _ _ _ h => h
  | cons a l ih =>
    intro n n' h1 h2 h3 h4 h
    show chkFrom ((31 * n + a) % 251) l ≠ chkFrom ((31 * n' + a) % 251) l
    exact ih _ _ (by omega) (by omega) (by omega) (by omega) (by omega)
theorem chkFrom_change (l : List Int) : ∀ (k : Nat) (n x : Int), 0 ≤ n → n ≤ 250 → l[k]? = some x → chkFrom n (l.set k (x - 1)) ≠ chkFrom n l := by
  induction l with
  | nil => intro k n x _ _ h; simp at h
  | cons a l ih =>
    intro k n x h1 h2 h
    cases k with
    | zero =>
      simp at h
      subst h
      show chkFrom ((31 * n + (a - 1)) % 251) l ≠ chkFrom ((31 * n + a) % 251) l
      exact chkFrom_apart l _ _ (by omega) (by omega) (by omega) (by omega) (by omega)
    | succ k =>
      show chkFrom ((31 * n + a) % 251) (l.set k (x - 1)) ≠ chkFrom ((31 * n + a) % 251) l
      exact ih k _ x (by omega) (by omega) (by simpa using h)
theorem chk_change {l : List Int} {k : Nat} (hk : k < l.length) : M.chk (l.set k (l[k] - 1)) ≠ M.chk l :=
  chkFrom_change l k 1 _ (by omega) (by omega) (List.getElem?_eq_getElem hk)

theorem own_form {w : World} {lo : Nat} {e : TypeId} {size n : Nat} {v : Value} {xs : List Value} (h : w.ownsRow lo e size v n xs) (hn : 0 < n) : ∃ g cap, v = .slice (some ⟨g, 0, none⟩) n cap ∧ lo ≤ g ∧ n ≤ cap := by
  rcases h.2 with ⟨_, h0⟩ | ⟨g, cap, cur, hv, hg, _, hnc, _⟩
  · omega
  · exact ⟨g, cap, hv, hg, hnc⟩

theorem news_alloc {w : World} {b o : Nat} {xs : List Value} (h : ∀ (j : Nat) (u : Value), xs[j]? = some u → w.cell? ⟨b, o + j, none⟩ = some u) (hb : b < w.heap.size) (O : Obj) :
    ∀ (j : Nat) (u : Value), xs[j]? = some u → (w.alloc O).cell? ((⟨b, o, none⟩ : Addr).add j) = some u := fun j u hu => by
  rw [Addr.add_lit]
  exact (World.cell?_of_block (Below.heap_alloc w O b hb)).trans (h j u hu)

namespace fnCheckOfChange
set_option maxHeartbeats 1000000 in
theorem walk (w : World) (A : Option Addr) (c : Nat) (bs : List Int) (h1 : bs.length ≤ c) (h2 : ∀ x ∈ bs, 0 ≤ x ∧ x ≤ 255) (h3 : Rd w 0 w.heap.size A (bs.map (.int .u8))) :
    Calls Try.prog 9 #[.slice A bs.length c] w fun e w' => e = .returned (.bool true) ∧ w.grownBy w' none := by
  have H1 := Lib.hid h1
  have H2 := Lib.hid h2
  have H3 := Lib.hid h3
  clear h1 h2 h3
  by_cases hb : bs.length ≤ 1048576
  · go_enter Try.func9, Try.ntmps9
    go_wp2_with fail
    refine (drawCheckOf_any _ A c bs H1.out hb H2.out H3.out).mono ?_
    rintro e w1 ⟨v, l, rfl, ho, hl, hby, hg⟩
    have hor := ho.rd
    obtain ⟨A1, c1, rfl, hc1, hr1⟩ := hor
    have G := Lib.hid hg
    have R := Lib.hid hr1
    have B := Lib.hid hby
    have O := Lib.hid ho
    have H1B := Lib.hid hb
    clear hg hr1 hby ho hb
    obtain ⟨m1, m2, m3⟩ := checkOf_range l
    obtain ⟨m, hm⟩ : ∃ m, M.checkOf l = m := ⟨_, rfl⟩
    have HM := Lib.hid hm
    rw [hm] at m1 m2 m3
    have t : (m != m) = false := by simp
    have t' : (m == m) = true := by simp
    by_cases hn : 0 ≤ m
    · have h2 : l.length ≤ 200 := m2.1 hn
      have h3 := Lib.hid (m3 h2)
      clear m2 m3 hm
      by_cases hz : l.length = 0
      · have hz' : ((l.length : Int) == 0) = true := by rw [hz]; rfl
        have HZ := Lib.hid hz
        clear hz
        go_wp2_with (first | (go_at_call 15; refine (CheckOf_impl _ A1 c1 _ _ l (by omega) B.out R.out).mono ?_; rintro e w' ⟨rfl, rfl⟩; rw [HM.out]) | (go_at_call 13; refine (CheckOf_spec _ A1 c1 _ _ l (by omega) B.out R.out).mono ?_; rintro e w' ⟨rfl, rfl⟩; rw [HM.out]))
        go_ret
        exact ⟨rfl, G.out⟩
      · have hz' : ((l.length : Int) == 0) = false := beq_eq_false_iff_ne.2 (by omega)
        have hzz : ¬ l.length = 0 := hz
        have hpos : 0 < l.length := by omega
        have hb' : bs.length ≤ 1048576 := H1B.out
        have hkl : bs.length % l.length < l.length := Nat.mod_lt _ hpos
        have em : Int.tmod (bs.length : Int) (l.length : Int) = ((bs.length % l.length : Nat) : Int) := by rw [Int.tmod_eq_emod_of_nonneg (by omega)]; rfl
        have em2 : (bs.length : Int) % (l.length : Int) = ((bs.length % l.length : Nat) : Int) := rfl
        obtain ⟨b, o, rfl, hb1, hb2, hc⟩ := R.out (by intro h; rw [List.map_eq_nil_iff] at h; rw [h] at hpos; exact absurd hpos (by simp))
        have HC := Lib.hid hc
        have hch := Lib.hid (chk_change hkl)
        have hx := B.out _ (List.getElem_mem hkl)
        have HN1 := Lib.hid (fun O => news_alloc hc hb2 O)
        generalize hk : bs.length % l.length = k at *
        have HK := Lib.hid hk
        have HL : Hid (l[k]? = some l[k]) := Lib.hid (List.getElem?_eq_getElem hkl)
        have hbs : ∀ y ∈ l.set k (l[k] - 1), 1 ≤ l[k] → 0 ≤ y ∧ y ≤ 255 := fun y hy h1 => by
          rcases List.mem_or_eq_of_mem_set hy with h | h
          · exact B.out y h
          · subst h; omega
        have HBS := Lib.hid hbs
        obtain ⟨i0, hi0, hz0, hz1, hz2⟩ := info_parts info_u8
        generalize l[k] = x at *
        clear hc hz hk hbs
        go_wp2_with fail
        refine (CheckOf_impl _ _ c1 _ _ l (by omega) B.out R.out).mono ?_
        rintro e w' ⟨rfl, rfl⟩
        rw [HM.out]
        go_wp2_with fail
        refine (CheckOf_spec _ _ c1 _ _ l (by omega) B.out R.out).mono ?_
        rintro e w' ⟨rfl, rfl⟩
        rw [HM.out]
        by_cases hx0 : x = 0
        · have tx : (x == 0) = true := by simp [hx0]
          have HX := Lib.hid hx0
          clear hx0
          go_wp2_with (at_builtin; refine wpList_append_own _ rfl (.tmp 36) (.tmp 37) 24 rfl w1.heap.size 5 i0 (.int .u8 0) 1 1 Try.underlying24 hi0 hz0 hz1 hz2 rfl (by decide) (.slice (some ⟨w1.heap.size, 0, none⟩) 0 0) 0 [] rfl (World.ownsRow_made w1 (e := 5) (size := 1) #[] 0 (Nat.le_refl _) (by decide) rfl) ⟨b, o, none⟩ l.length c1 (l.map (.int .u8)) rfl (by simp) (HN1.out _) (ints_oneCell _ _) (by unfold maxLen; omega) (by omega) (by simp) ?_; intro v' w4 hown' hgrow _; simp only [Nat.zero_add, List.nil_append] at hown'; obtain ⟨g, cap, rfl, hgl, hcap⟩ := own_form hown' hpos; have hcx : w4.cell? ⟨g, k, none⟩ = some (.int .u8 x) := (hown'.cellAt k (by omega)).trans (by rw [List.getElem?_map, HL.out]; rfl); have hfx : w4.frozen? ⟨g, k, none⟩ = false := hown'.frozenAt k; have T1 := Lib.hid hown'; have T2 := Lib.hid hgrow; clear hown' hgrow)
          go_ret
          exact ⟨rfl, gb_new (gb_alloc G.out _) T2.out (by intro q h; have h2 : w1.heap.size = q := (by simpa [Value.ownBlock] using h); have := G.out.size; omega)⟩
        · have tx : (x == 0) = false := beq_eq_false_iff_ne.2 hx0
          have hx1 : 1 ≤ x := by omega
          have hm2 : M.checkOf (l.set k (x - 1)) = M.chk (l.set k (x - 1)) := by unfold M.checkOf; rw [if_pos (by simp; omega)]
          have tm : (M.checkOf (l.set k (x - 1)) != m) = true := by
            rw [bne_iff_ne, hm2, h3.out]
            exact hch.out
          obtain ⟨m', hm'⟩ : ∃ m', M.checkOf (l.set k (x - 1)) = m' := ⟨_, rfl⟩
          rw [hm'] at tm
          have HM' := Lib.hid hm'
          clear hm' hm2 hx0
          go_wp2_with (at_builtin; refine wpList_append_own _ rfl (.tmp 36) (.tmp 37) 24 rfl w1.heap.size 5 i0 (.int .u8 0) 1 1 Try.underlying24 hi0 hz0 hz1 hz2 rfl (by decide) (.slice (some ⟨w1.heap.size, 0, none⟩) 0 0) 0 [] rfl (World.ownsRow_made w1 (e := 5) (size := 1) #[] 0 (Nat.le_refl _) (by decide) rfl) ⟨b, o, none⟩ l.length c1 (l.map (.int .u8)) rfl (by simp) (HN1.out _) (ints_oneCell _ _) (by unfold maxLen; omega) (by omega) (by simp) ?_; intro v' w4 hown' hgrow _; simp only [Nat.zero_add, List.nil_append] at hown'; obtain ⟨g, cap, rfl, hgl, hcap⟩ := own_form hown' hpos; have hcx : w4.cell? ⟨g, k, none⟩ = some (.int .u8 x) := (hown'.cellAt k (by omega)).trans (by rw [List.getElem?_map, HL.out]; rfl); have hfx : w4.frozen? ⟨g, k, none⟩ = false := hown'.frozenAt k; have T1 := Lib.hid hown'; have T2 := Lib.hid hgrow; clear hown' hgrow)
          have T3 := T1.out.stored k (.int .u8 (x - 1))
          have T4 := T3.1
          rw [← List.map_set] at T4
          have T5 := Lib.hid (rd_of_owns T4)
          have T6 := Lib.hid T3.2
          clear T3 T4
          refine (CheckOf_impl_n _ _ l.length cap _ _ (l.set k (x - 1)) (by simp) (by simp; omega) (fun y hy => HBS.out y hy hx1) T5.out).mono ?_
          rintro e w' ⟨rfl, rfl⟩
          rw [HM'.out]
          go_wp2_with fail
          go_ret
          have g4 := gb_new (gb_alloc G.out (.cells #[] 5)) T2.out (by intro q h; have h2 : w1.heap.size = q := (by simpa [Value.ownBlock] using h); have := G.out.size; omega)
          exact ⟨rfl, gb_setCell g4 (.inl (by have := G.out.size; show _ ≤ g; omega)) _⟩
    · have hz : ((l.length : Int) == 0) = false := beq_eq_false_iff_ne.2 (fun h => hn (m2.2 (by omega)))
      clear m2 m3 hm
      go_wp2_with (first | (go_at_call 15; refine (CheckOf_impl _ A1 c1 _ _ l (by omega) B.out R.out).mono ?_; rintro e w' ⟨rfl, rfl⟩; rw [HM.out]) | (go_at_call 13; refine (CheckOf_spec _ A1 c1 _ _ l (by omega) B.out R.out).mono ?_; rintro e w' ⟨rfl, rfl⟩; rw [HM.out]))
      go_ret
      exact ⟨rfl, G.out⟩
  · have hb' : (1048576 : Int) < bs.length := by omega
    generalize bs.length = L at *
    go_enter Try.func9, Try.ntmps9
    go_wp2
    go_ret
    exact ⟨rfl, gb_refl _ _⟩
end fnCheckOfChange
/-! the row's step -/
namespace fnCheckOfChange
set_option maxRecDepth 100000 in
theorem lifted (os : Os) (started : os.Started) (H : Type) (enc : TypeId × Value → H) :
    ReturnsInHanded {} Try.checked os 9 .any (Rows.fnCheckOfChangeSpec.pre6 enc Try.prog Try.f9 Rows.fnCheckOfChangeRow.domain false) (Rows.fnCheckOfChangeSpec.post enc Try.prog Try.f9 false true false false) := by
  refine returnsInHanded_of_change (C := Try.checked) own started (by kernel_rfl) Try.func9
    (ChangeSpec.witness6 (enc := enc) (C := Try.checked) false ⟨#[], #[.slice none 0 0], []⟩ 8 (by kernel_rfl) (by kernel_rfl) (by kernel_rfl) (by kernel_rfl)) ?_
  intro W base args ds gs before hval0 hW hcnd _
  have hval : ∀ (j : Nat) t v, Try.f9.params[j]? = some t → args[j]? = some v → Value.okWide Try.prog W .any base t v := hval0
  have hW' := hW
  obtain ⟨p, q, hA0, hV, rfl, hfz, hnd⟩ := hW
  have hA : DataW.TrodAll enc Try.prog W 0 (fun _ => true) true Try.f9.params.toList args.toList ds p := hA0
  rw [Try.params9] at hA hval
  obtain ⟨v0, vs0, d0, ds0, p0, q0, hargs, rfl, rfl, h0, r0⟩ := trodAll_cons hA
  obtain ⟨rfl, rfl, rfl⟩ := trodAll_nil r0
  obtain rfl : args = #[v0] := by cases args; simp_all
  obtain ⟨rfl, rfl⟩ := trodVars_none hV
  obtain ⟨a0, len0, cap0, rfl⟩ := okWide_slice Try.underlying24 (hval 0 24 v0 rfl rfl)
  have k0 := h0
  have lt0 : ∀ x ∈ p0, x.block < W.heap.size := by obtain ⟨m, hm⟩ := k0; exact DataW.trod_lt m _ _ _ hm
  obtain ⟨bs, rfl, b1, b2, b3⟩ := code_row h0
  clear hA0 hval0
  refine (walk W a0 cap0 bs b1 b2 b3).mono fun e W' ⟨he, bel0⟩ => ?_
  have bel := gb_below bel0
  subst he
  exact ⟨_, rfl, _, _, _, [], _, [], hW', trodAll_mk1 (shut_bool Try.underlying4 _), (trodAll_cons_mk (Below.trod laidOut (by kernel_rfl) (of_decide_eq_true (by kernel_rfl)) k0 bel lt0) trodAll_mk0), rfl, bel.frame _, fun h => by cases h⟩
set_option maxRecDepth 100000 in
theorem over : Rows.fnCheckOfChangeRow.holds Try.pinned (OpenSpec.ofChange Rows.fnCheckOfChangeSpec) :=
  OpenClaim.holds_of_wide 9 Try.f9 rfl rfl rfl rfl rfl rfl rfl ⟨rfl, rfl, rfl, rfl, rfl⟩ rfl rfl rfl rfl rfl (by kernel_rfl) Try.func9 (by kernel_rfl)
    (of_decide_eq_true (by kernel_rfl)) (by unfold Func.isWrapper; first | (rw [if_pos (by decide +kernel)]; kernel_rfl) | (rw [if_neg (by decide +kernel)]; exact ⟨rfl, rfl⟩))
    (fun os started H enc _ => lifted os started H enc)
theorem proved : Rows.FnCheckOfChangeSaid := over
end fnCheckOfChange
end Go.Proofs.Ytopapnbhnknpiaa
