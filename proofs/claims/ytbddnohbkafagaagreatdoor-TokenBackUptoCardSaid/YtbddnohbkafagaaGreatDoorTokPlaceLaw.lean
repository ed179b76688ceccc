/-
Tokens stand one behind the other, each of some bytes of its own: the plain law.
-/
import Derived.Test.YtbddnohbkafagaaGreatDoorTokLaw
namespace Go.Proofs.YtbddnohbkafagaaGreatDoor
open Go.RowKit Go.Cl

/-! ### a reference is some bytes -/
theorem enc_some (r : Int) : 1 ≤ (Lib.encodeRune r).length := by
  rw [← Lib.runeCells_length]
  exact (Lib.runeCells_le r).1
theorem sign_some (n : Int) : 1 ≤ (signB n).size := enc_some _
theorem find_some {s : ByteArray} {attr : Bool} (h : (findB s attr).2 ≠ 0) : 1 ≤ (findB s attr).1.size := by
  have hE : ∀ (base : Int) (a : Nat), (numE s base a).2 ≠ 0 → 1 ≤ (numE s base a).1.size := fun base a h => by
    unfold numE at h ⊢
    dsimp only at h ⊢
    split
    · rename_i h0; rw [if_pos h0] at h; exact absurd rfl h
    · exact sign_some _
  have hN : ∀ (l : List Nam) (a : ByteArray × Nat), (a.2 ≠ 0 → 1 ≤ a.1.size) → (l.foldl (nstep s) a).2 ≠ 0 → 1 ≤ (l.foldl (nstep s) a).1.size := by
    intro l
    induction l with
    | nil => exact fun a h => h
    | cons x l ih =>
      intro a ha
      refine ih _ ?_
      unfold nstep
      split
      · split
        · exact ha
        · exact fun _ => sign_some _
      · exact ha
  unfold findB at h ⊢
  split
  · rename_i h0
    rw [if_pos h0] at h
    split
    · rename_i h1
      rw [if_pos h1] at h
      unfold numB at h ⊢
      split
      · rename_i h2; rw [if_pos h2] at h; exact hE _ _ h
      · rename_i h2; rw [if_neg h2] at h; exact hE _ _ h
    · rename_i h1
      rw [if_neg h1] at h
      unfold namedB at h ⊢
      split
      · rename_i h2; rw [if_pos h2] at h; exact absurd rfl h
      · rename_i h2; rw [if_neg h2] at h; exact hN namesL _ (fun h => absurd rfl h) h
  · rename_i h0; rw [if_neg h0] at h; exact absurd rfl h
theorem stepB_some {s : ByteArray} (h1 : 1 ≤ s.size) (attr : Bool) : 1 ≤ (stepB s attr).1.size := by
  unfold stepB
  split
  · rw [ByteArray.size_extract]; omega
  · rename_i h; exact find_some h
theorem entT_some {l : List UInt8} (h : l ≠ []) : entT l ≠ [] := by
  have h1 : 1 ≤ (bs l).size := by rw [bs_size]; cases l with
    | nil => exact absurd rfl h
    | cons => simp
  unfold entT
  rw [readL_step h1]
  have h2 := stepB_some h1 false
  intro e
  have h3 := (List.append_eq_nil_iff.1 e).1
  have h4 : (stepB (bs l) false).1.data.toList.length = (stepB (bs l) false).1.size := Array.length_toList
  rw [h3, List.length_nil] at h4
  omega
/-! ### what is behind is an end of it -/
theorem dropW_suf (p : UInt8 → Bool) (r : List UInt8) : r.dropWhile p <:+ r := List.dropWhile_suffix p
theorem cut_suf (r mark : List UInt8) : (Lib.cut r mark).2.1 <:+ r := by
  unfold Lib.cut
  split
  · exact List.drop_suffix _ _
  · exact List.nil_suffix
theorem value_suf (r : List UInt8) : (valueF r).2 <:+ r := by
  unfold valueF
  have h := dropW_suf blankB r
  cases hd : r.dropWhile blankB with
  | nil => exact List.nil_suffix
  | cons q t =>
    rw [hd] at h
    dsimp only
    split
    · exact ((cut_suf t [q]).trans (List.suffix_cons q t)).trans h
    · exact (dropW_suf valB _).trans h
theorem attr_suf (b : UInt8) (t : List UInt8) : (attrF b t).2 <:+ t := by
  have h : attrEnd t <:+ t := (dropW_suf blankB _).trans (dropW_suf anB t)
  unfold attrF
  split
  · exact ((value_suf _).trans (List.tail_suffix _)).trans h
  · exact h
theorem tagF_end {acc : List DAttr} {r : List UInt8} {x : List DAttr × Bool × List UInt8} (h : tagF acc r = some x) : 62 :: x.2.2 <:+ r := by
  induction hn : r.length using Nat.strongRecOn generalizing acc r with
  | ind n ih =>
    subst hn
    rw [tagF_step] at h
    have h0 := dropW_suf skipB r
    have h1 := dropW_le skipB r
    cases hd : r.dropWhile skipB with
    | nil => rw [hd] at h; cases h
    | cons b t =>
      rw [hd] at h h0 h1
      rw [List.length_cons] at h1
      dsimp only at h
      split at h
      · rename_i hb; subst hb; cases h; exact h0
      · have h2 := attr_le b t
        exact (ih _ (by omega) h rfl).trans (((attr_suf b t).trans (List.suffix_cons b t)).trans h0)
theorem tagT_end {kind : Int} {r : List UInt8} {x : Tk × List UInt8} (h : tagT kind r = some x) : 62 :: x.2 <:+ r ∧ x.1.kind = kind ∧ x.1.name = bs (nameL (r.takeWhile tagB)) := by
  unfold tagT at h
  cases ht : tagF [] (r.dropWhile tagB) with
  | none => rw [ht] at h; cases h
  | some y =>
    rw [ht] at h
    cases h
    refine ⟨(tagF_end ht).trans (dropW_suf tagB r), ?_, ?_⟩
    · dsimp only; split
      · rename_i h; exact h.symm
      · rfl
    · dsimp only; split <;> rfl
theorem com_suf (mark r : List UInt8) : (comF mark r).2.2 <:+ r := cut_suf r mark
theorem decl_suf (r : List UInt8) : (declF r).2.2 <:+ r := by
  unfold declF
  split
  · split
    · exact List.drop_suffix _ _
    · split
      · exact List.drop_suffix _ _
      · exact (com_suf _ _).trans (List.drop_suffix _ _)
  · split
    · exact (cut_suf _ _).trans (List.drop_suffix _ _)
    · exact (com_suf _ _).trans (List.drop_suffix _ _)
theorem decl_kind (r : List UInt8) : (declF r).1.kind = 4 ∨ (declF r).1.kind = 5 := by
  unfold declF
  split
  · split
    · exact .inl rfl
    · split <;> exact .inl rfl
  · split
    · exact .inr rfl
    · exact .inl rfl
/-- letters are no tag's end -/
theorem letter_tag : ∀ b : UInt8, letterB b = true → tagB b = true ∧ 1 ≤ (nameL [b]).length := by
  intro b h
  refine ⟨?_, by simp [nameL]⟩
  have key : ∀ n : Fin 256, letterB (UInt8.ofNat n.val) = true → tagB (UInt8.ofNat n.val) = true := by decide +kernel
  have := key ⟨b.toNat, b.toNat_lt⟩
  rw [show UInt8.ofNat b.toNat = b from by simp] at this
  exact this h
theorem name_some {b : UInt8} {t : List UInt8} (h : letterB b = true) : (bs (nameL ((b :: t).takeWhile tagB))).size ≠ 0 := by
  rw [bs_size, List.takeWhile_cons_of_pos (letter_tag b h).1]
  simp [nameL]
/-- What a markup gives: a tag begins with < and ends with >, and has a name; it is no text. -/
theorem next_tok {r : List UInt8} {x : Option Tk × Bool × List UInt8} (hm : markF r ≠ 0) (h : nextF r = some x) :
    x.2.2 <:+ r ∧ ∀ t, x.1 = some t → t.kind ≠ 3 ∧ (t.kind = 1 ∨ t.kind = 2 → 62 :: x.2.2 <:+ r ∧ t.name.size ≠ 0) := by
  obtain ⟨b, t, rfl⟩ := mark_two hm
  unfold nextF at h
  split at h
  · cases h
    refine ⟨decl_suf _, fun t ht => ?_⟩
    cases ht
    have := decl_kind (60 :: b :: t)
    exact ⟨by omega, fun h => by omega⟩
  · split at h
    · cases h
      exact ⟨(com_suf _ _).trans (List.drop_suffix _ _), fun t ht => by cases ht; exact ⟨(by show (4 : Int) ≠ 3; decide), fun h => absurd h (by show ¬ ((4 : Int) = 1 ∨ (4 : Int) = 2); decide)⟩⟩
    · split at h
      · rename_i hmk
        cases ht : tagT 1 (List.drop 1 (60 :: b :: t)) with
        | none => rw [ht] at h; cases h
        | some y =>
          rw [ht] at h
          cases h
          obtain ⟨h1, h2, h3⟩ := tagT_end ht
          have hb : letterB b = true := by
            by_cases hl : letterB b = true
            · exact hl
            · rw [mark_cons] at hmk
              rw [if_neg (by simp), if_neg hl] at hmk
              split at hmk
              · rename_i h33; rcases h33 with e | e <;> rw [e] at hmk <;> exact absurd hmk (by decide)
              · split at hmk
                · rename_i h47; rw [h47.1] at hmk; exact absurd hmk (by decide)
                · exact absurd hmk (by decide)
          refine ⟨((List.suffix_cons _ _).trans h1).trans (List.drop_suffix _ _), fun t ht => ?_⟩
          cases ht
          rw [h2, h3]
          exact ⟨by decide, fun _ => ⟨h1.trans (List.drop_suffix _ _), name_some hb⟩⟩
      · simp only [List.drop_succ_cons, List.drop_zero] at h
        have h60 : t <:+ 60 :: b :: t := (List.suffix_cons b t).trans (List.suffix_cons _ _)
        cases t with
        | nil => cases h
        | cons c t =>
          dsimp only at h
          split at h
          · cases h; exact ⟨(List.suffix_cons c t).trans h60, fun _ ht => by cases ht⟩
          · split at h
            · rename_i hl
              cases ht : tagT 2 (c :: t) with
              | none => rw [ht] at h; cases h
              | some y =>
                rw [ht] at h
                cases h
                obtain ⟨h1, h2, h3⟩ := tagT_end ht
                refine ⟨((List.suffix_cons _ _).trans h1).trans h60, fun t ht => ?_⟩
                cases ht
                rw [h2, h3]
                exact ⟨by decide, fun _ => ⟨h1.trans h60, name_some hl⟩⟩
            · cases h
              exact ⟨(com_suf _ _).trans h60, fun t ht => by cases ht; exact ⟨(by show (4 : Int) ≠ 3; decide), fun h => absurd h (by show ¬ ((4 : Int) = 1 ∨ (4 : Int) = 2); decide)⟩⟩
/-! ### one behind the other -/
def ChainP : Nat → List Pl → Prop
  | _, [] => True
  | hi, x :: l => x.2.1 ≤ hi ∧ x.2.2 < x.2.1 ∧ ChainP x.2.2 l
theorem ChainP.mono {a b : Nat} {l : List Pl} (h : ChainP a l) (hab : a ≤ b) : ChainP b l := by
  cases l with
  | nil => trivial
  | cons x l => exact ⟨Nat.le_trans h.1 hab, h.2⟩
theorem ChainP.append {a b : Nat} {l k : List Pl} (h : ChainP a l) (hl : ∀ x ∈ l, b ≤ x.2.2) (hab : b ≤ a) (hk : ChainP b k) : ChainP a (l ++ k) := by
  induction l generalizing a with
  | nil => exact hk.mono hab
  | cons x l ih => exact ⟨h.1, h.2.1, ih h.2.2 (fun y hy => hl y (List.mem_cons_of_mem _ hy)) (hl x (List.mem_cons_self ..))⟩
/-- What the law asks of a token. -/
def OkTk (s : List UInt8) (x : Pl) : Prop := x.2.1 ≤ s.length ∧ (x.1.kind = 3 → x.1.text.size ≠ 0) ∧ (x.1.kind = 1 ∨ x.1.kind = 2 → s[s.length - x.2.1]? = some 60 ∧ s[s.length - x.2.2 - 1]? = some 62 ∧ x.1.name.size ≠ 0)
theorem suf_at {u s : List UInt8} (h : u <:+ s) (i : Nat) : s[s.length - u.length + i]? = u[i]? := by
  obtain ⟨p, rfl⟩ := h
  rw [List.length_append, List.getElem?_append_right (by omega)]
  congr 1
  omega
theorem putT_ok {s x : List UInt8} {y : ByteArray} {a b : Nat} (ha : a ≤ s.length) (hx : x ≠ [] → b < a) (hy : x ≠ [] → y.size ≠ 0) : ChainP a (putT x y a b) ∧ (∀ z ∈ putT x y a b, b ≤ z.2.2) ∧ ∀ z ∈ putT x y a b, OkTk s z := by
  unfold putT
  split
  · exact ⟨trivial, fun _ h => (by cases h), fun _ h => (by cases h)⟩
  · rename_i h
    refine ⟨⟨Nat.le_refl _, hx h, trivial⟩, fun z hz => ?_, fun z hz => ?_⟩
    · rw [List.mem_singleton.1 hz]; exact Nat.le_refl _
    · rw [List.mem_singleton.1 hz]
      exact ⟨ha, fun _ => hy h, fun h => absurd h (by show ¬ ((3 : Int) = 1 ∨ (3 : Int) = 2); decide)⟩
theorem text_lt {r : List UInt8} (h : (textF r).1 ≠ []) : (textF r).2.length < r.length := by
  have := congrArg List.length (text_split r)
  rw [List.length_append] at this
  have : 0 < (textF r).1.length := List.length_pos_iff.2 h
  omega
theorem raw_lt {nm r : List UInt8} (h : (rawF nm r).1 ≠ []) : (rawF nm r).2.length < r.length := by
  have := congrArg List.length (raw_split nm r)
  rw [List.length_append] at this
  have : 0 < (rawF nm r).1.length := List.length_pos_iff.2 h
  omega
theorem bs_some {l : List UInt8} (h : l ≠ []) : (bs l).size ≠ 0 := by
  rw [bs_size]
  have : 0 < l.length := List.length_pos_iff.2 h
  omega
theorem after_ok {s r : List UInt8} (t : Option Tk) (hr : r.length ≤ s.length) : ChainP r.length (afterF t r).1 ∧ (∀ z ∈ (afterF t r).1, (afterF t r).2.length ≤ z.2.2) ∧ ∀ z ∈ (afterF t r).1, OkTk s z := by
  unfold afterF
  split
  · have hl := raw_le (rawOf t) r
    have ht := text_le (rawF (rawOf t) r).2
    obtain ⟨a1, a2, a3⟩ := putT_ok (s := s) (x := (rawF (rawOf t) r).1) (y := bs (if rawN (rawOf t) = 2 then entT (rawF (rawOf t) r).1 else (rawF (rawOf t) r).1)) (a := r.length) (b := (rawF (rawOf t) r).2.length) hr raw_lt (fun h => bs_some (by split; exact entT_some h; exact h))
    obtain ⟨b1, b2, b3⟩ := putT_ok (s := s) (x := (textF (rawF (rawOf t) r).2).1) (y := bs (entT (textF (rawF (rawOf t) r).2).1)) (a := (rawF (rawOf t) r).2.length) (b := (textF (rawF (rawOf t) r).2).2.length) (by omega) text_lt (fun h => bs_some (entT_some h))
    dsimp only
    refine ⟨a1.append a2 hl b1, fun z hz => ?_, fun z hz => ?_⟩
    · rcases List.mem_append.1 hz with h | h
      · exact Nat.le_trans ht (a2 z h)
      · exact b2 z h
    · rcases List.mem_append.1 hz with h | h
      · exact a3 z h
      · exact b3 z h
  · exact putT_ok hr text_lt (fun h => bs_some (entT_some h))
theorem readM_ok {s r : List UInt8} (hr : r <:+ s) (hm : r = [] ∨ markF r ≠ 0) : ChainP r.length (readM r).1 ∧ ∀ z ∈ (readM r).1, OkTk s z := by
  induction hn : r.length using Nat.strongRecOn generalizing r with
  | ind n ih =>
    subst hn
    rcases hm with rfl | hm
    · rw [readM_nil]; exact ⟨trivial, fun _ h => by cases h⟩
    rw [readM_step hm]
    cases hx : nextF r with
    | none => exact ⟨trivial, fun _ h => by cases h⟩
    | some x =>
      obtain ⟨t, e, r2⟩ := x
      dsimp only
      obtain ⟨s1, s2⟩ := next_tok hm hx
      have l1 := next_le hm hx
      have l2 := after_le t r2
      dsimp only at s1 s2 l1
      have hsl := hr.length_le
      have hs2 : (afterF t r2).2 <:+ s := by
        refine List.IsSuffix.trans ?_ (s1.trans hr)
        unfold afterF
        split
        · exact List.IsSuffix.trans ⟨_, text_split _⟩ ⟨_, raw_split _ _⟩
        · exact ⟨_, text_split _⟩
      obtain ⟨c1, c2, c3⟩ := after_ok (s := s) (r := r2) t (by omega)
      obtain ⟨d1, d2⟩ := ih _ (by omega) hs2 (after_mark t r2) rfl
      have hM : ChainP r.length (putM t r.length r2.length) ∧ (∀ z ∈ putM t r.length r2.length, r2.length ≤ z.2.2) ∧ ∀ z ∈ putM t r.length r2.length, OkTk s z := by
        cases t with
        | none => exact ⟨trivial, fun _ h => (by cases h), fun _ h => (by cases h)⟩
        | some t =>
          obtain ⟨k1, k2⟩ := s2 t rfl
          refine ⟨⟨Nat.le_refl _, l1, trivial⟩, fun z hz => ?_, fun z hz => ?_⟩
          · rw [List.mem_singleton.1 hz]; exact Nat.le_refl _
          · rw [List.mem_singleton.1 hz]
            refine ⟨hsl, fun h => absurd h k1, fun h => ?_⟩
            obtain ⟨k3, k4⟩ := k2 h
            obtain ⟨b, tt, hrr⟩ := mark_two hm
            refine ⟨?_, ?_, k4⟩
            · have := suf_at hr 0
              rw [Nat.add_zero] at this
              rw [this, hrr]
              rfl
            · have := suf_at (k3.trans hr) 0
              rw [List.length_cons] at this
              rw [show s.length - r2.length - 1 = s.length - (r2.length + 1) + 0 from by omega, this]
              rfl
      refine ⟨?_, fun z hz => ?_⟩
      · rw [List.append_assoc]
        exact hM.1.append hM.2.1 (by omega) (c1.append c2 l2 d1)
      · rcases List.mem_append.1 hz with h | h
        · rcases List.mem_append.1 h with h | h
          · exact hM.2.2 z h
          · exact c3 z h
        · exact d2 z h
/-- TOKENS STAND ONE BEHIND THE OTHER, each of some bytes of its own. -/
theorem places_law (s : List UInt8) : ChainP s.length (readF s).1 ∧ ∀ z ∈ (readF s).1, OkTk s z := by
  unfold readF
  dsimp only
  obtain ⟨b1, b2, b3⟩ := putT_ok (s := s) (x := (textF s).1) (y := bs (entT (textF s).1)) (a := s.length) (b := (textF s).2.length) (Nat.le_refl _) text_lt (fun h => bs_some (entT_some h))
  obtain ⟨c1, c2⟩ := readM_ok (s := s) (r := (textF s).2) ⟨_, text_split s⟩ (text_mark s)
  refine ⟨b1.append b2 (text_le s) c1, fun z hz => ?_⟩
  rcases List.mem_append.1 hz with h | h
  · exact b3 z h
  · exact c2 z h
end Go.Proofs.YtbddnohbkafagaaGreatDoor
