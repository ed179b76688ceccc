/-
What is safe stays: the plain law.
-/
import Derived.Test.YtbddnohbkafagaaGreatDoorTokPlaceLaw
namespace Go.Proofs.YtbddnohbkafagaaGreatDoor
open Go.RowKit Go.Cl

/-! ### what is decided ahead of the end stays decided -/
theorem dropW_more {p : UInt8 → Bool} {r : List UInt8} (h : r.dropWhile p ≠ []) (m : List UInt8) : (r ++ m).dropWhile p = r.dropWhile p ++ m ∧ (r ++ m).takeWhile p = r.takeWhile p := by
  induction r with
  | nil => exact absurd rfl h
  | cons b t ih =>
    cases hb : p b with
    | true =>
      rw [List.dropWhile_cons_of_pos hb] at h ⊢
      rw [List.cons_append, List.dropWhile_cons_of_pos hb, List.takeWhile_cons_of_pos hb, List.takeWhile_cons_of_pos hb, (ih h).1, (ih h).2]
      exact ⟨rfl, rfl⟩
    | false =>
      rw [List.dropWhile_cons_of_neg (by simp [hb]), List.takeWhile_cons_of_neg (by simp [hb]), List.cons_append, List.dropWhile_cons_of_neg (by simp [hb]), List.takeWhile_cons_of_neg (by simp [hb])]
      exact ⟨rfl, rfl⟩
theorem pre_more {p r : List UInt8} (h : p.length ≤ r.length) (m : List UInt8) : p.isPrefixOf (r ++ m) = p.isPrefixOf r := by
  rw [Bool.eq_iff_iff, List.isPrefixOf_iff_prefix, List.isPrefixOf_iff_prefix]
  exact ⟨fun k => List.prefix_of_prefix_length_le k (List.prefix_append r m) h, fun k => k.trans (List.prefix_append r m)⟩
theorem index_more {r mark : List UInt8} (hm : mark ≠ []) (h : 0 ≤ Lib.index r mark) (m : List UInt8) : Lib.index (r ++ m) mark = Lib.index r mark ∧ (Lib.index r mark).toNat + mark.length ≤ r.length := by
  induction r with
  | nil =>
    exfalso
    unfold Lib.index at h
    cases mark with
    | nil => exact hm rfl
    | cons => simp at h
  | cons b t ih =>
    have hml : 0 < mark.length := List.length_pos_iff.2 hm
    by_cases hp : mark.isPrefixOf (b :: t) = true
    · have hl := (List.isPrefixOf_iff_prefix.1 hp).length_le
      have h1 : Lib.index (b :: t) mark = 0 := by rw [Lib.index, if_pos hp]
      rw [h1, List.cons_append, Lib.index, ← List.cons_append, pre_more hl, if_pos hp]
      exact ⟨rfl, by simpa using hl⟩
    · have hi : Lib.index (b :: t) mark = if Lib.index t mark == -1 then -1 else Lib.index t mark + 1 := by rw [Lib.index, if_neg hp]
      by_cases h0 : 0 ≤ Lib.index t mark
      · obtain ⟨i1, i2⟩ := ih h0
        have hne : (Lib.index t mark == -1) = false := by rw [beq_eq_false_iff_ne]; omega
        rw [hi, hne, if_neg (by simp), List.cons_append, Lib.index, ← List.cons_append, pre_more (by rw [List.length_cons]; omega), if_neg hp, i1, hne, if_neg (by simp)]
        exact ⟨rfl, by rw [List.length_cons]; omega⟩
      · have := Lib.index_ge t mark
        rw [hi] at h
        have e : Lib.index t mark = -1 := by omega
        rw [e] at h
        exact absurd h (by decide)
theorem cut_more {r mark : List UInt8} (hm : mark ≠ []) (h : (Lib.cut r mark).2.2 = true) (m : List UInt8) : Lib.cut (r ++ m) mark = ((Lib.cut r mark).1, (Lib.cut r mark).2.1 ++ m, true) := by
  unfold Lib.cut at h ⊢
  by_cases h0 : 0 ≤ Lib.index r mark
  · obtain ⟨i1, i2⟩ := index_more hm h0 m
    rw [i1, if_pos h0, if_pos h0, List.take_append_of_le_length (by omega), List.drop_append_of_le_length i2]
  · rw [if_neg h0] at h; cases h
theorem cut_open {r mark : List UInt8} (h : (Lib.cut r mark).2.2 = false) : (Lib.cut r mark).2.1 = [] := by
  unfold Lib.cut at h ⊢
  split
  · rename_i h0; rw [if_pos h0] at h; cases h
  · rfl
theorem cut_shut {r mark : List UInt8} (h : (Lib.cut r mark).2.1 ≠ []) : (Lib.cut r mark).2.2 = true := by
  cases hc : (Lib.cut r mark).2.2 with
  | true => rfl
  | false => exact absurd (cut_open hc) h
/-! ### attributes and tags -/
theorem value_more {r : List UInt8} (h : (valueF r).2 ≠ []) (m : List UInt8) : valueF (r ++ m) = ((valueF r).1, (valueF r).2 ++ m) := by
  unfold valueF at h ⊢
  cases hd : r.dropWhile blankB with
  | nil => rw [hd] at h; exact absurd rfl h
  | cons q t =>
    rw [(dropW_more (by rw [hd]; simp) m).1]
    rw [hd] at h ⊢
    dsimp only [List.cons_append] at h ⊢
    split
    · rename_i hq
      rw [if_pos hq] at h
      rw [cut_more (by simp) (cut_shut h) m]
    · rename_i hq
      rw [if_neg hq] at h
      have := dropW_more h m
      rw [List.cons_append] at this
      rw [this.1, this.2]
theorem attrEnd_more {t : List UInt8} (h : attrEnd t ≠ []) (m : List UInt8) : attrEnd (t ++ m) = attrEnd t ++ m ∧ (t ++ m).takeWhile anB = t.takeWhile anB := by
  unfold attrEnd at h ⊢
  have h1 : t.dropWhile anB ≠ [] := fun e => by rw [e] at h; exact h rfl
  obtain ⟨a, b⟩ := dropW_more h1 m
  rw [a, b, (dropW_more h m).1]
  exact ⟨rfl, rfl⟩
theorem attr_more {b : UInt8} {t : List UInt8} (h : (attrF b t).2 ≠ []) (m : List UInt8) : attrF b (t ++ m) = ((attrF b t).1, (attrF b t).2 ++ m) := by
  have hne : attrEnd t ≠ [] := fun e => by
    unfold attrF at h
    rw [e] at h
    exact h rfl
  obtain ⟨h1, h2⟩ := attrEnd_more hne m
  unfold attrF at h ⊢
  rw [h1, h2]
  cases ht : attrEnd t with
  | nil => exact absurd ht hne
  | cons c u =>
    rw [ht] at h
    simp only [List.cons_append, List.head?_cons, List.tail_cons, Option.some.injEq] at h ⊢
    split
    · rename_i hc
      rw [if_pos hc] at h
      rw [value_more h m]
    · rfl
theorem tagF_nil (acc : List DAttr) : tagF acc [] = none := by rw [tagF_step]; rfl
theorem tagF_more {acc : List DAttr} {r : List UInt8} {x : List DAttr × Bool × List UInt8} (h : tagF acc r = some x) (m : List UInt8) : tagF acc (r ++ m) = some (x.1, x.2.1, x.2.2 ++ m) := by
  induction hn : r.length using Nat.strongRecOn generalizing acc r with
  | ind n ih =>
    subst hn
    rw [tagF_step] at h ⊢
    have h1 := dropW_le skipB r
    cases hd : r.dropWhile skipB with
    | nil => rw [hd] at h; cases h
    | cons b t =>
      obtain ⟨e1, e2⟩ := dropW_more (p := skipB) (r := r) (by rw [hd]; simp) m
      rw [e1, e2]
      rw [hd] at h h1 ⊢
      rw [List.length_cons] at h1
      dsimp only [List.cons_append] at h ⊢
      split
      · rename_i hb
        rw [if_pos hb] at h
        cases h
        rfl
      · rename_i hb
        rw [if_neg hb] at h
        have h2 := attr_le b t
        have hne : (attrF b t).2 ≠ [] := fun e => by rw [e, tagF_nil] at h; cases h
        rw [attr_more hne m]
        exact ih _ (by omega) h rfl
theorem tagT_more {kind : Int} {r : List UInt8} {x : Tk × List UInt8} (h : tagT kind r = some x) (m : List UInt8) : tagT kind (r ++ m) = some (x.1, x.2 ++ m) := by
  unfold tagT at h ⊢
  cases ht : tagF [] (r.dropWhile tagB) with
  | none => rw [ht] at h; cases h
  | some y =>
    have hne : r.dropWhile tagB ≠ [] := fun e => by rw [e, tagF_nil] at ht; cases ht
    obtain ⟨e1, e2⟩ := dropW_more hne m
    rw [e1, e2, tagF_more ht m]
    rw [ht] at h
    cases h
    rfl
/-! ### comments and their like -/
theorem com_more {mark r : List UInt8} (hm : mark ≠ []) (h : (comF mark r).2.1 = true) (m : List UInt8) : comF mark (r ++ m) = ((comF mark r).1, true, (comF mark r).2.2 ++ m) := by
  unfold comF at h ⊢
  rw [cut_more hm h m]
theorem hasP_more {p r : List UInt8} (h : p.length ≤ r.length) (m : List UInt8) : Lib.hasPrefix (r ++ m) p = Lib.hasPrefix r p := pre_more h m
theorem cut_mem {r : List UInt8} {c : UInt8} (h : (Lib.cut r [c]).2.2 = true) : c ∈ r := by
  unfold Lib.cut at h
  by_cases h0 : 0 ≤ Lib.index r [c]
  · clear h
    induction r with
    | nil => exact absurd h0 (by show ¬ (0 : Int) ≤ (-1 : Int); decide)
    | cons b t ih =>
      by_cases hp : [c].isPrefixOf (b :: t) = true
      · have := List.isPrefixOf_iff_prefix.1 hp
        obtain ⟨u, hu⟩ := this
        injection hu with hu _
        rw [hu]
        exact List.mem_cons_self ..
      · rw [Lib.index, if_neg hp] at h0
        refine List.mem_cons_of_mem _ (ih ?_)
        have := Lib.index_ge t [c]
        by_cases e : Lib.index t [c] = -1
        · rw [e] at h0; exact absurd h0 (by decide)
        · omega
  · rw [if_neg h0] at h; cases h
theorem fold_mem {a b : List UInt8} (h : Lib.equalFold a b = true) : ∀ x ∈ a, ∃ y ∈ b, Lib.foldEq x y = true := by
  induction a generalizing b with
  | nil => intro x hx; cases hx
  | cons c a ih =>
    cases b with
    | nil => simp [Lib.equalFold] at h
    | cons d b =>
      simp only [Lib.equalFold, Bool.and_eq_true] at h
      intro x hx
      rcases List.mem_cons.1 hx with rfl | hx
      · exact ⟨d, List.mem_cons_self .., h.1⟩
      · obtain ⟨y, hy, he⟩ := ih h.2 x hx
        exact ⟨y, List.mem_cons_of_mem _ hy, he⟩
theorem decl_open {r : List UInt8} (h : (declF r).2.1 = false) : (declF r).2.2 = [] := by
  unfold declF at h ⊢
  split
  · rename_i h1
    rw [if_pos h1] at h
    split
    · rename_i h2; rw [if_pos h2] at h; cases h
    · rename_i h2
      rw [if_neg h2] at h
      split
      · rename_i h3; rw [if_pos h3] at h; cases h
      · rename_i h3; rw [if_neg h3] at h; exact cut_open h
  · rename_i h1
    rw [if_neg h1] at h
    split
    · rename_i h2; rw [if_pos h2] at h; exact cut_open h
    · rename_i h2; rw [if_neg h2] at h; exact cut_open h
theorem decl_more {r : List UInt8} (h2 : 2 ≤ r.length) (h : (declF r).2.1 = true) (m : List UInt8) : declF (r ++ m) = ((declF r).1, true, (declF r).2.2 ++ m) := by
  by_cases hc : Lib.hasPrefix r ([60, 33, 45, 45] : List UInt8) = true
  · have hl := pre_len hc
    simp only [List.length_cons, List.length_nil] at hl
    have hcm : Lib.hasPrefix (r ++ m) ([60, 33, 45, 45] : List UInt8) = true := by rw [hasP_more (by simpa using hl)]; exact hc
    unfold declF at h ⊢
    rw [if_pos hc] at h ⊢
    rw [if_pos hcm, List.drop_append_of_le_length (by omega)]
    by_cases ha : Lib.hasPrefix (r.drop 4) [62] = true
    · have hla := pre_len ha
      rw [List.length_drop, List.length_singleton] at hla
      rw [if_pos ha, if_pos (by rw [hasP_more (by rw [List.length_drop, List.length_singleton]; omega)]; exact ha), List.drop_append_of_le_length (by omega)]
    · rw [if_neg ha] at h ⊢
      by_cases hb : Lib.hasPrefix (r.drop 4) [45, 62] = true
      · have hlb := pre_len hb
        rw [List.length_drop] at hlb
        simp only [List.length_cons, List.length_nil] at hlb
        rw [if_pos hb, if_neg (by rw [hasP_more (by rw [List.length_drop, List.length_singleton]; omega)]; exact ha), if_pos (by rw [hasP_more (by rw [List.length_drop]; simp only [List.length_cons, List.length_nil]; omega)]; exact hb), List.drop_append_of_le_length (by omega)]
      · rw [if_neg hb] at h ⊢
        have hcu : 3 ≤ (r.drop 4).length := by
          have h0 : 0 ≤ Lib.index (r.drop 4) [45, 45, 62] := by
            by_cases h0 : 0 ≤ Lib.index (r.drop 4) [45, 45, 62]
            · exact h0
            · exfalso
              unfold comF Lib.cut at h
              rw [if_neg h0] at h
              cases h
          have := (index_more (by simp) h0 []).2
          simp only [List.length_cons, List.length_nil] at this
          omega
        rw [if_neg (by rw [hasP_more (by simp only [List.length_cons, List.length_nil]; omega)]; exact ha), if_neg (by rw [hasP_more (by simp only [List.length_cons, List.length_nil]; omega)]; exact hb), com_more (by simp) h m]
  · by_cases hd : 9 ≤ r.length ∧ Lib.equalFold (r.take 9) ([60, 33, 100, 111, 99, 116, 121, 112, 101] : List UInt8) = true
    · have hcm : ¬ Lib.hasPrefix (r ++ m) ([60, 33, 45, 45] : List UInt8) = true := by rw [hasP_more (by simp only [List.length_cons, List.length_nil]; omega)]; exact hc
      unfold declF docN at h ⊢
      rw [if_neg hc, if_pos hd] at h ⊢
      rw [if_neg hcm, if_pos ⟨by rw [List.length_append]; omega, by rw [List.take_append_of_le_length hd.1]; exact hd.2⟩, List.drop_append_of_le_length hd.1, cut_more (by simp) h m]
    · have h62 : (62 : UInt8) ∈ r := by
        unfold declF at h
        rw [if_neg hc, if_neg hd] at h
        exact List.mem_of_mem_drop (cut_mem h)
      have hcm : ¬ Lib.hasPrefix (r ++ m) ([60, 33, 45, 45] : List UInt8) = true := by
        intro hp
        by_cases hl : 4 ≤ r.length
        · rw [hasP_more (by simpa using hl)] at hp; exact hc hp
        · have hpr := List.isPrefixOf_iff_prefix.1 hp
          have : r <+: ([60, 33, 45, 45] : List UInt8) := List.prefix_of_prefix_length_le (List.prefix_append r m) hpr (by simp only [List.length_cons, List.length_nil]; omega)
          exact absurd (this.mem h62) (by decide)
      have hdm : ¬ (9 ≤ (r ++ m).length ∧ Lib.equalFold ((r ++ m).take 9) ([60, 33, 100, 111, 99, 116, 121, 112, 101] : List UInt8) = true) := by
        intro hp
        by_cases hl : 9 ≤ r.length
        · rw [List.take_append_of_le_length hl] at hp; exact hd ⟨hl, hp.2⟩
        · have hmem : (62 : UInt8) ∈ (r ++ m).take 9 := by
            rw [List.take_append]
            exact List.mem_append_left _ (by rw [List.take_of_length_le (by omega)]; exact h62)
          obtain ⟨y, hy, he⟩ := fold_mem hp.2 62 hmem
          revert y
          decide
      unfold declF at h ⊢
      rw [if_neg hc, if_neg hd] at h ⊢
      rw [if_neg hcm, if_neg hdm, List.drop_append_of_le_length h2, com_more (by simp) h m]
/-! ### markup -/
theorem mark_60 (b : UInt8) (t : List UInt8) : markF (60 :: b :: t) = if letterB b then 97 else if b = 33 ∨ b = 63 then b else if b = 47 ∧ t ≠ [] then b else 0 := by rw [mark_cons, if_neg (by simp)]
theorem mark_more {r : List UInt8} (h : markF r ≠ 0) (m : List UInt8) : markF (r ++ m) = markF r := by
  obtain ⟨b, t, rfl⟩ := mark_two h
  show markF (60 :: b :: (t ++ m)) = markF (60 :: b :: t)
  rw [mark_60] at h
  rw [mark_60, mark_60]
  by_cases h1 : letterB b = true
  · rw [if_pos h1, if_pos h1]
  · rw [if_neg h1] at h
    rw [if_neg h1, if_neg h1]
    by_cases h2 : b = 33 ∨ b = 63
    · rw [if_pos h2, if_pos h2]
    · rw [if_neg h2] at h
      rw [if_neg h2, if_neg h2]
      by_cases h3 : b = 47 ∧ t ≠ []
      · rw [if_pos h3, if_pos ⟨h3.1, fun e => h3.2 (List.append_eq_nil_iff.1 e).1⟩]
      · rw [if_neg h3] at h; exact absurd rfl h
theorem mark_more0 {c b d : UInt8} {t : List UInt8} (m : List UInt8) : markF (c :: b :: d :: t ++ m) = markF (c :: b :: d :: t) := by
  show markF (c :: b :: d :: (t ++ m)) = _
  rw [mark_cons, mark_cons]
  simp
theorem next_more {r : List UInt8} {t : Option Tk} {r2 : List UInt8} (hm : markF r ≠ 0) (h : nextF r = some (t, true, r2)) (m : List UInt8) : nextF (r ++ m) = some (t, true, r2 ++ m) := by
  have hmm := mark_more hm m
  obtain ⟨b, u, rfl⟩ := mark_two hm
  unfold nextF at h ⊢
  rw [hmm]
  split
  · rename_i h1
    rw [if_pos h1] at h
    simp only [Option.some.injEq, Prod.mk.injEq] at h
    obtain ⟨e1, e2⟩ := h
    have e3 : (declF (60 :: b :: u)).2.1 = true := by rw [e2]
    rw [decl_more (by simp) e3 m, e1, e2]
  · rename_i h1
    rw [if_neg h1] at h
    split
    · rename_i h2
      rw [if_pos h2] at h
      simp only [Option.some.injEq, Prod.mk.injEq] at h
      obtain ⟨e1, e2⟩ := h
      have e3 : (comF [62] (List.drop 1 (60 :: b :: u))).2.1 = true := by rw [e2]
      rw [List.drop_append_of_le_length (by simp), com_more (by simp) e3 m, e1, e2]
    · rename_i h2
      rw [if_neg h2] at h
      split
      · rename_i h3
        rw [if_pos h3] at h
        cases ht : tagT 1 (List.drop 1 (60 :: b :: u)) with
        | none => rw [ht] at h; cases h
        | some y =>
          rw [ht] at h
          cases h
          rw [List.drop_append_of_le_length (by simp), tagT_more ht m]
          rfl
      · rename_i h3
        rw [if_neg h3] at h
        simp only [List.cons_append, List.drop_succ_cons, List.drop_zero] at h ⊢
        cases u with
        | nil => cases h
        | cons c u =>
          dsimp only [List.cons_append] at h ⊢
          split
          · rename_i h4; rw [if_pos h4] at h; cases h; rfl
          · rename_i h4
            rw [if_neg h4] at h
            split
            · rename_i h5
              rw [if_pos h5] at h
              cases ht : tagT 2 (c :: u) with
              | none => rw [ht] at h; cases h
              | some y =>
                rw [ht] at h
                cases h
                have := tagT_more ht m
                rw [List.cons_append] at this
                rw [this]
                rfl
            · rename_i h5
              rw [if_neg h5] at h
              simp only [Option.some.injEq, Prod.mk.injEq] at h
              obtain ⟨e1, e2⟩ := h
              have e3 : (comF [62] (c :: u)).2.1 = true := by rw [e2]
              have := com_more (by simp) e3 m
              rw [List.cons_append] at this
              rw [this, e1, e2]
/-- What has no end goes to the end. -/
theorem next_open {r : List UInt8} {t : Option Tk} {r2 : List UInt8} (h : nextF r = some (t, false, r2)) : r2 = [] := by
  unfold nextF at h
  split at h
  · simp only [Option.some.injEq, Prod.mk.injEq] at h
    obtain ⟨_, e2⟩ := h
    have := decl_open (r := r) (by rw [e2])
    rw [e2] at this
    exact this
  · split at h
    · simp only [Option.some.injEq, Prod.mk.injEq] at h
      obtain ⟨_, e2⟩ := h
      have : (comF [62] (r.drop 1)).2.2 = [] := cut_open (by have := congrArg Prod.fst e2; exact this)
      rw [e2] at this
      exact this
    · split at h
      · cases ht : tagT 1 (r.drop 1) with
        | none => rw [ht] at h; cases h
        | some y => rw [ht] at h; cases h
      · split at h
        · cases h
        · rename_i c u hu
          split at h
          · cases h
          · split at h
            · cases ht : tagT 2 (c :: u) with
              | none => rw [ht] at h; cases h
              | some y => rw [ht] at h; cases h
            · simp only [Option.some.injEq, Prod.mk.injEq] at h
              obtain ⟨_, e2⟩ := h
              have : (comF [62] (c :: u)).2.2 = [] := cut_open (by have := congrArg Prod.fst e2; exact this)
              rw [e2] at this
              exact this
/-! ### texts -/
theorem text_more {r : List UInt8} (h : (textF r).2 ≠ []) (m : List UInt8) : textF (r ++ m) = ((textF r).1, (textF r).2 ++ m) := by
  induction r with
  | nil => exact absurd rfl h
  | cons b t ih =>
    unfold textF at h
    by_cases hb : markF (b :: t) = 0
    · rw [if_pos hb] at h
      dsimp only at h
      have hm : markF (textF t).2 ≠ 0 := (text_mark t).resolve_left h
      obtain ⟨c, u, hcu⟩ := mark_two hm
      have hl := text_le t
      rw [hcu, List.length_cons, List.length_cons] at hl
      have hmm : markF (b :: t ++ m) = markF (b :: t) := by
        match t, hl with
        | x :: y :: t, _ => exact mark_more0 m
      rw [List.cons_append] at hmm ⊢
      rw [textF, hmm, if_pos hb, ih h, textF, if_pos hb]
    · rw [List.cons_append, textF, if_neg (by rw [← List.cons_append, mark_more hb m]; exact hb), textF, if_neg hb]
      rfl
theorem closes_more {nm r : List UInt8} (h : 2 + nm.length < r.length) (m : List UInt8) : closesF nm (r ++ m) = closesF nm r := by
  unfold closesF
  have e1 : (r ++ m)[2 + nm.length]? = r[2 + nm.length]? := List.getElem?_append_left h
  have e2 : (r ++ m).take 2 = r.take 2 := List.take_append_of_le_length (by omega)
  have e3 : ((r ++ m).drop 2).take nm.length = (r.drop 2).take nm.length := by
    rw [List.drop_append_of_le_length (by omega), List.take_append_of_le_length (by rw [List.length_drop]; omega)]
  have e4 : decide (2 + nm.length < (r ++ m).length) = decide (2 + nm.length < r.length) := decide_eq_decide.2 ⟨fun _ => h, fun _ => by rw [List.length_append]; omega⟩
  rw [e1, e2, e3, e4]
theorem closes_len {nm r : List UInt8} (h : closesF nm r = true) : 2 + nm.length < r.length := by
  unfold closesF at h
  simp only [Bool.and_eq_true, decide_eq_true_eq] at h
  exact h.1.1.1
theorem raw_closes {nm r : List UInt8} (h : (rawF nm r).2 ≠ []) : closesF nm (rawF nm r).2 = true := by
  induction r with
  | nil => exact absurd rfl h
  | cons b t ih =>
    unfold rawF at h ⊢
    split
    · assumption
    · rename_i hc
      rw [if_neg hc] at h
      exact ih h
theorem raw_more {nm r : List UInt8} (h : (rawF nm r).2 ≠ []) (m : List UInt8) : rawF nm (r ++ m) = ((rawF nm r).1, (rawF nm r).2 ++ m) := by
  induction r with
  | nil => exact absurd rfl h
  | cons b t ih =>
    by_cases hb : closesF nm (b :: t) = true
    · have := closes_len hb
      rw [List.cons_append, rawF, ← List.cons_append, closes_more this, if_pos hb, rawF, if_pos hb]
    · have hr : rawF nm (b :: t) = (b :: (rawF nm t).1, (rawF nm t).2) := by rw [rawF, if_neg hb]
      rw [hr] at h
      have hl := closes_len (raw_closes h)
      have hl2 := raw_le nm t
      rw [List.cons_append, rawF, ← List.cons_append, closes_more (by rw [List.length_cons]; omega), if_neg hb, ih h, hr]
/-! ### places, moved -/
def mv (k : Nat) (x : Pl) : Pl := (x.1, x.2.1 + k, x.2.2 + k)
theorem putT_mv (x : List UInt8) (y : ByteArray) (a b k : Nat) : putT x y (a + k) (b + k) = (putT x y a b).map (mv k) := by
  unfold putT
  split <;> rfl
theorem putM_mv (t : Option Tk) (a b k : Nat) : putM t (a + k) (b + k) = (putM t a b).map (mv k) := by
  cases t <;> rfl
theorem after_more {t : Option Tk} {r : List UInt8} (h : (afterF t r).2 ≠ []) (m : List UInt8) : afterF t (r ++ m) = ((afterF t r).1.map (mv m.length), (afterF t r).2 ++ m) := by
  unfold afterF at h ⊢
  split
  · rename_i h0
    rw [if_pos h0] at h
    dsimp only at h
    have hr : (rawF (rawOf t) r).2 ≠ [] := fun e => by rw [e] at h; exact h rfl
    rw [raw_more hr m, text_more h m]
    dsimp only
    simp only [List.length_append, putT_mv, List.map_append]
  · rename_i h0
    rw [if_neg h0] at h
    rw [text_more h m]
    dsimp only
    simp only [List.length_append, putT_mv]
theorem end_le {r : List UInt8} {e : Nat} (hm : r = [] ∨ markF r ≠ 0) (h : (readM r).2 = some e) : e ≤ r.length := by
  induction hn : r.length using Nat.strongRecOn generalizing r with
  | ind n ih =>
    subst hn
    rcases hm with rfl | hm
    · rw [readM_nil] at h; cases h
    rw [readM_step hm] at h
    cases hx : nextF r with
    | none => rw [hx] at h; cases h
    | some x =>
      obtain ⟨t, c, r2⟩ := x
      rw [hx] at h
      dsimp only at h
      have l1 := next_le hm hx
      have l2 := after_le t r2
      dsimp only at l1
      cases hi : (readM (afterF t r2).2).2 with
      | some e2 =>
        rw [hi] at h
        cases h
        have := ih _ (by omega) (after_mark t r2) hi rfl
        omega
      | none =>
        rw [hi, Option.none_or] at h
        split at h
        · cases h; omega
        · cases h
/-- The tokens ahead of the last markup that has an end of its own stay. -/
theorem readM_safe {r : List UInt8} {e : Nat} (hm : r = [] ∨ markF r ≠ 0) (h : (readM r).2 = some e) (m : List UInt8) :
    ∃ P Q Q' e', (readM r).1 = P ++ Q ∧ (∀ x ∈ P, e ≤ x.2.2) ∧ (∀ x ∈ Q, x.2.2 < e) ∧ (readM (r ++ m)).1 = P.map (mv m.length) ++ Q' ∧ (readM (r ++ m)).2 = some e' ∧ e' ≤ e + m.length := by
  induction hn : r.length using Nat.strongRecOn generalizing r with
  | ind n ih =>
    subst hn
    rcases hm with rfl | hm
    · rw [readM_nil] at h; cases h
    have hmm : markF (r ++ m) ≠ 0 := by rw [mark_more hm m]; exact hm
    rw [readM_step hm] at h ⊢
    rw [readM_step hmm]
    cases hx : nextF r with
    | none => rw [hx] at h; cases h
    | some x =>
      obtain ⟨t, c, r2⟩ := x
      rw [hx] at h
      dsimp only at h ⊢
      have l1 := next_le hm hx
      have l2 := after_le t r2
      dsimp only at l1
      cases c with
      | false =>
        exfalso
        have e0 := next_open hx
        subst e0
        have ea : (afterF t []).2 = [] := List.eq_nil_of_length_eq_zero (by rw [List.length_nil] at l2; omega)
        rw [ea, readM_nil] at h
        simp at h
      | true =>
        rw [next_more hm hx m]
        dsimp only
        cases hi : (readM (afterF t r2).2).2 with
        | some e2 =>
          rw [hi] at h
          cases h
          have hne : (afterF t r2).2 ≠ [] := fun e0 => by rw [e0, readM_nil] at hi; cases hi
          obtain ⟨P, Q, Q', e', p1, p2, p3, p4, p5, p6⟩ := ih _ (by omega) (after_mark t r2) hi rfl
          rw [after_more hne m]
          dsimp only
          have he := end_le (after_mark t r2) hi
          obtain ⟨a1, a2, a3⟩ := after_ok (s := r2) (r := r2) t (Nat.le_refl _)
          refine ⟨putM t r.length r2.length ++ (afterF t r2).1 ++ P, Q, Q', e', by rw [p1, List.append_assoc _ P Q], fun x hx => ?_, p3, ?_, by rw [p5]; rfl, p6⟩
          · rcases List.mem_append.1 hx with hx | hx
            · rcases List.mem_append.1 hx with hx | hx
              · cases t with
                | none => cases hx
                | some t => rw [List.mem_singleton.1 hx]; dsimp only; omega
              · have := a2 x hx; omega
            · exact p2 x hx
          · rw [p4, List.length_append, List.length_append, putM_mv, List.map_append, List.map_append, List.append_assoc _ _ Q']
        | none =>
          rw [hi, Option.none_or] at h
          have ht : t.isSome = true := by
            cases hts : t.isSome with
            | true => rfl
            | false => rw [hts] at h; simp at h
          rw [if_pos ⟨rfl, ht⟩] at h
          cases h
          obtain ⟨a1, a2, a3⟩ := after_ok (s := r2) (r := r2) t (Nat.le_refl _)
          obtain ⟨b1, b2⟩ := readM_ok (s := (afterF t r2).2) (List.suffix_refl _) (after_mark t r2)
          have hch : ChainP r2.length ((afterF t r2).1 ++ (readM (afterF t r2).2).1) := a1.append a2 l2 b1
          refine ⟨putM t r.length r2.length, (afterF t r2).1 ++ (readM (afterF t r2).2).1, (afterF t (r2 ++ m)).1 ++ (readM (afterF t (r2 ++ m)).2).1, ((readM (afterF t (r2 ++ m)).2).2.or (some (r2 ++ m).length)).getD 0, by rw [List.append_assoc], fun x hx => ?_, fun x hx => ?_, ?_, ?_, ?_⟩
          · cases t with
            | none => cases hx
            | some t => rw [List.mem_singleton.1 hx]; exact Nat.le_refl _
          · have key : ∀ (l : List Pl) (hi : Nat), ChainP hi l → ∀ x ∈ l, x.2.2 < hi := by
              intro l
              induction l with
              | nil => intro _ _ _ h; cases h
              | cons y l ih =>
                intro hi hc x hx
                rcases List.mem_cons.1 hx with rfl | hx
                · exact Nat.lt_of_lt_of_le hc.2.1 hc.1
                · have := ih _ hc.2.2 x hx
                  have := hc.1
                  have := hc.2.1
                  omega
            exact key _ _ hch x hx
          · rw [List.length_append, List.length_append, putM_mv, List.append_assoc]
          · rw [if_pos ⟨rfl, ht⟩]
            cases (readM (afterF t (r2 ++ m)).2).2 <;> rfl
          · cases he : (readM (afterF t (r2 ++ m)).2).2 with
            | none => simp
            | some e' =>
              have h1 := end_le (after_mark t (r2 ++ m)) he
              have h2 := after_le t (r2 ++ m)
              rw [List.length_append] at h2
              simp
              omega
/-- WHAT IS SAFE STAYS. -/
theorem safe_law {s : List UInt8} {e : Nat} (h : (readF s).2 = some e) (m : List UInt8) :
    e ≤ s.length ∧ ∃ P Q Q' e', (readF s).1 = P ++ Q ∧ (∀ x ∈ P, e ≤ x.2.2) ∧ (∀ x ∈ Q, x.2.2 < e) ∧ (readF (s ++ m)).1 = P.map (mv m.length) ++ Q' ∧ (readF (s ++ m)).2 = some e' ∧ e' ≤ e + m.length := by
  unfold readF at h ⊢
  dsimp only at h ⊢
  have hne : (textF s).2 ≠ [] := fun e0 => by rw [e0, readM_nil] at h; cases h
  have he := end_le (text_mark s) h
  have hl := text_le s
  rw [text_more hne m]
  dsimp only
  obtain ⟨P, Q, Q', e', p1, p2, p3, p4, p5, p6⟩ := readM_safe (text_mark s) h m
  refine ⟨by omega, putT (textF s).1 (bs (entT (textF s).1)) s.length (textF s).2.length ++ P, Q, Q', e', by rw [p1, List.append_assoc], fun x hx => ?_, p3, ?_, p5, p6⟩
  · rcases List.mem_append.1 hx with hx | hx
    · obtain ⟨b1, b2, b3⟩ := putT_ok (s := s) (x := (textF s).1) (y := bs (entT (textF s).1)) (a := s.length) (b := (textF s).2.length) (Nat.le_refl _) text_lt (fun h => bs_some (entT_some h))
      have := b2 x hx
      omega
    · exact p2 x hx
  · rw [p4, List.length_append, List.length_append, putT_mv, List.map_append, List.append_assoc]
end Go.Proofs.YtbddnohbkafagaaGreatDoor
