/-
What is shown is read: the plain law.
-/
import Derived.Test.YtbddnohbkafagaaGreatDoorTokSafeLaw
namespace Go.Proofs.YtbddnohbkafagaaGreatDoor
open Go.RowKit Go.Cl

/-! ### what may be shown -/
abbrev nmL (t : Tk) : List UInt8 := t.name.data.toList
abbrev txL (t : Tk) : List UInt8 := t.text.data.toList
def attrsOk : List (List UInt8) → List DAttr → Bool
  | _, [] => true
  | seen, a :: l => !(seen.any fun z => z == a.1.data.toList) && !(a.1.data.toList.isEmpty) && (attrL a.1.data.toList == a.1.data.toList) && attrsOk (seen ++ [a.1.data.toList]) l
def tagOk (t : Tk) : Bool := (match nmL t with | [] => false | b :: _ => letterB b) && (nameL (nmL t) == nmL t) && attrsOk [] t.attrs
def bareF (t : Tk) (n a x : Bool) : Bool := (n || (nmL t).isEmpty) && (a || (t.attrs.isEmpty && !t.self)) && (x || (txL t).isEmpty)
def comOk (x : List UInt8) : Bool := !Lib.hasPrefix x [62] && !Lib.hasPrefix x [45, 62] && !Lib.contains x [45, 45, 62]
/-- Is a token right by itself: 0, or which fault. -/
def rightB (t : Tk) : Bool :=
  if t.kind = 1 then bareF t true true false && tagOk t
  else if t.kind = 2 then bareF t true false false && tagOk t
  else if t.kind = 3 then bareF t false false true && !(txL t).isEmpty
  else if t.kind = 4 then bareF t false false true && comOk (txL t)
  else if t.kind = 5 then bareF t true false false && (nameL (nmL t) == nmL t)
  else false
/-- The shower: the raw name that is open, how far, and whether a text was last. -/
structure Sh where
  raw : List UInt8
  step : Int
  text : Bool
def plainB (s : Sh) : Bool := decide (s.step = 1) && decide (rawN s.raw = 1)
def noCloseB (s : Sh) (x : List UInt8) : Bool := (List.range x.length).all fun i => !(decide (rawN s.raw = 1) && closesF s.raw ((x ++ [60, 47] ++ s.raw ++ [62]).drop i))
def fitsB (s : Sh) (t : Tk) : Bool :=
  if t.kind = 3 ∧ s.text = true then false
  else if s.step = 1 ∧ t.kind = 3 then noCloseB s (txL t)
  else if 0 < s.step then t.kind == 2 && (nmL t == s.raw)
  else true
def attrS (a : DAttr) : List UInt8 := [32] ++ a.1.data.toList ++ [61, 34] ++ escL true a.2.data.toList ++ [34]
def startS (t : Tk) : List UInt8 := [60] ++ nmL t ++ t.attrs.flatMap attrS ++ (if t.self then [47] else []) ++ [62]
def showS (s : Sh) (t : Tk) : List UInt8 :=
  if t.kind = 1 then startS t
  else if t.kind = 2 then [60, 47] ++ nmL t ++ [62]
  else if t.kind = 4 then ([60, 33, 45, 45] : List UInt8) ++ txL t ++ ([45, 45, 62] : List UInt8)
  else if t.kind = 5 then ([60, 33, 68, 79, 67, 84, 89, 80, 69, 32] : List UInt8) ++ nmL t ++ [62]
  else if plainB s then txL t else escL false (txL t)
def stepS (s : Sh) (t : Tk) : Sh :=
  if t.kind = 1 ∧ 0 < rawN (nmL t) then ⟨nmL t, 1, false⟩
  else if t.kind = 2 then ⟨s.raw, 0, false⟩
  else ⟨s.raw, if 0 < s.step then s.step + 1 else s.step, t.kind == 3⟩
/-- What Show writes of tokens that are right and fit. -/
def showAll : Sh → List Tk → Option (List UInt8)
  | _, [] => some []
  | s, t :: l => if rightB t && fitsB s t then (showAll (stepS s t) l).map fun x => showS s t ++ x else none
/-! ### signs of a name -/
theorem name_sign : ∀ b : UInt8, tagB (nameB b) = true ∧ anB (nameB b) = true ∧ blankB (nameB b) = false ∧ nameB b ≠ 62 ∧ skipB (nameB b) = false := by
  have key : ∀ n : Fin 256, (tagB (nameB (UInt8.ofNat n.val)) && anB (nameB (UInt8.ofNat n.val)) && !blankB (nameB (UInt8.ofNat n.val)) && (nameB (UInt8.ofNat n.val) != 62) && !skipB (nameB (UInt8.ofNat n.val))) = true := by decide +kernel
  intro b
  have := key ⟨b.toNat, b.toNat_lt⟩
  rw [show UInt8.ofNat b.toNat = b from by simp] at this
  simpa [and_assoc] using this
theorem named_mem {l : List UInt8} (h : nameL l = l) : ∀ b ∈ l, ∃ c, b = nameB c := by
  intro b hb
  rw [← h] at hb
  obtain ⟨c, _, rfl⟩ := List.mem_map.1 hb
  exact ⟨c, rfl⟩
theorem attr_mem {l : List UInt8} (h : attrL l = l) : ∀ b ∈ l, tagB b = true ∧ anB b = true ∧ blankB b = false ∧ b ≠ 62 ∧ skipB b = false := by
  have h95 : tagB 95 = true ∧ anB 95 = true ∧ blankB 95 = false ∧ (95 : UInt8) ≠ 62 ∧ skipB 95 = false := by decide
  intro b hb
  rw [← h] at hb
  unfold attrL at hb
  cases hn : nameL l with
  | nil => rw [hn] at hb; cases hb
  | cons c t =>
    rw [hn] at hb
    have hm : ∀ x ∈ c :: t, tagB x = true ∧ anB x = true ∧ blankB x = false ∧ x ≠ 62 ∧ skipB x = false := by
      intro x hx
      rw [← hn] at hx
      obtain ⟨d, _, rfl⟩ := List.mem_map.1 hx
      exact name_sign d
    dsimp only at hb
    split at hb
    · exact hm b hb
    · rcases List.mem_cons.1 hb with rfl | hb
      · exact h95
      · exact hm b (List.mem_cons_of_mem _ hb)
theorem span_app {p : UInt8 → Bool} {a : List UInt8} {c : UInt8} {t : List UInt8} (ha : ∀ b ∈ a, p b = true) (hc : p c = false) : (a ++ c :: t).takeWhile p = a ∧ (a ++ c :: t).dropWhile p = c :: t := by
  induction a with
  | nil => rw [List.nil_append, List.takeWhile_cons_of_neg (by simp [hc]), List.dropWhile_cons_of_neg (by simp [hc])]; exact ⟨rfl, rfl⟩
  | cons b a ih =>
    have hb := ha b (List.mem_cons_self ..)
    obtain ⟨h1, h2⟩ := ih fun x hx => ha x (List.mem_cons_of_mem _ hx)
    rw [List.cons_append, List.takeWhile_cons_of_pos hb, List.dropWhile_cons_of_pos hb, h1, h2]
    exact ⟨rfl, rfl⟩
theorem tw_all {p : UInt8 → Bool} {l : List UInt8} (h : ∀ b ∈ l, p b = true) : l.takeWhile p = l := by
  induction l with
  | nil => rfl
  | cons b l ih => rw [List.takeWhile_cons_of_pos (h b (List.mem_cons_self ..)), ih fun x hx => h x (List.mem_cons_of_mem _ hx)]
/-! ### a mark that is not in it -/
theorem cut_one {x t : List UInt8} {c : UInt8} (h : ∀ b ∈ x, b ≠ c) : Lib.cut (x ++ c :: t) [c] = (x, t, true) := by
  have hi : Lib.index (x ++ c :: t) [c] = x.length := by
    refine Lib.index_first (by simp) ?_ ?_
    · unfold Lib.occAt
      rw [List.drop_left]
      simp
    · intro j hj
      unfold Lib.occAt
      rw [List.drop_append_of_le_length (by omega), List.drop_eq_getElem_cons hj, List.cons_append]
      have := h x[j] (List.getElem_mem hj)
      simp only [List.isPrefixOf, Bool.and_true]
      simpa using fun e => this e.symm
  unfold Lib.cut
  rw [hi, if_pos (by omega)]
  simp [List.drop_append]
theorem has_none {s sub : List UInt8} (h : Lib.contains s sub = false) : ∀ j, j ≤ s.length → Lib.occAt s sub j = false := by
  unfold Lib.contains at h
  have h0 : ¬ 0 ≤ Lib.index s sub := by simpa using h
  rcases Lib.index_spec s sub with ⟨_, h2⟩ | ⟨i, h1, _⟩
  · exact h2
  · omega
theorem cut_com {x t : List UInt8} (h : Lib.contains x [45, 45, 62] = false) : Lib.cut (x ++ 45 :: 45 :: 62 :: t) [45, 45, 62] = (x, t, true) := by
  have hi : Lib.index (x ++ 45 :: 45 :: 62 :: t) [45, 45, 62] = x.length := by
    refine Lib.index_first (by simp) ?_ ?_
    · unfold Lib.occAt
      rw [List.drop_left]
      simp
    · intro j hj
      have hn := has_none h j (by omega)
      unfold Lib.occAt at hn ⊢
      rw [List.drop_append_of_le_length (by omega)]
      have hl : (x.drop j).length = x.length - j := List.length_drop
      match hd : x.drop j with
      | [] => rw [hd, List.length_nil] at hl; omega
      | [a] => simp [List.isPrefixOf]
      | [a, b] => simp [List.isPrefixOf]
      | a :: b :: c :: u =>
        rw [hd] at hn
        simpa [List.isPrefixOf] using hn
  unfold Lib.cut
  rw [hi, if_pos (by omega)]
  simp [List.drop_append]
/-! ### a start tag -/
theorem value_shown (v t : List UInt8) : valueF (34 :: (escL true v ++ 34 :: t)) = (escL true v, t) := by
  have h : (34 :: (escL true v ++ 34 :: t)).dropWhile blankB = 34 :: (escL true v ++ 34 :: t) := List.dropWhile_cons_of_neg (by decide)
  unfold valueF
  rw [h]
  dsimp only
  rw [if_pos (.inl rfl), cut_one (esc_value v)]
theorem attr_shown {a : DAttr} (hne : a.1.data.toList ≠ []) (hn : attrL a.1.data.toList = a.1.data.toList) (t : List UInt8) :
    ∃ b u, attrS a ++ t = 32 :: b :: u ∧ skipB b = false ∧ b ≠ 62 ∧ attrF b u = (a, t) := by
  cases hl : a.1.data.toList with
  | nil => exact absurd hl hne
  | cons b u =>
    have hm := attr_mem hn
    rw [hl] at hm
    have hb := hm b (List.mem_cons_self ..)
    refine ⟨b, u ++ 61 :: 34 :: (escL true a.2.data.toList ++ 34 :: t), ?_, hb.2.2.2.2, hb.2.2.2.1, ?_⟩
    · unfold attrS
      rw [hl]
      simp [List.append_assoc]
    · obtain ⟨e1, e2⟩ := span_app (p := anB) (a := u) (c := 61) (t := 34 :: (escL true a.2.data.toList ++ 34 :: t)) (fun x hx => (hm x (List.mem_cons_of_mem _ hx)).2.1) (by decide)
      have e3 : attrEnd (u ++ 61 :: 34 :: (escL true a.2.data.toList ++ 34 :: t)) = 61 :: 34 :: (escL true a.2.data.toList ++ 34 :: t) := by
        unfold attrEnd
        rw [e2]
        exact List.dropWhile_cons_of_neg (by decide)
      unfold attrF
      rw [e1, e3, List.head?_cons, if_pos rfl, List.tail_cons, value_shown, ← hl, hn]
      show ((bs a.1.data.toList, bs (entV (escL true a.2.data.toList))), t) = (a, t)
      have e4 : entV (escL true a.2.data.toList) = a.2.data.toList := read_esc true _
      rw [e4]
      rfl
theorem addA_new {acc : List DAttr} {a : DAttr} (h : acc.any (fun z => z.1.data.toList == a.1.data.toList) = false) : addA acc a = acc ++ [a] := by
  unfold addA
  rw [if_neg]
  rw [Bool.not_eq_true]
  rw [← h]
  apply congrArg (fun p => acc.any p)
  funext z
  rw [ByteArray.toList_eq, ByteArray.toList_eq]
theorem attrs_shown {l acc : List DAttr} (h : attrsOk (acc.map fun z => z.1.data.toList) l = true) (self : Bool) (t : List UInt8) :
    tagF acc (l.flatMap attrS ++ ((if self then [47] else []) ++ 62 :: t)) = some (acc ++ l, self, t) := by
  induction l generalizing acc with
  | nil =>
    rw [List.flatMap_nil, List.nil_append, List.append_nil, tagF_step]
    cases self with
    | true =>
      obtain ⟨e1, e2⟩ := span_app (p := skipB) (a := [47]) (c := 62) (t := t) (by decide) (by decide)
      rw [if_pos rfl, e1, e2]
      rfl
    | false =>
      obtain ⟨e1, e2⟩ := span_app (p := skipB) (a := []) (c := 62) (t := t) (by simp) (by decide)
      rw [if_neg (by simp), e1, e2]
      rfl
  | cons a l ih =>
    unfold attrsOk at h
    simp only [Bool.and_eq_true, Bool.not_eq_true', beq_iff_eq] at h
    obtain ⟨⟨⟨h1, h2⟩, h3⟩, h4⟩ := h
    have hne : a.1.data.toList ≠ [] := fun e => by rw [e] at h2; cases h2
    rw [List.flatMap_cons, List.append_assoc]
    obtain ⟨b, u, e1, hb1, hb2, e2⟩ := attr_shown hne h3 (l.flatMap attrS ++ ((if self then [47] else []) ++ 62 :: t))
    have e3 := (span_app (p := skipB) (a := [32]) (c := b) (t := u) (by decide) hb1).2
    rw [List.singleton_append] at e3
    rw [e1, tagF_step, e3]
    dsimp only
    rw [if_neg hb2, e2]
    have hany : acc.any (fun z => z.1.data.toList == a.1.data.toList) = false := by rw [List.any_map] at h1; exact h1
    dsimp only
    rw [addA_new hany, ih (by rw [List.map_append]; exact h4), List.append_assoc]
    rfl
theorem tag_head {t : Tk} (h : tagOk t = true) : ∃ b u, nmL t = b :: u ∧ letterB b = true ∧ nameL (nmL t) = nmL t ∧ attrsOk [] t.attrs = true := by
  unfold tagOk at h
  simp only [Bool.and_eq_true, beq_iff_eq] at h
  obtain ⟨⟨h1, h2⟩, h3⟩ := h
  cases hn : nmL t with
  | nil => rw [hn] at h1; cases h1
  | cons b u => rw [hn] at h1; exact ⟨b, u, rfl, h1, by rw [← hn]; exact h2, h3⟩
theorem tk_ext {a b : Tk} (h1 : a.kind = b.kind) (h2 : a.name = b.name) (h3 : a.attrs = b.attrs) (h4 : a.text = b.text) (h5 : a.self = b.self) : a = b := by
  cases a; cases b; simp_all
theorem no_text {x : ByteArray} (h : x.data.toList = []) : (⟨#[]⟩ : ByteArray) = x := (ba_ext h).symm
theorem mark_letter {b : UInt8} {t : List UInt8} (h : letterB b = true) : markF (60 :: b :: t) = 97 := by
  rw [mark_cons]
  rw [if_neg (by simp), if_pos h]
theorem start_shown {t : Tk} (hk : t.kind = 1) (hr : rightB t = true) (s : List UInt8) : markF (startS t ++ s) ≠ 0 ∧ nextF (startS t ++ s) = some (some t, true, s) := by
  unfold rightB at hr
  rw [if_pos hk, Bool.and_eq_true] at hr
  obtain ⟨h1, h2⟩ := hr
  obtain ⟨b, u, hn, hb, hnn, hat⟩ := tag_head h2
  have hx : txL t = [] := by
    unfold bareF at h1
    simpa using h1
  have hS : startS t ++ s = 60 :: b :: (u ++ (t.attrs.flatMap attrS ++ ((if t.self then [47] else []) ++ 62 :: s))) := by
    unfold startS
    rw [hn]
    simp [List.append_assoc]
  have hm : markF (startS t ++ s) = 97 := by rw [hS]; exact mark_letter hb
  refine ⟨by rw [hm]; decide, ?_⟩
  unfold nextF
  rw [hm, if_neg (by decide), if_neg (by decide), if_pos rfl, hS, List.drop_succ_cons, List.drop_zero]
  have hnm := named_mem hnn
  have hsp : ((b :: u) ++ (t.attrs.flatMap attrS ++ ((if t.self then [47] else []) ++ 62 :: s))).takeWhile tagB = b :: u ∧ ((b :: u) ++ (t.attrs.flatMap attrS ++ ((if t.self then [47] else []) ++ 62 :: s))).dropWhile tagB = t.attrs.flatMap attrS ++ ((if t.self then [47] else []) ++ 62 :: s) := by
    have hall : ∀ x ∈ b :: u, tagB x = true := fun x hx => by
      obtain ⟨c, rfl⟩ := hnm x (by rw [hn]; exact hx)
      exact (name_sign c).1
    have hc : ∃ c v, t.attrs.flatMap attrS ++ ((if t.self then [47] else []) ++ 62 :: s) = c :: v ∧ tagB c = false := by
      cases t.attrs with
      | nil =>
        rw [List.flatMap_nil, List.nil_append]
        cases t.self with
        | true => exact ⟨47, 62 :: s, rfl, by decide⟩
        | false => exact ⟨62, s, rfl, by decide⟩
      | cons a l => exact ⟨32, _, rfl, by decide⟩
    obtain ⟨c, v, e, hc⟩ := hc
    rw [e]
    exact span_app hall hc
  have hT : tagT 1 (b :: (u ++ (t.attrs.flatMap attrS ++ ((if t.self then [47] else []) ++ 62 :: s)))) = some (t, s) := by
    rw [← List.cons_append]
    unfold tagT
    rw [hsp.1, hsp.2, attrs_shown (acc := []) hat, ← hn, hnn]
    simp only [Option.map_some, List.nil_append, Option.some.injEq, Prod.mk.injEq, and_true]
    rw [if_pos trivial]
    exact tk_ext hk.symm rfl rfl (no_text hx) rfl
  rw [hT]
  rfl
/-! ### an end tag, a comment, a doctype -/
theorem end_shown {t : Tk} (hk : t.kind = 2) (hr : rightB t = true) (s : List UInt8) : markF ([60, 47] ++ nmL t ++ [62] ++ s) ≠ 0 ∧ nextF ([60, 47] ++ nmL t ++ [62] ++ s) = some (some t, true, s) := by
  unfold rightB at hr
  rw [if_neg (by rw [hk]; decide), if_pos hk, Bool.and_eq_true] at hr
  obtain ⟨h1, h2⟩ := hr
  obtain ⟨b, u, hn, hb, hnn, hat⟩ := tag_head h2
  have hx : (t.attrs = [] ∧ t.self = false) ∧ txL t = [] := by
    unfold bareF at h1
    simpa using h1
  have hS : [60, 47] ++ nmL t ++ [62] ++ s = 60 :: 47 :: b :: (u ++ 62 :: s) := by
    rw [hn]
    simp [List.append_assoc]
  have hm : markF ([60, 47] ++ nmL t ++ [62] ++ s) = 47 := by
    rw [hS]
    rw [mark_cons]
    rw [if_neg (by simp), if_neg (by decide), if_neg (by decide), if_pos ⟨rfl, by simp⟩]
  refine ⟨by rw [hm]; decide, ?_⟩
  unfold nextF
  rw [hm, if_neg (by decide), if_neg (by decide), if_neg (by decide), hS, List.drop_succ_cons, List.drop_succ_cons, List.drop_zero]
  dsimp only
  have hnm := named_mem hnn
  have hb62 : b ≠ 62 := by
    obtain ⟨c, rfl⟩ := hnm b (by rw [hn]; exact List.mem_cons_self ..)
    exact (name_sign c).2.2.2.1
  rw [if_neg hb62, if_pos hb]
  have hall : ∀ x ∈ b :: u, tagB x = true := fun x hx => by
    obtain ⟨c, rfl⟩ := hnm x (by rw [hn]; exact hx)
    exact (name_sign c).1
  obtain ⟨e1, e2⟩ := span_app (c := 62) (t := s) hall (by decide)
  have hT : tagT 2 (b :: (u ++ 62 :: s)) = some (t, s) := by
    rw [← List.cons_append]
    unfold tagT
    have e3 := attrs_shown (l := []) (acc := []) rfl false s
    simp only [List.flatMap_nil, List.nil_append, Bool.false_eq_true, if_false] at e3
    rw [e1, e2, e3, ← hn, hnn]
    simp only [Option.map_some, Option.some.injEq, Prod.mk.injEq, and_true]
    rw [if_neg (by decide)]
    exact tk_ext hk.symm rfl hx.1.1.symm (no_text hx.2) hx.1.2.symm
  rw [hT]
  rfl
theorem com_shown {t : Tk} (hk : t.kind = 4) (hr : rightB t = true) (s : List UInt8) : markF (([60, 33, 45, 45] : List UInt8) ++ txL t ++ ([45, 45, 62] : List UInt8) ++ s) ≠ 0 ∧ nextF (([60, 33, 45, 45] : List UInt8) ++ txL t ++ ([45, 45, 62] : List UInt8) ++ s) = some (some t, true, s) := by
  unfold rightB at hr
  rw [if_neg (by rw [hk]; decide), if_neg (by rw [hk]; decide), if_neg (by rw [hk]; decide), if_pos hk, Bool.and_eq_true] at hr
  obtain ⟨h1, h2⟩ := hr
  have hx : nmL t = [] ∧ t.attrs = [] ∧ t.self = false := by
    unfold bareF at h1
    simpa using h1
  unfold comOk at h2
  simp only [Bool.and_eq_true, Bool.not_eq_true'] at h2
  obtain ⟨⟨p1, p2⟩, p3⟩ := h2
  have hS : ([60, 33, 45, 45] : List UInt8) ++ txL t ++ ([45, 45, 62] : List UInt8) ++ s = 60 :: 33 :: 45 :: 45 :: (txL t ++ 45 :: 45 :: 62 :: s) := by simp [List.append_assoc]
  have hm : markF (([60, 33, 45, 45] : List UInt8) ++ txL t ++ ([45, 45, 62] : List UInt8) ++ s) = 33 := by
    rw [hS]
    rw [mark_cons]
    rw [if_neg (by simp), if_neg (by decide), if_pos (.inl rfl)]
  refine ⟨by rw [hm]; decide, ?_⟩
  have q1 : Lib.hasPrefix (txL t ++ 45 :: 45 :: 62 :: s) [62] = false := by
    unfold Lib.hasPrefix at p1 ⊢
    cases htx : txL t with
    | nil => simp [List.isPrefixOf]
    | cons a u => rw [htx] at p1; simpa [List.isPrefixOf] using p1
  have q2 : Lib.hasPrefix (txL t ++ 45 :: 45 :: 62 :: s) [45, 62] = false := by
    unfold Lib.hasPrefix at p2 ⊢
    match htx : txL t with
    | [] => simp [List.isPrefixOf]
    | [a] => simp [List.isPrefixOf]
    | a :: b :: u => rw [htx] at p2; simpa [List.isPrefixOf] using p2
  have hD : declF (60 :: 33 :: 45 :: 45 :: (txL t ++ 45 :: 45 :: 62 :: s)) = (t, true, s) := by
    unfold declF
    rw [if_pos (by unfold Lib.hasPrefix; simp [List.isPrefixOf])]
    simp only [List.drop_succ_cons, List.drop_zero]
    rw [if_neg (by rw [q1]; decide), if_neg (by rw [q2]; decide)]
    unfold comF
    rw [cut_com p3]
    simp only [Prod.mk.injEq, and_true]
    exact tk_ext hk.symm (no_text hx.1) hx.2.1.symm rfl hx.2.2.symm
  unfold nextF
  rw [hm, if_pos rfl, hS, hD]
theorem doc_shown {t : Tk} (hk : t.kind = 5) (hr : rightB t = true) (s : List UInt8) : markF (([60, 33, 68, 79, 67, 84, 89, 80, 69, 32] : List UInt8) ++ nmL t ++ [62] ++ s) ≠ 0 ∧ nextF (([60, 33, 68, 79, 67, 84, 89, 80, 69, 32] : List UInt8) ++ nmL t ++ [62] ++ s) = some (some t, true, s) := by
  unfold rightB at hr
  rw [if_neg (by rw [hk]; decide), if_neg (by rw [hk]; decide), if_neg (by rw [hk]; decide), if_neg (by rw [hk]; decide), if_pos hk, Bool.and_eq_true] at hr
  obtain ⟨h1, h2⟩ := hr
  have hnn : nameL (nmL t) = nmL t := by simpa using h2
  have hx : (t.attrs = [] ∧ t.self = false) ∧ txL t = [] := by
    unfold bareF at h1
    simpa using h1
  have hS : ([60, 33, 68, 79, 67, 84, 89, 80, 69, 32] : List UInt8) ++ nmL t ++ [62] ++ s = 60 :: 33 :: 68 :: 79 :: 67 :: 84 :: 89 :: 80 :: 69 :: 32 :: (nmL t ++ 62 :: s) := by simp [List.append_assoc]
  have hm : markF (([60, 33, 68, 79, 67, 84, 89, 80, 69, 32] : List UInt8) ++ nmL t ++ [62] ++ s) = 33 := by
    rw [hS]
    rw [mark_cons]
    rw [if_neg (by simp), if_neg (by decide), if_pos (.inl rfl)]
  refine ⟨by rw [hm]; decide, ?_⟩
  have hnm := named_mem hnn
  have hc : Lib.cut (32 :: (nmL t ++ 62 :: s)) [62] = (32 :: nmL t, s, true) := by
    have := cut_one (x := 32 :: nmL t) (t := s) (c := 62) (fun b hb => by
      rcases List.mem_cons.1 hb with rfl | hb
      · decide
      · obtain ⟨c, rfl⟩ := hnm b hb
        exact (name_sign c).2.2.2.1)
    rw [List.cons_append] at this
    exact this
  have hN : docN (32 :: (nmL t ++ 62 :: s)) = nmL t := by
    have hd : (32 :: nmL t).dropWhile blankB = nmL t := by
      rw [List.dropWhile_cons_of_pos (by decide)]
      cases hl : nmL t with
      | nil => rfl
      | cons b u =>
        obtain ⟨c, rfl⟩ := hnm b (by rw [hl]; exact List.mem_cons_self ..)
        rw [List.dropWhile_cons_of_neg (by rw [(name_sign c).2.2.1]; simp)]
    unfold docN
    rw [hc, hd]
    refine tw_all ?_
    intro b hb
    obtain ⟨c, rfl⟩ := hnm b hb
    rw [(name_sign c).2.2.1]
    rfl
  have hD : declF (60 :: 33 :: 68 :: 79 :: 67 :: 84 :: 89 :: 80 :: 69 :: 32 :: (nmL t ++ 62 :: s)) = (t, true, s) := by
    unfold declF
    rw [if_neg (by unfold Lib.hasPrefix; simp [List.isPrefixOf]), if_pos ⟨by simp only [List.length_cons]; omega, by simp only [List.take_succ_cons, List.take_zero]; decide⟩]
    simp only [List.drop_succ_cons, List.drop_zero]
    rw [hN, hc]
    simp only [Prod.mk.injEq, and_true]
    unfold tkD
    rw [hnn]
    exact tk_ext hk.symm rfl hx.1.1.symm (no_text hx.2) hx.1.2.symm
  unfold nextF
  rw [hm, if_pos rfl, hS, hD]
/-! ### texts -/
theorem text_shown {x s : List UInt8} (hx : ∀ b ∈ x, b ≠ 60) (hs : s = [] ∨ markF s ≠ 0) : textF (x ++ s) = (x, s) := by
  have h0 : ∀ b t, b ≠ (60 : UInt8) → markF (b :: t) = 0 := fun b t h => by
    cases t with
    | nil => rfl
    | cons c u => rw [mark_cons]; rw [if_pos h]
  induction x with
  | nil =>
    rw [List.nil_append]
    rcases hs with rfl | hs
    · rfl
    · cases s with
      | nil => exact absurd rfl hs
      | cons b t => rw [textF, if_neg hs]
  | cons b x ih =>
    rw [List.cons_append, textF, if_pos (h0 b _ (hx b (List.mem_cons_self ..))), ih fun c hc => hx c (List.mem_cons_of_mem _ hc)]
theorem raw_shown {nm x s : List UInt8} (hx : ∀ i, i < x.length → closesF nm (x.drop i ++ s) = false) (hs : s = [] ∨ closesF nm s = true) : rawF nm (x ++ s) = (x, s) := by
  induction x with
  | nil =>
    rw [List.nil_append]
    rcases hs with rfl | hs
    · rfl
    · cases s with
      | nil => rfl
      | cons b t => rw [rawF, if_pos hs]
  | cons b x ih =>
    have h0 := hx 0 (by simp)
    rw [List.drop_zero, List.cons_append] at h0
    rw [List.cons_append, rawF, if_neg (by rw [h0]; decide), ih fun i hi => by
      have := hx (i + 1) (by simpa using hi)
      rw [List.drop_succ_cons] at this
      exact this]
theorem closes_head {nm : List UInt8} {b : UInt8} {t : List UInt8} (h : b ≠ 60) : closesF nm (b :: t) = false := by
  unfold closesF
  have : ((b :: t).take 2 == [60, 47]) = false := by
    cases t with
    | nil => simp
    | cons c u => simpa using fun e => absurd e h
  rw [this]
  simp
theorem fold_self (l : List UInt8) : Lib.equalFold l l = true := by
  induction l with
  | nil => rfl
  | cons b l ih => simp [Lib.equalFold, Lib.foldEq, ih]
theorem closes_end (nm s : List UInt8) : closesF nm ([60, 47] ++ nm ++ [62] ++ s) = true := by
  have e : [60, 47] ++ nm ++ [62] ++ s = 60 :: 47 :: (nm ++ 62 :: s) := by simp [List.append_assoc]
  unfold closesF
  rw [e]
  have e1 : (60 :: 47 :: (nm ++ 62 :: s))[2 + nm.length]? = some 62 := by
    rw [Nat.add_comm 2, List.getElem?_cons_succ, List.getElem?_cons_succ, List.getElem?_append_right (Nat.le_refl _)]
    simp
  rw [e1]
  simp [fold_self, blankB]
  omega
/-! ### what is read of what was shown -/
/-- What is read behind what has been shown so far. -/
def rdS (s : Sh) (r : List UInt8) : List Pl :=
  if s.step = 0 then (if s.text then (readM r).1 else (readF r).1)
  else if s.step = 1 then (afterF (some ⟨1, bs s.raw, [], ⟨#[]⟩, false⟩) r).1 ++ (readM (afterF (some ⟨1, bs s.raw, [], ⟨#[]⟩, false⟩) r).2).1
  else (readM r).1
/-- How the shower stands. -/
def ShOk (s : Sh) : Prop := (s.step = 0) ∨ (s.step = 1 ∧ s.text = false ∧ 0 < rawN s.raw) ∨ (s.step = 2 ∧ s.text = true ∧ 0 < rawN s.raw)
theorem step_ok {s : Sh} {t : Tk} (hs : ShOk s) (hf : fitsB s t = true) : ShOk (stepS s t) := by
  unfold stepS
  by_cases h1 : t.kind = 1 ∧ 0 < rawN (nmL t)
  · rw [if_pos h1]; exact .inr (.inl ⟨rfl, rfl, h1.2⟩)
  · rw [if_neg h1]
    by_cases h2 : t.kind = 2
    · rw [if_pos h2]; exact .inl rfl
    · rw [if_neg h2]
      rcases hs with h | ⟨h, hx, hr⟩ | ⟨h, hx, hr⟩
      · left; show (if 0 < s.step then s.step + 1 else s.step) = 0; rw [if_neg (by omega)]; exact h
      · right; right
        have h3 : t.kind = 3 := by
          unfold fitsB at hf
          by_cases h3 : t.kind = 3
          · exact h3
          · rw [if_neg (fun k => h3 k.1), if_neg (fun k => h3 k.2), if_pos (by omega), Bool.and_eq_true] at hf
            exact absurd (by simpa using hf.1) h2
        refine ⟨?_, ?_, hr⟩
        · show (if 0 < s.step then s.step + 1 else s.step) = 2; rw [if_pos (by omega)]; omega
        · show (t.kind == 3) = true; simpa using h3
      · exfalso
        unfold fitsB at hf
        by_cases h3 : t.kind = 3
        · rw [if_pos ⟨h3, hx⟩] at hf; cases hf
        · rw [if_neg (fun k => h3 k.1), if_neg (fun k => h3 k.2), if_pos (by omega), Bool.and_eq_true] at hf
          exact absurd (by simpa using hf.1) h2
theorem text_nil {r : List UInt8} (h : r = [] ∨ markF r ≠ 0) : textF r = ([], r) := by
  have := text_shown (x := []) (s := r) (by simp) h
  simpa using this
theorem after_plain {t : Option Tk} (h : rawN (rawOf t) = 0) (r : List UInt8) : (afterF t r).1 ++ (readM (afterF t r).2).1 = (readF r).1 := by
  unfold afterF
  rw [if_neg (by omega)]
  rfl
/-- Behind a markup: what follows is read as the shower stands. -/
theorem after_rd {s : Sh} {t : Tk} (hs : s.step = 0 ∨ t.kind = 2) (hk : t.kind ≠ 3) (r : List UInt8) : (afterF (some t) r).1 ++ (readM (afterF (some t) r).2).1 = rdS (stepS s t) r := by
  by_cases h1 : t.kind = 1 ∧ 0 < rawN (nmL t)
  · have e : stepS s t = ⟨nmL t, 1, false⟩ := if_pos h1
    rw [e]
    unfold rdS
    rw [if_neg (by show ¬ (1 : Int) = 0; decide), if_pos rfl]
    have hr : rawOf (some t) = rawOf (some ⟨1, bs (nmL t), [], ⟨#[]⟩, false⟩) := by
      unfold rawOf
      dsimp only
      rw [if_pos h1.1, if_pos rfl]
      rfl
    have ha : afterF (some t) r = afterF (some ⟨1, bs (nmL t), [], ⟨#[]⟩, false⟩) r := by unfold afterF; rw [hr]
    rw [ha]
  · have h0 : rawN (rawOf (some t)) = 0 := by
      unfold rawOf
      dsimp only
      by_cases hk1 : t.kind = 1
      · rw [if_pos hk1]
        have : ¬ 0 < rawN (nmL t) := fun h => h1 ⟨hk1, h⟩
        show rawN (nmL t) = 0
        omega
      · rw [if_neg hk1]; decide
    rw [after_plain h0]
    have e : (stepS s t).step = 0 ∧ (stepS s t).text = false := by
      unfold stepS
      rw [if_neg h1]
      by_cases h2 : t.kind = 2
      · rw [if_pos h2]; exact ⟨rfl, rfl⟩
      · rw [if_neg h2]
        refine ⟨?_, ?_⟩
        · show (if 0 < s.step then s.step + 1 else s.step) = 0
          rw [if_neg (by omega)]
          omega
        · show (t.kind == 3) = false
          simpa using hk
    unfold rdS
    rw [if_pos e.1, e.2, if_neg (by simp)]
theorem right_kind {t : Tk} (h : rightB t = true) : t.kind = 1 ∨ t.kind = 2 ∨ t.kind = 3 ∨ t.kind = 4 ∨ t.kind = 5 := by
  unfold rightB at h
  split at h
  · omega
  · split at h
    · omega
    · split at h
      · omega
      · split at h
        · omega
        · split at h
          · omega
          · cases h
/-- A markup that is shown is read. -/
theorem markup_shown {s : Sh} {t : Tk} (hk : t.kind ≠ 3) (hr : rightB t = true) (r : List UInt8) : markF (showS s t ++ r) ≠ 0 ∧ nextF (showS s t ++ r) = some (some t, true, r) := by
  unfold showS
  rcases right_kind hr with h | h | h | h | h
  · rw [if_pos h]; exact start_shown h hr r
  · rw [if_neg (by omega), if_pos h]; exact end_shown h hr r
  · exact absurd h hk
  · rw [if_neg (by omega), if_neg (by omega), if_pos h]; exact com_shown h hr r
  · rw [if_neg (by omega), if_neg (by omega), if_neg (by omega), if_pos h]; exact doc_shown h hr r
theorem showAll_cons {s : Sh} {t : Tk} {l : List Tk} {x : List UInt8} (h : showAll s (t :: l) = some x) : rightB t = true ∧ fitsB s t = true ∧ ∃ y, showAll (stepS s t) l = some y ∧ x = showS s t ++ y := by
  unfold showAll at h
  split at h
  · rename_i hc
    rw [Bool.and_eq_true] at hc
    cases hy : showAll (stepS s t) l with
    | none => rw [hy] at h; cases h
    | some y =>
      rw [hy] at h
      cases h
      exact ⟨hc.1, hc.2, y, rfl, rfl⟩
  · cases h
/-- Behind a text there is a markup. -/
theorem shown_mark {s : Sh} {l : List Tk} {x : List UInt8} (ht : s.text = true) (h : showAll s l = some x) : x = [] ∨ markF x ≠ 0 := by
  cases l with
  | nil => cases h; exact .inl rfl
  | cons t l =>
    obtain ⟨h1, h2, y, _, rfl⟩ := showAll_cons h
    have hk : t.kind ≠ 3 := fun e => by unfold fitsB at h2; rw [if_pos ⟨e, ht⟩] at h2; cases h2
    exact .inr (markup_shown hk h1 y).1
/-- Behind a raw text there is its end tag. -/
theorem shown_close {s : Sh} {l : List Tk} {x : List UInt8} (ht : 0 < s.step) (hx : s.step ≠ 1 ∧ s.text = true) (h : showAll s l = some x) : x = [] ∨ ∃ y, x = [60, 47] ++ s.raw ++ [62] ++ y := by
  cases l with
  | nil => cases h; exact .inl rfl
  | cons t l =>
    obtain ⟨h1, h2, y, _, rfl⟩ := showAll_cons h
    have hk : t.kind ≠ 3 := fun e => by unfold fitsB at h2; rw [if_pos ⟨e, hx.2⟩] at h2; cases h2
    unfold fitsB at h2
    rw [if_neg (fun k => hk k.1), if_neg (fun k => hk k.2), if_pos ht, Bool.and_eq_true, beq_iff_eq, beq_iff_eq] at h2
    refine .inr ⟨y, ?_⟩
    unfold showS
    rw [if_neg (by omega), if_pos h2.1, h2.2]
theorem esc_ne {x : List UInt8} (h : x ≠ []) (attr : Bool) : escL attr x ≠ [] := fun e => h (by
  have := read_esc attr x
  rw [e, show (⟨([] : List UInt8).toArray⟩ : ByteArray) = bs [] from rfl, readL_nil rfl] at this
  exact this.symm)
theorem text_tok {t : Tk} (hk : t.kind = 3) (hr : rightB t = true) : t = tkT t.text ∧ txL t ≠ [] := by
  unfold rightB at hr
  rw [if_neg (by omega), if_neg (by omega), if_pos hk, Bool.and_eq_true] at hr
  have h1 : nmL t = [] ∧ t.attrs = [] ∧ t.self = false := by
    have := hr.1
    unfold bareF at this
    simpa using this
  refine ⟨tk_ext hk (no_text h1.1).symm h1.2.1 rfl h1.2.2, fun e => ?_⟩
  rw [e] at hr
  exact absurd hr.2 (by decide)
theorem show_law {l : List Tk} : ∀ {s : Sh} {x : List UInt8}, ShOk s → showAll s l = some x → (rdS s x).map Prod.fst = l := by
  induction l with
  | nil =>
    intro s x hs h
    cases h
    have ha : afterF (some ⟨1, bs s.raw, [], ⟨#[]⟩, false⟩) [] = ([], []) := by unfold afterF; split <;> rfl
    unfold rdS
    rw [ha, readM_nil, show readF [] = ([], none) from by unfold readF; rw [show textF [] = ([], []) from rfl]; dsimp only; rw [readM_nil]; rfl]
    split
    · split <;> rfl
    · split <;> rfl
  | cons t l ih =>
    intro s x hs h
    obtain ⟨hr, hf, y, hy, rfl⟩ := showAll_cons h
    have hI := ih (step_ok hs hf) hy
    by_cases hk : t.kind = 3
    · -- a text
      obtain ⟨e1, e2⟩ := text_tok hk hr
      have hst : s.text = false := by
        cases hx : s.text with
        | false => rfl
        | true => unfold fitsB at hf; rw [if_pos ⟨hk, hx⟩] at hf; cases hf
      have hstep : stepS s t = ⟨s.raw, if 0 < s.step then s.step + 1 else s.step, true⟩ := by
        unfold stepS
        rw [if_neg (by omega), if_neg (by omega)]
        simp [hk]
      rcases hs with h0 | ⟨h1, _, hraw⟩ | ⟨h2, h3, _⟩
      · -- among markup
        have hpl : showS s t = escL false (txL t) := by
          unfold showS plainB
          rw [if_neg (by omega), if_neg (by omega), if_neg (by omega), if_neg (by omega), if_neg (by rw [h0]; simp)]
        rw [if_neg (by omega)] at hstep
        have hm := shown_mark (s := stepS s t) (by rw [hstep]) hy
        have hT := text_shown (x := escL false (txL t)) (s := y) (fun b hb => (esc_text _ b hb).1) hm
        have hrd : rdS s (showS s t ++ y) = (readF (showS s t ++ y)).1 := by unfold rdS; rw [if_pos h0, hst, if_neg (by simp)]
        have hrd2 : rdS (stepS s t) y = (readM y).1 := by unfold rdS; rw [hstep, if_pos h0, if_pos rfl]
        rw [hrd2] at hI
        have hE : entT (escL false (txL t)) = txL t := read_esc false _
        rw [hrd, hpl]
        unfold readF
        rw [hT]
        dsimp only
        rw [hE]
        unfold putT
        rw [if_neg (esc_ne e2 false), List.map_append, hI]
        exact congrArg (· :: l) e1.symm
      · -- a raw text
        rw [if_pos (by omega)] at hstep
        obtain ⟨u, hu⟩ : ∃ u, showS s t = u := ⟨_, rfl⟩
        have hc := shown_close (s := stepS s t) (by rw [hstep]; show 0 < s.step + 1; omega) (by rw [hstep]; exact ⟨by show s.step + 1 ≠ 1; omega, rfl⟩) hy
        rw [show (stepS s t).raw = s.raw from by rw [hstep]] at hc
        have hm := shown_mark (s := stepS s t) (by rw [hstep]) hy
        have hnoc : noCloseB s (txL t) = true := by
          unfold fitsB at hf
          rw [if_neg (by rw [hst]; simp), if_pos ⟨h1, hk⟩] at hf
          exact hf
        have hue : u ≠ [] ∧ (bs (if rawN s.raw = 2 then entT u else u)) = t.text ∧ ∀ i, i < u.length → closesF s.raw (u.drop i ++ y) = false := by
          have hno60 : ∀ z : List UInt8, (∀ b ∈ z, b ≠ 60) → ∀ i, i < z.length → closesF s.raw (z.drop i ++ y) = false := fun z hz i hi => by
            rw [List.drop_eq_getElem_cons hi, List.cons_append]
            exact closes_head (hz _ (List.getElem_mem hi))
          by_cases hp : rawN s.raw = 1
          · have hU : u = txL t := by
              rw [← hu]
              unfold showS plainB
              rw [if_neg (by omega), if_neg (by omega), if_neg (by omega), if_neg (by omega), if_pos (by rw [h1, hp]; rfl)]
            rw [hU]
            refine ⟨e2, by rw [if_neg (by omega)]; rfl, fun i hi => ?_⟩
            unfold noCloseB at hnoc
            have hn := List.all_eq_true.1 hnoc i (List.mem_range.2 hi)
            rw [hp] at hn
            simp only [decide_true, Bool.true_and, Bool.not_eq_true'] at hn
            have hd : (txL t ++ [60, 47] ++ s.raw ++ [62]).drop i = (txL t).drop i ++ ([60, 47] ++ s.raw ++ [62]) := by
              rw [List.append_assoc, List.append_assoc, List.drop_append_of_le_length (by omega), List.append_assoc]
            rw [hd] at hn
            rcases hc with rfl | ⟨z, rfl⟩
            · rw [List.append_nil]
              cases hcl : closesF s.raw ((txL t).drop i) with
              | false => rfl
              | true =>
                rw [closes_more (closes_len hcl), hcl] at hn
                cases hn
            · rw [← List.append_assoc, closes_more (by simp only [List.length_append, List.length_cons, List.length_nil, List.length_drop]; omega)]
              exact hn
          · have hp2 : rawN s.raw = 2 := by
              have : rawN s.raw ≤ 2 := by unfold rawN; split <;> (try split) <;> omega
              omega
            have hU : u = escL false (txL t) := by
              rw [← hu]
              unfold showS plainB
              rw [if_neg (by omega), if_neg (by omega), if_neg (by omega), if_neg (by omega), if_neg (by simp [hp])]
            have hE : entT (escL false (txL t)) = txL t := read_esc false _
            rw [hU]
            exact ⟨esc_ne e2 false, by rw [if_pos hp2, hE]; rfl, hno60 _ fun b hb => (esc_text _ b hb).1⟩
        obtain ⟨hu1, hu2, hu3⟩ := hue
        have hR := raw_shown hu3 (hc.imp id fun ⟨z, hz⟩ => by rw [hz]; exact closes_end _ _)
        have hT := text_nil hm
        have hrd2 : rdS (stepS s t) y = (readM y).1 := by
          unfold rdS
          rw [hstep, if_neg (by show ¬ s.step + 1 = 0; omega), if_neg (by show ¬ s.step + 1 = 1; omega)]
        rw [hrd2] at hI
        have hrd : rdS s (u ++ y) = putT u (bs (if rawN s.raw = 2 then entT u else u)) (u ++ y).length y.length ++ (readM y).1 := by
          unfold rdS
          rw [if_neg (by omega), if_pos h1]
          have hrw : rawOf (some ⟨1, bs s.raw, [], ⟨#[]⟩, false⟩) = s.raw := rfl
          unfold afterF
          rw [hrw, if_pos hraw, hR]
          dsimp only
          rw [hT]
          dsimp only
          rw [show putT [] (bs (entT [])) y.length y.length = [] from rfl, List.append_nil]
        rw [hu, hrd, hu2]
        unfold putT
        rw [if_neg hu1, List.map_append, hI]
        exact congrArg (· :: l) e1.symm
      · rw [h3] at hst; cases hst
    · -- a markup
      obtain ⟨m1, m2⟩ := markup_shown (s := s) hk hr y
      have hor : s.step = 0 ∨ t.kind = 2 := by
        by_cases h0 : s.step = 0
        · exact .inl h0
        · right
          have hpos : 0 < s.step := by rcases hs with h | ⟨h, _, _⟩ | ⟨h, _, _⟩ <;> omega
          unfold fitsB at hf
          rw [if_neg (fun k => hk k.1), if_neg (fun k => hk k.2), if_pos hpos, Bool.and_eq_true, beq_iff_eq] at hf
          exact hf.1
      have hM : (readM (showS s t ++ y)).1.map Prod.fst = t :: l := by
        rw [readM_step m1, m2]
        dsimp only
        rw [List.append_assoc, after_rd hor hk, List.map_append, hI]
        rfl
      have hT := text_nil (.inr m1)
      have hF : (readF (showS s t ++ y)).1 = (readM (showS s t ++ y)).1 := by
        unfold readF
        rw [hT]
        rfl
      rcases hs with h0 | ⟨h1, h2, h3⟩ | ⟨h1, h2, h3⟩
      · unfold rdS
        rw [if_pos h0]
        split
        · exact hM
        · rw [hF]; exact hM
      · have hk2 : t.kind = 2 ∧ nmL t = s.raw := by
          unfold fitsB at hf
          rw [if_neg (fun k => hk k.1), if_neg (fun k => hk k.2), if_pos (by omega), Bool.and_eq_true, beq_iff_eq, beq_iff_eq] at hf
          exact hf
        have hcl : closesF s.raw (showS s t ++ y) = true := by
          unfold showS
          rw [if_neg (by omega), if_pos hk2.1, hk2.2]
          exact closes_end _ _
        have hR := raw_shown (nm := s.raw) (x := []) (s := showS s t ++ y) (by simp) (.inr hcl)
        rw [List.nil_append] at hR
        unfold rdS
        rw [if_neg (by omega), if_pos h1]
        have hrw : rawOf (some ⟨1, bs s.raw, [], ⟨#[]⟩, false⟩) = s.raw := rfl
        unfold afterF
        rw [hrw, if_pos h3, hR]
        dsimp only
        rw [hT]
        dsimp only
        rw [show ∀ n m, putT [] (bs (entT [])) n m = [] from fun _ _ => rfl, show ∀ z n m, putT [] z n m = [] from fun _ _ _ => rfl]
        exact hM
      · unfold rdS
        rw [if_neg (by omega), if_neg (by omega)]
        exact hM
/-- WHAT IS SHOWN IS READ. -/
theorem back_law {l : List Tk} {x : List UInt8} (h : showAll ⟨[], 0, false⟩ l = some x) : (readF x).1.map Prod.fst = l := by
  have := show_law (.inl rfl) h
  exact this
end Go.Proofs.YtbddnohbkafagaaGreatDoor
