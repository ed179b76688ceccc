/-
Of tags' names the letters' size does not matter: the plain law.
-/
import Derived.Test.YtbddnohbkafagaaGreatDoorTokLaw
namespace Go.Proofs.YtbddnohbkafagaaGreatDoor
open Go.RowKit Go.Cl

def upS (b : UInt8) : UInt8 := if 97 ≤ b.toNat ∧ b.toNat ≤ 122 then b - 32 else b
theorem all_bytes {p : UInt8 → Bool} (h : ∀ n : Fin 256, p (UInt8.ofNat n.val) = true) (b : UInt8) : p b = true := by
  have := h ⟨b.toNat, b.toNat_lt⟩
  rw [show UInt8.ofNat b.toNat = b from by simp] at this
  exact this
theorem up_blank (b : UInt8) : blankB (upS b) = blankB b := by
  have := all_bytes (p := fun b => blankB (upS b) == blankB b) (by decide +kernel) b
  simpa using this
theorem up_letter (b : UInt8) : letterB (upS b) = letterB b := by
  have := all_bytes (p := fun b => letterB (upS b) == letterB b) (by decide +kernel) b
  simpa using this
theorem up_name (b : UInt8) : nameB (upS b) = nameB b := by
  have := all_bytes (p := fun b => nameB (upS b) == nameB b) (by decide +kernel) b
  simpa using this
/-- No letter. -/
def noLet (c : UInt8) : Bool := !letterB c
theorem up_stay {b : UInt8} (h : letterB b = false) : upS b = b := by
  have := all_bytes (p := fun b => letterB b || upS b == b) (by decide +kernel) b
  simpa [h] using this
theorem up_eq {c : UInt8} (hc : noLet c = true) (b : UInt8) : (upS b = c) ↔ (b = c) := by
  have hc' : letterB c = false := by unfold noLet at hc; simpa using hc
  cases hb : letterB b with
  | false => rw [up_stay hb]
  | true =>
    refine ⟨fun e => ?_, fun e => ?_⟩
    · have := up_letter b; rw [e, hc', hb] at this; cases this
    · rw [e, hc'] at hb; cases hb
theorem up_nat (x : UInt8) : (upS x).toNat = if 97 ≤ x.toNat ∧ x.toNat ≤ 122 then x.toNat - 32 else x.toNat := by
  have := all_bytes (p := fun x => (upS x).toNat == if 97 ≤ x.toNat ∧ x.toNat ≤ 122 then x.toNat - 32 else x.toNat) (by decide +kernel) x
  simpa using this
theorem up_fold (x y : UInt8) : Lib.foldEq (upS x) y = Lib.foldEq x y := by
  unfold Lib.foldEq
  rw [up_nat]
  apply decide_eq_decide.2
  split <;> omega
theorem up_beq {c : UInt8} (hc : noLet c = true) (b : UInt8) : (upS b == c) = (b == c) := by
  rw [Bool.eq_iff_iff, beq_iff_eq, beq_iff_eq]; exact up_eq hc b
theorem up_skip : skipB ∘ upS = skipB := by funext b; simp only [Function.comp, skipB]; rw [up_blank, up_beq rfl]
theorem up_tag : tagB ∘ upS = tagB := by funext b; simp only [Function.comp, tagB]; rw [up_blank, up_beq rfl, up_beq rfl]
theorem up_an : anB ∘ upS = anB := by funext b; simp only [Function.comp, anB]; rw [up_blank, up_beq rfl, up_beq rfl, up_beq rfl]
theorem up_val : valB ∘ upS = valB := by funext b; simp only [Function.comp, valB]; rw [up_blank, up_beq rfl]
theorem up_bl : blankB ∘ upS = blankB := by funext b; exact up_blank b
theorem tw_up {p : UInt8 → Bool} (h : p ∘ upS = p) (r : List UInt8) : (r.map upS).takeWhile p = (r.takeWhile p).map upS := by rw [List.takeWhile_map, h]
theorem dw_up {p : UInt8 → Bool} (h : p ∘ upS = p) (r : List UInt8) : (r.map upS).dropWhile p = (r.dropWhile p).map upS := by rw [List.dropWhile_map, h]
theorem name_up (l : List UInt8) : nameL (l.map upS) = nameL l := by
  unfold nameL
  rw [← List.map_take, List.map_map]
  exact List.map_congr_left fun b _ => up_name b
theorem attr_up (l : List UInt8) : attrL (l.map upS) = attrL l := by unfold attrL; rw [name_up]
theorem pre_up {mark : List UInt8} (hm : ∀ c ∈ mark, noLet c = true) (r : List UInt8) : mark.isPrefixOf (r.map upS) = mark.isPrefixOf r := by
  induction mark generalizing r with
  | nil => cases r <;> rfl
  | cons c mark ih =>
    cases r with
    | nil => rfl
    | cons b r =>
      simp only [List.map_cons, List.isPrefixOf]
      rw [ih (fun d hd => hm d (List.mem_cons_of_mem _ hd))]
      have := up_beq (hm c (List.mem_cons_self ..)) b
      rw [show (c == upS b) = (upS b == c) from Bool.beq_comm, this, show (b == c) = (c == b) from Bool.beq_comm]
theorem index_up {mark : List UInt8} (hm : ∀ c ∈ mark, noLet c = true) (r : List UInt8) : Lib.index (r.map upS) mark = Lib.index r mark := by
  induction r with
  | nil => rfl
  | cons b t ih =>
    rw [List.map_cons, Lib.index, Lib.index, ih, ← List.map_cons, pre_up hm]
theorem cut_up {mark : List UInt8} (hm : ∀ c ∈ mark, noLet c = true) (r : List UInt8) : Lib.cut (r.map upS) mark = ((Lib.cut r mark).1.map upS, (Lib.cut r mark).2.1.map upS, (Lib.cut r mark).2.2) := by
  unfold Lib.cut
  rw [index_up hm]
  split
  · rw [List.map_take, List.map_drop]
  · rfl
theorem head_up {c : UInt8} (hc : noLet c = true) (r : List UInt8) : ((r.map upS).head? = some c) ↔ (r.head? = some c) := by
  cases r with
  | nil => exact Iff.rfl
  | cons b t => simp only [List.map_cons, List.head?_cons, Option.some.injEq]; exact up_eq hc b
theorem value_up (r : List UInt8) : valueF (r.map upS) = ((valueF r).1.map upS, (valueF r).2.map upS) := by
  unfold valueF
  rw [dw_up up_bl]
  cases hd : r.dropWhile blankB with
  | nil => rfl
  | cons q t =>
    simp only [List.map_cons]
    by_cases h : q = 34 ∨ q = 39
    · have hq : upS q = q := by rcases h with rfl | rfl <;> rfl
      rw [hq, if_pos h, if_pos h, cut_up (by intro c hc; rw [List.mem_singleton.1 hc]; rcases h with rfl | rfl <;> rfl)]
    · rw [if_neg h, if_neg (by rw [up_eq rfl, up_eq rfl]; exact h), ← List.map_cons, tw_up up_val, dw_up up_val]
theorem attrEnd_up (t : List UInt8) : attrEnd (t.map upS) = (attrEnd t).map upS := by unfold attrEnd; rw [dw_up up_an, dw_up up_bl]
theorem attrF_up (b : UInt8) (t : List UInt8) : (attrF (upS b) (t.map upS)).1.1 = (attrF b t).1.1 ∧ (attrF (upS b) (t.map upS)).2 = (attrF b t).2.map upS := by
  have hn : attrL (upS b :: (t.map upS).takeWhile anB) = attrL (b :: t.takeWhile anB) := by rw [tw_up up_an, ← List.map_cons, attr_up]
  unfold attrF
  rw [hn, attrEnd_up]
  by_cases h : (attrEnd t).head? = some 61
  · rw [if_pos h, if_pos ((head_up rfl _).2 h), ← List.map_tail, value_up]
    exact ⟨rfl, rfl⟩
  · rw [if_neg h, if_neg (fun k => h ((head_up rfl _).1 k))]
    exact ⟨rfl, rfl⟩
theorem addA_up {acc acc' : List DAttr} {a a' : DAttr} (h : acc'.map Prod.fst = acc.map Prod.fst) (ha : a'.1 = a.1) : (addA acc' a').map Prod.fst = (addA acc a).map Prod.fst := by
  have hany : acc'.any (fun b => b.1.toList == a'.1.toList) = acc.any (fun b => b.1.toList == a.1.toList) := by
    have e1 : ∀ (l : List DAttr) (n : ByteArray), l.any (fun b => b.1.toList == n.toList) = (l.map Prod.fst).any (fun x => x.toList == n.toList) := fun l n => by rw [List.any_map]; rfl
    rw [e1, e1, h, ha]
  unfold addA
  rw [hany]
  split
  · exact h
  · rw [List.map_append, List.map_append, h, List.map_cons, List.map_cons, ha, List.map_nil]
/-- Two tags alike. -/
def likeT (x y : Option (List DAttr × Bool × List UInt8)) : Prop := match x, y with
  | none, none => True
  | some x, some y => x.1.map Prod.fst = y.1.map Prod.fst ∧ x.2.1 = y.2.1 ∧ x.2.2 = y.2.2.map upS
  | _, _ => False
theorem last_up {c : UInt8} (hc : noLet c = true) (r : List UInt8) : ((r.map upS).getLast? == some c) = (r.getLast? == some c) := by
  rw [List.getLast?_map]
  cases r.getLast? with
  | none => rfl
  | some b =>
    rw [Bool.eq_iff_iff]
    simp only [Option.map_some, beq_iff_eq, Option.some.injEq]
    exact up_eq hc b
theorem tagF_up {acc acc' : List DAttr} (h : acc'.map Prod.fst = acc.map Prod.fst) (r : List UInt8) : likeT (tagF acc' (r.map upS)) (tagF acc r) := by
  induction hn : r.length using Nat.strongRecOn generalizing acc acc' r with
  | ind n ih =>
    subst hn
    rw [tagF_step, tagF_step, dw_up up_skip]
    have h1 := dropW_le skipB r
    cases hd : r.dropWhile skipB with
    | nil => trivial
    | cons b t =>
      rw [hd, List.length_cons] at h1
      simp only [List.map_cons]
      by_cases hb : b = 62
      · rw [if_pos hb, if_pos ((up_eq rfl b).2 hb)]
        exact ⟨h, by rw [tw_up up_skip]; exact last_up rfl _, rfl⟩
      · rw [if_neg hb, if_neg (fun k => hb ((up_eq rfl b).1 k))]
        obtain ⟨e1, e2⟩ := attrF_up b t
        rw [e2]
        exact ih _ (by have := attr_le b t; omega) (addA_up h e1) _ rfl
/-- What is told of a token. -/
def tell (t : Tk) : Int × ByteArray × List ByteArray := (t.kind, t.name, t.attrs.map Prod.fst)
theorem tagT_up (kind : Int) (r : List UInt8) : (tagT kind (r.map upS)).map (fun x => (tell x.1, x.2)) = (tagT kind r).map fun x => (tell x.1, x.2.map upS) := by
  have h := tagF_up (acc := []) (acc' := []) rfl (r.dropWhile tagB)
  unfold tagT
  rw [dw_up up_tag, tw_up up_tag, name_up]
  revert h
  cases tagF [] ((r.dropWhile tagB).map upS) with
  | none =>
    cases tagF [] (r.dropWhile tagB) with
    | none => intro _; rfl
    | some y => intro h; exact h.elim
  | some x =>
    cases tagF [] (r.dropWhile tagB) with
    | none => intro h; exact h.elim
    | some y =>
      intro h
      obtain ⟨h1, h2, h3⟩ := h
      simp only [Option.map_some, h3]
      split
      · simp only [tell, h1]
      · rfl
theorem com_up {mark : List UInt8} (hm : ∀ c ∈ mark, noLet c = true) (r : List UInt8) : tell (comF mark (r.map upS)).1 = tell (comF mark r).1 ∧ (comF mark (r.map upS)).2.1 = (comF mark r).2.1 ∧ (comF mark (r.map upS)).2.2 = (comF mark r).2.2.map upS := by
  unfold comF
  rw [cut_up hm]
  exact ⟨rfl, rfl, rfl⟩
theorem fold_up (a b : List UInt8) : Lib.equalFold (a.map upS) b = Lib.equalFold a b := by
  induction a generalizing b with
  | nil => rfl
  | cons x a ih =>
    cases b with
    | nil => rfl
    | cons y b => simp only [List.map_cons, Lib.equalFold]; rw [up_fold, ih]
theorem up_nb : (fun b => !blankB b) ∘ upS = fun b => !blankB b := by funext b; simp only [Function.comp]; rw [up_blank]
theorem docN_up (r : List UInt8) : docN (r.map upS) = (docN r).map upS := by
  unfold docN
  rw [cut_up (by decide), dw_up up_bl, tw_up up_nb]
theorem decl_up (r : List UInt8) : tell (declF (r.map upS)).1 = tell (declF r).1 ∧ (declF (r.map upS)).2.1 = (declF r).2.1 ∧ (declF (r.map upS)).2.2 = (declF r).2.2.map upS := by
  have hp : ∀ (p : List UInt8) (k : List UInt8), (∀ c ∈ p, noLet c = true) → Lib.hasPrefix (k.map upS) p = Lib.hasPrefix k p := fun p k h => pre_up h k
  unfold declF
  rw [hp _ _ (by decide), ← List.map_drop, hp _ _ (by decide), hp _ _ (by decide), List.length_map, ← List.map_take, fold_up]
  split
  · split
    · exact ⟨rfl, rfl, by rw [List.map_drop]⟩
    · split
      · exact ⟨rfl, rfl, by rw [List.map_drop]⟩
      · exact com_up (by decide) _
  · split
    · rw [← List.map_drop, docN_up, cut_up (by decide)]
      refine ⟨?_, rfl, rfl⟩
      simp only [tell, tkD, name_up]
    · rw [← List.map_drop]
      exact com_up (by decide) _
theorem mark_up (r : List UInt8) : markF (r.map upS) = markF r := by
  match r with
  | [] => rfl
  | [_] => rfl
  | c :: b :: t =>
    rw [List.map_cons, List.map_cons, mark_cons, mark_cons]
    by_cases hc : c = 60
    · rw [if_neg (show ¬ (upS c ≠ 60) from fun k => k ((up_eq rfl c).2 hc)), if_neg (show ¬ (c ≠ 60) from fun k => k hc), up_letter]
      split
      · rfl
      · rename_i hl
        rw [up_stay (by simpa using hl)]
        simp
    · rw [if_pos (show upS c ≠ 60 from fun k => hc ((up_eq rfl c).1 k)), if_pos hc]
/-- Two markups alike. -/
theorem next_up (r : List UInt8) : (nextF (r.map upS)).map (fun x => (x.1.map tell, x.2.1, x.2.2)) = (nextF r).map fun x => (x.1.map tell, x.2.1, x.2.2.map upS) := by
  unfold nextF
  rw [mark_up]
  split
  · obtain ⟨h1, h2, h3⟩ := decl_up r
    simp only [Option.map_some, h1, h2, h3]
  · split
    · obtain ⟨h1, h2, h3⟩ := com_up (mark := [62]) (by decide) (r.drop 1)
      rw [← List.map_drop]
      simp only [Option.map_some, h1, h2, h3]
    · split
      · have h := tagT_up 1 (r.drop 1)
        rw [← List.map_drop]
        revert h
        cases tagT 1 ((r.drop 1).map upS) with
        | none => cases tagT 1 (r.drop 1) with
          | none => intro _; rfl
          | some y => intro h; cases h
        | some x => cases tagT 1 (r.drop 1) with
          | none => intro h; cases h
          | some y =>
            intro h
            simp only [Option.map_some, Option.some.injEq, Prod.mk.injEq] at h ⊢
            exact ⟨h.1, trivial, h.2⟩
      · rw [← List.map_drop]
        cases hd : r.drop 2 with
        | nil => rfl
        | cons b t =>
          simp only [List.map_cons]
          by_cases hb : b = 62
          · rw [if_pos hb, if_pos ((up_eq rfl b).2 hb)]; rfl
          · rw [if_neg hb, if_neg (fun k => hb ((up_eq rfl b).1 k)), up_letter, ← List.map_cons]
            split
            · have h := tagT_up 2 (b :: t)
              revert h
              cases tagT 2 ((b :: t).map upS) with
              | none => cases tagT 2 (b :: t) with
                | none => intro _; rfl
                | some y => intro h; cases h
              | some x => cases tagT 2 (b :: t) with
                | none => intro h; cases h
                | some y =>
                  intro h
                  simp only [Option.map_some, Option.some.injEq, Prod.mk.injEq] at h ⊢
                  exact ⟨h.1, trivial, h.2⟩
            · obtain ⟨h1, h2, h3⟩ := com_up (mark := [62]) (by decide) (b :: t)
              simp only [Option.map_some, h1, h2, h3]
theorem text_up (r : List UInt8) : textF (r.map upS) = ((textF r).1.map upS, (textF r).2.map upS) := by
  induction r with
  | nil => rfl
  | cons b t ih =>
    have hm := mark_up (b :: t)
    rw [List.map_cons] at hm ⊢
    rw [textF, textF, hm, ih]
    split <;> rfl
theorem closes_up (nm r : List UInt8) : closesF nm (r.map upS) = closesF nm r := by
  unfold closesF
  rw [List.length_map, ← List.map_drop, ← List.map_take, ← List.map_take, fold_up, List.getElem?_map]
  have h1 : ((r.take 2).map upS == [60, 47]) = (r.take 2 == [60, 47]) := by
    rw [Bool.eq_iff_iff, beq_iff_eq, beq_iff_eq]
    match r.take 2 with
    | [] => simp
    | [a] => simp
    | [a, b] => simp only [List.map_cons, List.map_nil, List.cons.injEq, and_true]; rw [up_eq rfl, up_eq rfl]
    | a :: b :: c :: d => simp
  rw [h1]
  cases r[2 + nm.length]? with
  | none => rfl
  | some b => simp only [Option.map_some]; rw [up_blank, up_beq rfl, up_beq rfl]
theorem raw_up (nm r : List UInt8) : rawF nm (r.map upS) = ((rawF nm r).1.map upS, (rawF nm r).2.map upS) := by
  induction r with
  | nil => rfl
  | cons b t ih =>
    have hm := closes_up nm (b :: t)
    rw [List.map_cons] at hm ⊢
    rw [rawF, rawF, hm, ih]
    split <;> rfl
/-- What is told of a token and its place. -/
def tellP (x : Pl) : (Int × ByteArray × List ByteArray) × Nat × Nat := (tell x.1, x.2)
theorem putT_up {x x' : List UInt8} {y y' : ByteArray} (a b : Nat) (h : x' = x.map upS) : (putT x' y' a b).map tellP = (putT x y a b).map tellP := by
  subst h
  unfold putT
  by_cases hx : x = []
  · rw [if_pos hx, if_pos (by rw [hx]; rfl)]
  · rw [if_neg hx, if_neg (by simpa using hx)]
    rfl
theorem rawOf_up {t t' : Option Tk} (h : t'.map tell = t.map tell) : rawOf t' = rawOf t := by
  cases t with
  | none => cases t' with
    | none => rfl
    | some _ => cases h
  | some t => cases t' with
    | none => cases h
    | some t' =>
      simp only [Option.map_some, Option.some.injEq, tell, Prod.mk.injEq] at h
      show (if t'.kind = 1 then t'.name.data.toList else []) = (if t.kind = 1 then t.name.data.toList else [])
      rw [h.1, h.2.1]
theorem after_up {t t' : Option Tk} (h : t'.map tell = t.map tell) (r : List UInt8) : (afterF t' (r.map upS)).1.map tellP = (afterF t r).1.map tellP ∧ (afterF t' (r.map upS)).2 = (afterF t r).2.map upS := by
  unfold afterF
  rw [rawOf_up h]
  split
  · rw [raw_up, text_up]
    simp only [List.map_append, List.length_map]
    refine ⟨?_, trivial⟩
    rw [putT_up _ _ rfl, putT_up _ _ rfl]
  · rw [text_up]
    simp only [List.length_map]
    exact ⟨putT_up _ _ rfl, trivial⟩
theorem readM_up {r : List UInt8} (hm : r = [] ∨ markF r ≠ 0) : (readM (r.map upS)).1.map tellP = (readM r).1.map tellP := by
  induction hn : r.length using Nat.strongRecOn generalizing r with
  | ind n ih =>
    subst hn
    rcases hm with rfl | hm
    · rfl
    rw [readM_step hm, readM_step (by rw [mark_up]; exact hm)]
    have hN := next_up r
    revert hN
    cases hx : nextF r with
    | none =>
      cases nextF (r.map upS) with
      | none => intro _; rfl
      | some y => intro h; cases h
    | some x =>
      cases nextF (r.map upS) with
      | none => intro h; cases h
      | some y =>
        obtain ⟨t, e, r2⟩ := x
        obtain ⟨t', e', r2'⟩ := y
        intro h
        simp only [Option.map_some, Option.some.injEq, Prod.mk.injEq] at h
        obtain ⟨h1, h2, h3⟩ := h
        subst h3
        dsimp only
        have l1 := next_le hm hx
        have l2 := after_le t r2
        dsimp only at l1
        obtain ⟨a1, a2⟩ := after_up h1 r2
        rw [a2]
        simp only [List.map_append, List.length_map]
        rw [a1, ih _ (by omega) (after_mark t r2) rfl]
        congr 2
        cases t with
        | none => cases t' with
          | none => rfl
          | some _ => cases h1
        | some t => cases t' with
          | none => cases h1
          | some t' =>
            simp only [Option.map_some, Option.some.injEq] at h1
            simp only [putM, List.map_cons, List.map_nil, tellP, h1]
/-- OF TAGS' NAMES THE LETTERS' SIZE DOES NOT MATTER. -/
theorem size_law (s : List UInt8) : (readF (s.map upS)).1.map tellP = (readF s).1.map tellP := by
  unfold readF
  rw [text_up]
  simp only [List.map_append, List.length_map]
  rw [readM_up (text_mark s), putT_up _ _ rfl]
end Go.Proofs.YtbddnohbkafagaaGreatDoor
