/-
Tokens in plain words: what is read of a text, and what is shown. No program in sight.
-/
import Derived.Test.YtbddnohbkafagaaGreatDoorEntBegun
import Derived.Test.YtbddnohbkafagaaGreatDoorEscLaw
import Derived.Test.YtbddnohbkafagaaGreatDoorDomB
import Derived.Lib.Fold
import Derived.Lib.IndexMore
namespace Go.Proofs.YtbddnohbkafagaaGreatDoor
open Go.RowKit Go.Cl

def bs (l : List UInt8) : ByteArray := ⟨l.toArray⟩
theorem bs_list (l : List UInt8) : (bs l).data.toList = l := rfl
theorem bs_size (l : List UInt8) : (bs l).size = l.length := rfl
theorem bs_inj {a b : List UInt8} (h : bs a = bs b) : a = b := by rw [← bs_list a, h, bs_list]
theorem bs_of {s : ByteArray} {l : List UInt8} (h : s.data.toList = l) : s = bs l := by rw [← h]; rfl
/-! ### signs -/
def blankB (b : UInt8) : Bool := b == 32 || b == 9 || b == 10 || b == 12 || b == 13
def letterB (b : UInt8) : Bool := decide (97 ≤ low b.toNat) && decide (low b.toNat ≤ 122)
def nameB (b : UInt8) : UInt8 :=
  if 65 ≤ b.toNat ∧ b.toNat ≤ 90 then b + 32
  else if (97 ≤ b.toNat ∧ b.toNat ≤ 122) ∨ (48 ≤ b.toNat ∧ b.toNat ≤ 57) ∨ b = 45 ∨ b = 95 ∨ b = 58 then b else 95
def nameL (l : List UInt8) : List UInt8 := (l.take 40).map nameB
def dashB (b : UInt8) : Bool := letterB b || b == 45
def attrL (l : List UInt8) : List UInt8 := match nameL l with
  | [] => []
  | c :: t => if dashB c then c :: t else 95 :: t
def rawN (nm : List UInt8) : Nat := if nm = ([115, 99, 114, 105, 112, 116] : List UInt8) ∨ nm = ([115, 116, 121, 108, 101] : List UInt8) then 1 else if nm = ([116, 101, 120, 116, 97, 114, 101, 97] : List UInt8) ∨ nm = ([116, 105, 116, 108, 101] : List UInt8) then 2 else 0
def skipB (b : UInt8) : Bool := blankB b || b == 47
def tagB (b : UInt8) : Bool := !(blankB b || b == 47 || b == 62)
def anB (b : UInt8) : Bool := !(blankB b || b == 47 || b == 62 || b == 61)
def valB (b : UInt8) : Bool := !(blankB b || b == 62)
/-! ### a token -/
structure Tk where
  kind : Int
  name : ByteArray
  attrs : List DAttr
  text : ByteArray
  self : Bool
def entT (l : List UInt8) : List UInt8 := readL (bs l) false
def entV (l : List UInt8) : List UInt8 := readL (bs l) true
/-! ### attributes -/
def valueF (r : List UInt8) : List UInt8 × List UInt8 :=
  match r.dropWhile blankB with
  | [] => ([], [])
  | q :: t => if q = 34 ∨ q = 39 then ((Lib.cut t [q]).1, (Lib.cut t [q]).2.1) else ((q :: t).takeWhile valB, (q :: t).dropWhile valB)
def attrEnd (t : List UInt8) : List UInt8 := (t.dropWhile anB).dropWhile blankB
def attrF (b : UInt8) (t : List UInt8) : DAttr × List UInt8 :=
  if (attrEnd t).head? = some 61 then ((bs (attrL (b :: t.takeWhile anB)), bs (entV (valueF (attrEnd t).tail).1)), (valueF (attrEnd t).tail).2)
  else ((bs (attrL (b :: t.takeWhile anB)), ⟨#[]⟩), attrEnd t)
def addA (acc : List DAttr) (a : DAttr) : List DAttr := if acc.any (fun b => b.1.toList == a.1.toList) then acc else acc ++ [a]
/-- The rest of a tag behind its name: its attributes, whether it closes itself, what is behind it. -/
def tagF (acc : List DAttr) (r : List UInt8) : Option (List DAttr × Bool × List UInt8) :=
  match r.dropWhile skipB with
  | [] => none
  | b :: t => if b = 62 then some (acc, (r.takeWhile skipB).getLast? == some 47, t)
    else if _h : (attrF b t).2.length < r.length then tagF (addA acc (attrF b t).1) (attrF b t).2 else none
termination_by r.length
/-! ### comments and their like -/
def tkC (x : List UInt8) : Tk := ⟨4, ⟨#[]⟩, [], bs x, false⟩
def tkD (x : List UInt8) : Tk := ⟨5, bs (nameL x), [], ⟨#[]⟩, false⟩
def tkT (x : ByteArray) : Tk := ⟨3, ⟨#[]⟩, [], x, false⟩
def comF (mark r : List UInt8) : Tk × Bool × List UInt8 := (tkC (Lib.cut r mark).1, (Lib.cut r mark).2.2, (Lib.cut r mark).2.1)
def docN (r : List UInt8) : List UInt8 := ((Lib.cut r [62]).1.dropWhile blankB).takeWhile fun b => !blankB b
def declF (r : List UInt8) : Tk × Bool × List UInt8 :=
  if Lib.hasPrefix r ([60, 33, 45, 45] : List UInt8) then
    if Lib.hasPrefix (r.drop 4) [62] then (tkC [], true, r.drop 5)
    else if Lib.hasPrefix (r.drop 4) [45, 62] then (tkC [], true, r.drop 6)
    else comF [45, 45, 62] (r.drop 4)
  else if 9 ≤ r.length ∧ Lib.equalFold (r.take 9) ([60, 33, 100, 111, 99, 116, 121, 112, 101] : List UInt8) = true then (tkD (docN (r.drop 9)), (Lib.cut (r.drop 9) [62]).2.2, (Lib.cut (r.drop 9) [62]).2.1)
  else comF [62] (r.drop 2)
/-- Which markup begins here; 0: none. -/
def markF : List UInt8 → UInt8
  | c :: b :: t => if c ≠ 60 then 0 else if letterB b then 97 else if b = 33 ∨ b = 63 then b else if b = 47 ∧ t ≠ [] then b else 0
  | _ => 0
theorem mark_cons (c b : UInt8) (t : List UInt8) : markF (c :: b :: t) = if c ≠ 60 then 0 else if letterB b then 97 else if b = 33 ∨ b = 63 then b else if b = 47 ∧ t ≠ [] then b else 0 := rfl
/-- A tag: of a kind, with its name and all. -/
def tagT (kind : Int) (r : List UInt8) : Option (Tk × List UInt8) :=
  (tagF [] (r.dropWhile tagB)).map fun x => (if kind = 1 then ⟨1, bs (nameL (r.takeWhile tagB)), x.1, ⟨#[]⟩, x.2.1⟩ else ⟨kind, bs (nameL (r.takeWhile tagB)), [], ⟨#[]⟩, false⟩, x.2.2)
/-- The next markup: a token or none; whether it ends; what is behind. None at all: a tag without an end. -/
def nextF (r : List UInt8) : Option (Option Tk × Bool × List UInt8) :=
  if markF r = 33 then some (some (declF r).1, (declF r).2)
  else if markF r = 63 then some (some (comF [62] (r.drop 1)).1, (comF [62] (r.drop 1)).2)
  else if markF r = 97 then (tagT 1 (r.drop 1)).map fun x => (some x.1, true, x.2)
  else match r.drop 2 with
    | [] => none
    | b :: t => if b = 62 then some (none, true, t)
      else if letterB b then (tagT 2 (b :: t)).map fun x => (some x.1, true, x.2)
      else some (some (comF [62] (b :: t)).1, (comF [62] (b :: t)).2)
/-! ### texts -/
def textF : List UInt8 → List UInt8 × List UInt8
  | [] => ([], [])
  | b :: t => if markF (b :: t) = 0 then (b :: (textF t).1, (textF t).2) else ([], b :: t)
def closesF (nm r : List UInt8) : Bool :=
  decide (2 + nm.length < r.length) && (r.take 2 == [60, 47]) && Lib.equalFold ((r.drop 2).take nm.length) nm && (match r[2 + nm.length]? with | some b => blankB b || b == 47 || b == 62 | none => false)
def rawF (nm : List UInt8) : List UInt8 → List UInt8 × List UInt8
  | [] => ([], [])
  | b :: t => if closesF nm (b :: t) then ([], b :: t) else (b :: (rawF nm t).1, (rawF nm t).2)
/-- A token, and how much is left where it begins and where it ends. -/
abbrev Pl := Tk × Nat × Nat
def putT (x : List UInt8) (y : ByteArray) (a b : Nat) : List Pl := if x = [] then [] else [(tkT y, a, b)]
def putM (t : Option Tk) (a b : Nat) : List Pl := match t with
  | none => []
  | some t => [(t, a, b)]
/-- The name of the raw text that begins behind a token. -/
def rawOf (t : Option Tk) : List UInt8 := match t with
  | none => []
  | some t => if t.kind = 1 then t.name.data.toList else []
/-- What is behind a markup, up to the next one: a raw text, and a text. -/
def afterF (t : Option Tk) (r : List UInt8) : List Pl × List UInt8 :=
  if 0 < rawN (rawOf t) then
    (putT (rawF (rawOf t) r).1 (bs (if rawN (rawOf t) = 2 then entT (rawF (rawOf t) r).1 else (rawF (rawOf t) r).1)) r.length (rawF (rawOf t) r).2.length
      ++ putT (textF (rawF (rawOf t) r).2).1 (bs (entT (textF (rawF (rawOf t) r).2).1)) (rawF (rawOf t) r).2.length (textF (rawF (rawOf t) r).2).2.length, (textF (rawF (rawOf t) r).2).2)
  else (putT (textF r).1 (bs (entT (textF r).1)) r.length (textF r).2.length, (textF r).2)
/-- From one markup on: tokens, and how much is left where the last one that has an end of its own ended. -/
def readM (r : List UInt8) : List Pl × Option Nat :=
  if r = [] then ([], none) else match nextF r with
    | none => ([], none)
    | some (t, e, r2) =>
      if _h : (afterF t r2).2.length < r.length then
        (putM t r.length r2.length ++ (afterF t r2).1 ++ (readM (afterF t r2).2).1, (readM (afterF t r2).2).2.or (if e = true ∧ t.isSome = true then some r2.length else none))
      else ([], none)
termination_by r.length
def readF (r : List UInt8) : List Pl × Option Nat :=
  (putT (textF r).1 (bs (entT (textF r).1)) r.length (textF r).2.length ++ (readM (textF r).2).1, (readM (textF r).2).2)
/-! ### how much is taken -/
theorem dropW_le (p : UInt8 → Bool) (r : List UInt8) : (r.dropWhile p).length ≤ r.length := by
  have := congrArg List.length (List.takeWhile_append_dropWhile (p := p) (l := r))
  rw [List.length_append] at this
  omega
theorem cut_le (r mark : List UInt8) : (Lib.cut r mark).2.1.length ≤ r.length := by
  unfold Lib.cut
  split
  · rw [List.length_drop]; omega
  · exact Nat.zero_le _
theorem value_le (r : List UInt8) : (valueF r).2.length ≤ r.length := by
  unfold valueF
  have h := dropW_le blankB r
  cases hd : r.dropWhile blankB with
  | nil => exact Nat.zero_le _
  | cons q t =>
    rw [hd, List.length_cons] at h
    dsimp only
    split
    · have := cut_le t [q]; dsimp only; omega
    · have := dropW_le valB (q :: t); rw [List.length_cons] at this; dsimp only; omega
theorem attr_le (b : UInt8) (t : List UInt8) : (attrF b t).2.length ≤ t.length := by
  have h1 := dropW_le blankB (t.dropWhile anB)
  have h2 := dropW_le anB t
  unfold attrF attrEnd
  split
  · have h3 := value_le ((t.dropWhile anB).dropWhile blankB).tail
    rw [List.length_tail] at h3
    dsimp only
    omega
  · dsimp only
    omega
theorem tagF_step (acc : List DAttr) (r : List UInt8) : tagF acc r = match r.dropWhile skipB with
    | [] => none
    | b :: t => if b = 62 then some (acc, (r.takeWhile skipB).getLast? == some 47, t) else tagF (addA acc (attrF b t).1) (attrF b t).2 := by
  rw [tagF]
  cases hd : r.dropWhile skipB with
  | nil => rfl
  | cons b t =>
    have h1 := dropW_le skipB r
    have h2 := attr_le b t
    rw [hd, List.length_cons] at h1
    dsimp only
    split
    · rfl
    · rw [dif_pos (by omega)]
theorem tagF_le {acc : List DAttr} {r : List UInt8} {x : List DAttr × Bool × List UInt8} (h : tagF acc r = some x) : x.2.2.length < r.length := by
  induction hn : r.length using Nat.strongRecOn generalizing acc r with
  | ind n ih =>
    subst hn
    rw [tagF_step] at h
    have h1 := dropW_le skipB r
    cases hd : r.dropWhile skipB with
    | nil => rw [hd] at h; cases h
    | cons b t =>
      rw [hd] at h h1
      rw [List.length_cons] at h1
      dsimp only at h
      split at h
      · cases h; dsimp only; omega
      · have h2 := attr_le b t
        have := ih _ (by omega) h rfl
        omega
theorem tagT_le {kind : Int} {r : List UInt8} {x : Tk × List UInt8} (h : tagT kind r = some x) : x.2.length < r.length := by
  unfold tagT at h
  cases ht : tagF [] (r.dropWhile tagB) with
  | none => rw [ht] at h; cases h
  | some y =>
    rw [ht] at h
    cases h
    have h1 := tagF_le ht
    have h2 := dropW_le tagB r
    dsimp only
    omega
theorem com_le (mark r : List UInt8) : (comF mark r).2.2.length ≤ r.length := cut_le r mark
theorem pre_len {r p : List UInt8} (h : Lib.hasPrefix r p = true) : p.length ≤ r.length := by
  unfold Lib.hasPrefix at h
  exact (List.isPrefixOf_iff_prefix.1 h).length_le
theorem decl_le {r : List UInt8} (h : 2 ≤ r.length) : (declF r).2.2.length < r.length := by
  unfold declF
  split
  · rename_i h4
    have := pre_len h4
    simp only [List.length_cons, List.length_nil] at this
    split
    · simp only [List.length_drop]; omega
    · split
      · simp only [List.length_drop]; omega
      · have := com_le [45, 45, 62] (r.drop 4)
        rw [List.length_drop] at this
        omega
  · split
    · have := cut_le (r.drop 9) [62]
      rw [List.length_drop] at this
      dsimp only
      omega
    · have := com_le [62] (r.drop 2)
      rw [List.length_drop] at this
      omega
theorem mark_two {r : List UInt8} (h : markF r ≠ 0) : ∃ b t, r = 60 :: b :: t := by
  match r with
  | [] => exact absurd rfl h
  | [_] => exact absurd rfl h
  | c :: b :: t =>
    by_cases hc : c = 60
    · exact ⟨b, t, by rw [hc]⟩
    · exact absurd (by rw [mark_cons]; rw [if_pos hc]) h
theorem next_le {r : List UInt8} {x : Option Tk × Bool × List UInt8} (hm : markF r ≠ 0) (h : nextF r = some x) : x.2.2.length < r.length := by
  obtain ⟨b, t, rfl⟩ := mark_two hm
  unfold nextF at h
  split at h
  · cases h; exact decl_le (by simp)
  · split at h
    · cases h
      have := com_le [62] (List.drop 1 (60 :: b :: t))
      simp only [List.drop_succ_cons, List.drop_zero, List.length_cons] at this ⊢
      omega
    · split at h
      · cases ht : tagT 1 (List.drop 1 (60 :: b :: t)) with
        | none => rw [ht] at h; cases h
        | some y =>
          rw [ht] at h
          cases h
          have := tagT_le ht
          simp only [List.drop_succ_cons, List.drop_zero, List.length_cons] at this ⊢
          omega
      · simp only [List.drop_succ_cons, List.drop_zero] at h
        cases t with
        | nil => cases h
        | cons c t =>
          dsimp only at h
          split at h
          · cases h; simp only [List.length_cons]; omega
          · split at h
            · cases ht : tagT 2 (c :: t) with
              | none => rw [ht] at h; cases h
              | some y =>
                rw [ht] at h
                cases h
                have := tagT_le ht
                simp only [List.length_cons] at this ⊢
                omega
            · cases h
              have := com_le [62] (c :: t)
              simp only [List.length_cons] at this ⊢
              omega
theorem text_split (r : List UInt8) : (textF r).1 ++ (textF r).2 = r := by
  induction r with
  | nil => rfl
  | cons b t ih =>
    unfold textF
    split
    · rw [List.cons_append, ih]
    · rfl
theorem text_le (r : List UInt8) : (textF r).2.length ≤ r.length := by
  have := congrArg List.length (text_split r)
  rw [List.length_append] at this
  omega
theorem raw_split (nm r : List UInt8) : (rawF nm r).1 ++ (rawF nm r).2 = r := by
  induction r with
  | nil => rfl
  | cons b t ih =>
    unfold rawF
    split
    · rfl
    · rw [List.cons_append, ih]
theorem raw_le (nm r : List UInt8) : (rawF nm r).2.length ≤ r.length := by
  have := congrArg List.length (raw_split nm r)
  rw [List.length_append] at this
  omega
theorem after_le (t : Option Tk) (r : List UInt8) : (afterF t r).2.length ≤ r.length := by
  unfold afterF
  split
  · have h1 := raw_le (rawOf t) r
    have h2 := text_le (rawF (rawOf t) r).2
    dsimp only
    omega
  · exact text_le r
/-- Behind a text there is a markup, or nothing. -/
theorem text_mark (r : List UInt8) : (textF r).2 = [] ∨ markF (textF r).2 ≠ 0 := by
  induction r with
  | nil => exact .inl rfl
  | cons b t ih =>
    unfold textF
    split
    · exact ih
    · rename_i h; exact .inr h
theorem after_mark (t : Option Tk) (r : List UInt8) : (afterF t r).2 = [] ∨ markF (afterF t r).2 ≠ 0 := by
  unfold afterF
  split
  · exact text_mark _
  · exact text_mark _
theorem readM_nil : readM [] = ([], none) := by rw [readM, if_pos rfl]
theorem readM_step {r : List UInt8} (hm : markF r ≠ 0) : readM r = match nextF r with
    | none => ([], none)
    | some (t, e, r2) => (putM t r.length r2.length ++ (afterF t r2).1 ++ (readM (afterF t r2).2).1, (readM (afterF t r2).2).2.or (if e = true ∧ t.isSome = true then some r2.length else none)) := by
  rw [readM, if_neg (by intro e; subst e; exact hm rfl)]
  cases hn : nextF r with
  | none => rfl
  | some x =>
    obtain ⟨t, e, r2⟩ := x
    dsimp only
    have h1 := next_le hm hn
    have h2 := after_le t r2
    dsimp only at h1
    rw [dif_pos (by omega)]
end Go.Proofs.YtbddnohbkafagaaGreatDoor
