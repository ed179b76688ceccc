/-
A node's line is read as the node (plain).
-/
import Derived.Test.YtfgmfmkibjfknaaDoorSerBack
import Derived.Test.YtfgmfmkibjfknaaDoorCopyLaw
import Derived.Lib.IndexBytes
import Derived.Lib.SlTrimSet
namespace Go.Proofs.YtfgmfmkibjfknaaDoor
open Go.RowKit Go.Cl
set_option linter.unusedSimpArgs false

theorem hexV_q (b : UInt8) : hexV (hexS.data.toList.getD (b.toNat / 16) 0) (hexS.data.toList.getD (b.toNat % 16) 0) = b := by
  have h : ∀ b : Fin 256, hexV (hexS.data.toList.getD (b.val / 16) 0) (hexS.data.toList.getD (b.val % 16) 0) = UInt8.ofNat b.val := by decide +kernel
  have h2 := h ⟨b.toNat, b.toNat_lt⟩
  rw [show UInt8.ofNat b.toNat = b from UInt8.ofNat_toNat] at h2
  exact h2
theorem unq_quote (l rest acc : List UInt8) : unqL 0 (l.flatMap qByte ++ 34 :: rest) acc = some (acc ++ l, rest) := by
  induction l generalizing acc with
  | nil => rw [List.flatMap_nil, List.nil_append, unqL, if_pos rfl, List.append_nil]
  | cons b r ih =>
    rw [List.flatMap_cons, List.append_assoc]
    by_cases hq : b.toNat < 32 ∨ 126 < b.toNat ∨ b = 34 ∨ b = 92
    · have e : qByte b = [92, hexS.data.toList.getD (b.toNat / 16) 0, hexS.data.toList.getD (b.toNat % 16) 0] := if_pos hq
      rw [e]
      show unqL 0 (92 :: hexS.data.toList.getD (b.toNat / 16) 0 :: hexS.data.toList.getD (b.toNat % 16) 0 :: (r.flatMap qByte ++ 34 :: rest)) acc = _
      rw [unqL, if_neg (by decide), if_pos ⟨rfl, by simp⟩]
      show unqL 0 (r.flatMap qByte ++ 34 :: rest) (acc ++ [hexV (hexS.data.toList.getD (b.toNat / 16) 0) (hexS.data.toList.getD (b.toNat % 16) 0)]) = _
      rw [hexV_q, ih, List.append_assoc]
      rfl
    · have e : qByte b = [b] := if_neg hq
      rw [e]
      show unqL 0 (b :: (r.flatMap qByte ++ 34 :: rest)) acc = _
      rw [unqL, if_neg (fun h => hq (Or.inr (Or.inr (Or.inl h)))), if_neg (fun h => hq (Or.inr (Or.inr (Or.inr h.1)))), ih, List.append_assoc]
      rfl
theorem unquote_quote (l rest : List UInt8) : unquoteR (quoteL l ++ rest) = (l, rest, true) := by
  have e : quoteL l ++ rest = 34 :: (l.flatMap qByte ++ 34 :: rest) := by unfold quoteL; simp
  rw [e, unquote_of (by simp) rfl]
  show (match unqL 0 (l.flatMap qByte ++ 34 :: rest) [] with
    | some (t, q) => (t, q, true)
    | none => ([], [], false)) = _
  rw [unq_quote]
  rfl
theorem quote_bytes (l : List UInt8) : ∀ b ∈ quoteL l, 32 ≤ b.toNat := fun b hb => by
  unfold quoteL at hb
  rw [List.cons_append, List.mem_cons] at hb
  rcases hb with rfl | hb
  · decide
  rcases List.mem_append.1 hb with hb | hb
  · obtain ⟨c, _, hb⟩ := List.mem_flatMap.1 hb
    unfold qByte at hb
    split at hb
    · have hx : ∀ k : Nat, k < 16 → 32 ≤ (hexS.data.toList.getD k 0).toNat := fun k hk => by
        have h : ∀ j : Fin 16, 32 ≤ (hexS.data.toList.getD j.val 0).toNat := by decide +kernel
        exact h ⟨k, hk⟩
      have hc := c.toNat_lt
      simp only [List.mem_cons, List.not_mem_nil, or_false] at hb
      rcases hb with rfl | rfl | rfl
      · decide
      · exact hx _ (by omega)
      · exact hx _ (by omega)
    · rename_i hq
      rw [List.mem_singleton.1 hb]
      omega
  · rw [List.mem_singleton.1 hb]
    decide
theorem index_at {a t : List UInt8} {c : UInt8} (h : c ∉ a) : Lib.indexByte (a ++ c :: t) c = (a.length : Int) := by
  induction a with
  | nil =>
    show (if (c == c) = true then (0 : Int) else _) = _
    rw [if_pos (by simp)]
    rfl
  | cons b r ih =>
    obtain ⟨h1, h2⟩ := not_or.1 (fun e => h (List.mem_cons.2 e))
    have := ih h2
    show (if (b == c) = true then (0 : Int) else if (Lib.indexByte (r ++ c :: t) c == -1) = true then -1 else Lib.indexByte (r ++ c :: t) c + 1) = _
    rw [if_neg (by simpa using fun e => h1 e.symm), this, if_neg (by first | (simp; done) | (simp; omega)), List.length_cons]
    omega
theorem index_not {a : List UInt8} {c : UInt8} (h : c ∉ a) : Lib.indexByte a c = -1 := by
  induction a with
  | nil => rfl
  | cons b r ih =>
    obtain ⟨h1, h2⟩ := not_or.1 (fun e => h (List.mem_cons.2 e))
    have := ih h2
    show (if (b == c) = true then (0 : Int) else if (Lib.indexByte r c == -1) = true then -1 else Lib.indexByte r c + 1) = _
    rw [if_neg (by simpa using fun e => h1 e.symm), this]
    first | rfl | decide
theorem cut_hit {a t : List UInt8} {c : UInt8} (h : c ∉ a) : Lib.cut (a ++ c :: t) [c] = (a, t, true) := by
  unfold Lib.cut
  rw [Lib.index_one, index_at h, if_pos (by omega), Int.toNat_natCast]
  show (_, List.drop (a.length + 1) _, true) = _
  rw [List.take_left', List.drop_append]
  · simp
  · rfl
theorem cut_miss {a : List UInt8} {c : UInt8} (h : c ∉ a) : Lib.cut a [c] = (a, [], false) := by
  unfold Lib.cut
  rw [Lib.index_one, index_not h, if_neg (by decide)]
theorem dw_nil {p : UInt8 → Bool} : ∀ {l : List UInt8}, l.dropWhile p = [] → ∀ x ∈ l, p x = true
  | [], _, x, hx => by cases hx
  | a :: r, h, x, hx => by
    rw [List.dropWhile_cons] at h
    split at h
    · rename_i hp
      rcases List.mem_cons.1 hx with rfl | hx
      · exact hp
      · exact dw_nil h x hx
    · cases h
theorem tw_mem {p : UInt8 → Bool} {x : UInt8} : ∀ {l : List UInt8}, x ∈ l.takeWhile p → p x = true
  | [], hx => by cases hx
  | a :: r, hx => by
    rw [List.takeWhile_cons] at hx
    split at hx
    · rename_i hp
      rcases List.mem_cons.1 hx with rfl | hx
      · exact hp
      · exact tw_mem hx
    · cases hx
theorem all_in {l cs : List UInt8} (h : (Lib.trimS l cs).isEmpty = true) : ∀ b ∈ l, b ∈ cs := fun b hb => by
  unfold Lib.trimS Lib.trimLeftS Lib.trimRightS at h
  rw [List.isEmpty_iff] at h
  have h := dw_nil h
  by_cases hc : b ∈ cs
  · exact hc
  · exfalso
    have h1 : b ∈ (l.reverse.dropWhile (cs.contains ·)).reverse := by
      rw [List.mem_reverse]
      have h2 : b ∈ l.reverse := List.mem_reverse.2 hb
      rw [← List.takeWhile_append_dropWhile (p := (cs.contains ·)) (l := l.reverse)] at h2
      rcases List.mem_append.1 h2 with h3 | h3
      · have := tw_mem h3
        exact (hc (by simpa using this)).elim
      · exact h3
    have := h b h1
    exact hc (by simpa using this)
theorem sign_byte : ∀ b ∈ signsB, b ≠ 10 ∧ b ≠ 32 ∧ b ≠ 61 ∧ b ≠ 33 ∧ b ≠ 34 := by decide
/-- What is known of a name. -/
theorem named_in {s first : ByteArray} (h : namedR s first = true) : (∀ b ∈ s.data.toList, b ∈ signsB) ∧ ∃ b r, s.data.toList = b :: r ∧ 0 ≤ Lib.indexByte first.data.toList b := by
  unfold namedR at h
  simp only [Bool.and_eq_true, decide_eq_true_eq] at h
  obtain ⟨⟨⟨h1, _⟩, h3⟩, h4⟩ := h
  refine ⟨all_in h4, ?_⟩
  have hl : s.data.toList.length = s.size := by simp
  cases hs : s.data.toList with
  | nil => rw [hs] at hl; simp at hl; omega
  | cons b r => rw [hs] at h3; exact ⟨b, r, rfl, h3⟩
theorem letter_byte (b : UInt8) (h : 0 ≤ Lib.indexByte lettersB.data.toList b) : b ≠ 33 ∧ b ≠ 34 ∧ b ≠ 45 ∧ b ≠ 32 ∧ b ≠ 10 ∧ b ≠ 126 := by
  have h1 : ∀ c : Fin 256, 0 ≤ Lib.indexByte lettersB.data.toList (UInt8.ofNat c.val) → UInt8.ofNat c.val ≠ 33 ∧ UInt8.ofNat c.val ≠ 34 ∧ UInt8.ofNat c.val ≠ 45 ∧ UInt8.ofNat c.val ≠ 32 ∧ UInt8.ofNat c.val ≠ 10 ∧ UInt8.ofNat c.val ≠ 126 := by decide +kernel
  have h2 := h1 ⟨b.toNat, b.toNat_lt⟩
  rw [show UInt8.ofNat b.toNat = b from UInt8.ofNat_toNat] at h2
  exact h2 h
theorem bytesOf_self (a : ByteArray) : bytesOf a.data.toList = a := rfl
/-- Attributes are read. -/
theorem attrs_read : ∀ (ats : List DAttr) (f : Nat), (∀ a ∈ ats, namedR a.1 attrB = true) → ats.length < f → attrsG f (Lib.cut (ats.flatMap attrL) [32]).2.1 (Lib.cut (ats.flatMap attrL) [32]).2.2 = ats
  | [], f, _, hf => by
    rw [List.flatMap_nil, cut_miss (by simp)]
    cases f <;> rfl
  | a :: r, f, hn, hf => by
    obtain ⟨f, rfl⟩ : ∃ g, f = g + 1 := ⟨f - 1, by simp at hf; omega⟩
    have hin := (named_in (hn a (by simp))).1
    have e : (a :: r).flatMap attrL = [] ++ 32 :: (a.1.data.toList ++ 61 :: (quoteL a.2.data.toList ++ r.flatMap attrL)) := by
      rw [List.flatMap_cons]
      unfold attrL
      simp
    rw [e, cut_hit (by simp)]
    have hc : Lib.cut (a.1.data.toList ++ 61 :: (quoteL a.2.data.toList ++ r.flatMap attrL)) [61] = (a.1.data.toList, quoteL a.2.data.toList ++ r.flatMap attrL, true) := cut_hit fun h => (sign_byte _ (hin _ h)).2.2.1 rfl
    show attrsG (f + 1) (a.1.data.toList ++ 61 :: (quoteL a.2.data.toList ++ r.flatMap attrL)) true = _
    rw [attrsG, hc]
    dsimp only
    rw [unquote_quote]
    dsimp only
    rw [attrs_read r f (fun b hb => hn b (by simp [hb])) (by simp at hf; omega), bytesOf_self, bytesOf_self]
theorem attrs_len (ats : List DAttr) : ats.length ≤ (ats.flatMap attrL).length := by
  induction ats with
  | nil => exact Nat.le_refl _
  | cons a r ih =>
    rw [List.flatMap_cons, List.length_append, List.length_cons]
    have : 1 ≤ (attrL a).length := by
      unfold attrL
      simp only [List.length_append, List.length_cons, List.length_nil]
      omega
    omega
/-- A node as its line tells it. -/
def bareN (x : Nd) : Nd := { x with parent := 0, kids := [] }
theorem empty_of {s : ByteArray} (h : s.toList.isEmpty = true) : s = ⟨#[]⟩ := by
  rw [ByteArray.toList_eq, List.isEmpty_iff] at h
  exact bytes_ext2 h
theorem pre_one {a : UInt8} {r : List UInt8} {c : UInt8} : Lib.hasPrefix (a :: r) [c] = (c == a) := by
  show List.isPrefixOf [c] (a :: r) = _
  simp [List.isPrefixOf]
theorem node_line {x : Nd} (h : nodeE x = 0) (h1 : x.kind ≠ 1) : nodeR (lineL x) = bareN x := by
  obtain ⟨⟨k1, k5, hb⟩, hn, ha, _, _⟩ := (nodeE_iff x).1 h
  unfold bareB at hb
  simp only [Bool.and_eq_true, Bool.or_eq_true, beq_iff_eq] at hb
  obtain ⟨⟨⟨hb1, hb2⟩, hb3⟩, _⟩ := hb
  obtain ⟨kd, nm, ats, tx, pa, ks⟩ := x
  dsimp only at *
  have hq : ∀ l : List UInt8, unquoteR (quoteL l) = (l, [], true) := fun l => by have := unquote_quote l []; rwa [List.append_nil] at this
  have hats : kd ≠ 2 → ats = [] := fun h => by rcases hb2 with e | e; exact (h e).elim; exact List.isEmpty_iff.1 e
  by_cases h5 : kd = 5
  · subst h5
    have ea := hats (by decide)
    have et : tx = ⟨#[]⟩ := empty_of (by rcases hb3 with e | e; · rcases e with e | e <;> cases e
                                         · exact e)
    subst ea et
    show nodeR (33 :: quoteL nm.data.toList) = _
    unfold nodeR
    rw [pre_one, if_pos (by decide)]
    show (⟨5, bytesOf (unquoteR (quoteL nm.data.toList)).1, [], ⟨#[]⟩, 0, []⟩ : Nd) = _
    rw [hq, bytesOf_self]
    rfl
  by_cases h3 : kd = 3
  · subst h3
    have ea := hats (by decide)
    have en : nm = ⟨#[]⟩ := empty_of (by rcases hb1 with e | e; · rcases e with e | e <;> cases e
                                         · exact e)
    subst ea en
    show nodeR (quoteL tx.data.toList) = _
    unfold nodeR
    rw [show quoteL tx.data.toList = 34 :: (tx.data.toList.flatMap qByte ++ [34]) from rfl, pre_one, if_neg (by decide), pre_one, if_pos (by decide), ← show quoteL tx.data.toList = 34 :: (tx.data.toList.flatMap qByte ++ [34]) from rfl, hq, bytesOf_self]
    rfl
  by_cases h4 : kd = 4
  · subst h4
    have ea := hats (by decide)
    have en : nm = ⟨#[]⟩ := empty_of (by rcases hb1 with e | e; · rcases e with e | e <;> cases e
                                         · exact e)
    subst ea en
    show nodeR (45 :: quoteL tx.data.toList) = _
    unfold nodeR
    rw [pre_one, if_neg (by decide), pre_one, if_neg (by decide), pre_one, if_pos (by decide)]
    show (⟨4, ⟨#[]⟩, [], bytesOf (unquoteR (quoteL tx.data.toList)).1, 0, []⟩ : Nd) = _
    rw [hq, bytesOf_self]
    rfl
  have h2 : kd = 2 := by omega
  subst h2
  have et : tx = ⟨#[]⟩ := empty_of (by rcases hb3 with e | e; · rcases e with e | e <;> cases e
                                       · exact e)
  subst et
  obtain ⟨hin, b, r, hbr, hlet⟩ := named_in (hn rfl)
  have hlb := letter_byte b hlet
  show nodeR (nm.data.toList ++ ats.flatMap attrL) = _
  have hc1 : (Lib.cut (nm.data.toList ++ ats.flatMap attrL) [32]) = (nm.data.toList, (Lib.cut (ats.flatMap attrL) [32]).2.1, (Lib.cut (ats.flatMap attrL) [32]).2.2) := by
    have hno : (32 : UInt8) ∉ nm.data.toList := fun h => (sign_byte _ (hin _ h)).2.1 rfl
    cases ats with
    | nil => rw [List.flatMap_nil, List.append_nil, cut_miss hno, cut_miss (by simp)]
    | cons a bs =>
      have e : (a :: bs).flatMap attrL = [] ++ 32 :: (a.1.data.toList ++ 61 :: (quoteL a.2.data.toList ++ bs.flatMap attrL)) := by
        rw [List.flatMap_cons]
        unfold attrL
        simp
      rw [e, cut_hit (a := []) (by simp), List.nil_append, cut_hit hno]
  unfold nodeR
  have hp : ∀ c : UInt8, c ≠ b → ¬ (Lib.hasPrefix (nm.data.toList ++ ats.flatMap attrL) [c] = true) := fun c hcb => by
    rw [hbr, List.cons_append, pre_one]
    simpa using hcb
  rw [if_neg (hp 33 (fun e => hlb.1 e.symm)), if_neg (hp 34 (fun e => hlb.2.1 e.symm)), if_neg (hp 45 (fun e => hlb.2.2.1 e.symm)), hc1]
  dsimp only
  rw [attrs_read ats _ (fun a h => (ha.each a h).1) (by rw [List.length_append]; have := attrs_len ats; omega), bytesOf_self]
  rfl
/-- A line has no sign 10 and begins with no blank. -/
theorem line_bytes {x : Nd} (h : nodeE x = 0) (h1 : x.kind ≠ 1) : (10 : UInt8) ∉ lineL x ∧ ∃ b r, lineL x = b :: r ∧ b ≠ 32 ∧ b ≠ 126 := by
  obtain ⟨⟨k1, k5, _⟩, hn, ha, _, _⟩ := (nodeE_iff x).1 h
  have hq : ∀ l : List UInt8, (10 : UInt8) ∉ quoteL l := fun l hm => absurd (quote_bytes l _ hm) (by decide)
  unfold lineL
  by_cases h5 : x.kind = 5
  · rw [if_pos h5]
    refine ⟨fun hm => ?_, _, _, rfl, by decide, by decide⟩
    rcases List.mem_cons.1 hm with e | hm
    · exact absurd e (by decide)
    · exact hq _ hm
  rw [if_neg h5]
  by_cases h3 : x.kind = 3
  · rw [if_pos h3]
    exact ⟨hq _, _, _, rfl, by decide, by decide⟩
  rw [if_neg h3]
  by_cases h4 : x.kind = 4
  · rw [if_pos h4]
    refine ⟨fun hm => ?_, _, _, rfl, by decide, by decide⟩
    rcases List.mem_cons.1 hm with e | hm
    · exact absurd e (by decide)
    · exact hq _ hm
  rw [if_neg h4]
  obtain ⟨hin, b, r, hbr, hlet⟩ := named_in (hn (by omega))
  have hlb := letter_byte b hlet
  refine ⟨fun hm => ?_, b, r ++ x.attrs.flatMap attrL, by rw [hbr]; rfl, hlb.2.2.2.1, hlb.2.2.2.2.2⟩
  rcases List.mem_append.1 hm with hm | hm
  · exact (sign_byte _ (hin _ hm)).1 rfl
  · obtain ⟨a, haa, hm⟩ := List.mem_flatMap.1 hm
    unfold attrL at hm
    rcases List.mem_append.1 hm with hm | hm
    · rcases List.mem_append.1 hm with hm | hm
      · rcases List.mem_append.1 hm with hm | hm
        · exact absurd (List.mem_singleton.1 hm) (by decide)
        · exact (sign_byte _ ((named_in (ha.each a haa).1).1 _ hm)).1 rfl
      · exact absurd (List.mem_singleton.1 hm) (by decide)
    · exact hq _ hm
end Go.Proofs.YtfgmfmkibjfknaaDoor

/-
A document as serial.Back numbers it: a node's place in the order is its number (plain).
-/
namespace Go.Proofs.YtfgmfmkibjfknaaDoor
open Go.RowKit Go.Cl
set_option linter.unusedVariables false

/-- The number of a node that is read. -/
def bkN (l : List Nd) (k : Int) : Nat := (Lib.idxOf (preR l (0 : Nat)) k).toNat
/-- A node that has been read, as far as one has come. -/
def bkNode (l : List Nd) (i : Nat) (k : Int) : Nd :=
  { nodeD l k with parent := if k = 0 then -1 else (bkN l (parD l k) : Nat), kids := (((preR l (0 : Nat)).take i).tail.filter (fun z => parD l z == k)).map fun z => ((bkN l z : Nat) : Int) }
structure BkOk (l : List Nd) (i : Nat) (c : List Nd) : Prop where
  len : c.length = i
  new : ∀ (j : Nat) k, j < i → (preR l (0 : Nat))[j]? = some k → c[j]? = some (bkNode l i k)
theorem Tree.bkN_at {l : List Nd} (T : Tree l) {j : Nat} {k : Int} (h : (preR l (0 : Nat))[j]? = some k) : bkN l k = j := by
  unfold bkN
  rw [idx_uniq (T.pre_nodup T.pos) h, Int.toNat_natCast]
theorem Tree.head0 {l : List Nd} (T : Tree l) : (preR l (0 : Nat))[0]? = some 0 := by rw [T.pre_step T.pos]; rfl
theorem Tree.bk_one {l : List Nd} (T : Tree l) (h : nodeD l 0 = { rootN with kids := (nodeD l 0).kids, parent := (nodeD l 0).parent }) : BkOk l 1 [rootN] := by
  refine ⟨rfl, fun j k hj hk => ?_⟩
  obtain rfl : j = 0 := by omega
  rw [T.head0] at hk
  obtain rfl := Option.some.inj hk
  show some rootN = some _
  congr 1
  have e : (preR l (0 : Nat)).take 1 = [0] := by rw [T.pre_step T.pos]; rfl
  unfold bkNode
  rw [e, h]
  rfl
theorem Tree.bk_step {l : List Nd} (T : Tree l) {i : Nat} {k : Int} {out : List Nd} (hi0 : 0 < i) (hk : (preR l (0 : Nat))[i]? = some k) (C : BkOk l i out) :
    bkN l (parD l k) < i ∧ BkOk l (i + 1) (addN out (bkN l (parD l k)) (bareN (nodeD l k))) := by
  have hn := T.pos
  have hkn : k ≠ 0 := fun e => by
    subst e
    have h1 := idx_uniq (T.pre_nodup hn) hk
    have h2 := idx_uniq (T.pre_nodup hn) T.head0
    omega
  have hnk := T.bkN_at hk
  have tk : (preR l (0 : Nat)).take (i + 1) = (preR l (0 : Nat)).take i ++ [k] := take_snoc hk
  have ttail : ((preR l (0 : Nat)).take (i + 1)).tail = ((preR l (0 : Nat)).take i).tail ++ [k] := by
    rw [tk]
    cases hq : (preR l (0 : Nat)).take i with
    | nil =>
      have h1 := congrArg List.length hq
      have := (List.getElem?_eq_some_iff.1 hk).1
      rw [List.length_take, List.length_nil] at h1
      omega
    | cons a r => rfl
  obtain ⟨jp, hjp, hp⟩ := T.pre_parent _ 0 hn (T.fuel hn) i k hi0 hk
  have hpn := T.bkN_at hp
  have hy := C.new jp _ hjp hp
  rw [hpn]
  refine ⟨hjp, ?_⟩
  rw [addN_at _ hy]
  refine ⟨by rw [List.length_append, List.length_set, C.len]; rfl, fun j k' hj hk' => ?_⟩
  by_cases hji : j = i
  · subst hji
    rw [hk] at hk'
    obtain rfl := Option.some.inj hk'
    rw [List.getElem?_append_right (by rw [List.length_set, C.len]; omega), List.length_set, C.len, Nat.sub_self]
    show some _ = some _
    congr 1
    unfold bkNode
    rw [if_neg hkn]
    have hno : ((preR l (0 : Nat)).take (j + 1)).tail.filter (fun z => parD l z == k) = [] := List.filter_eq_nil_iff.2 fun w hw hwk => by
      rw [ttail] at hw
      have hpar : parD l w = k := eq_of_beq hwk
      have hcase : ∃ i2, 0 < i2 ∧ i2 ≤ j ∧ (preR l (0 : Nat))[i2]? = some w := by
        rcases List.mem_append.1 hw with hw | hw
        · obtain ⟨i3, h3⟩ := List.mem_iff_getElem?.1 hw
          rw [List.getElem?_tail] at h3
          have h4 : i3 + 1 < j := by
            have := (List.getElem?_eq_some_iff.1 h3).1
            rw [List.length_take] at this
            omega
          rw [List.getElem?_take_of_lt h4] at h3
          exact ⟨i3 + 1, by omega, by omega, h3⟩
        · obtain rfl := List.mem_singleton.1 hw
          exact ⟨j, hi0, Nat.le_refl _, hk⟩
      obtain ⟨i2, h5, h6, h7⟩ := hcase
      obtain ⟨j2, h8, h9⟩ := T.pre_parent _ 0 hn (T.fuel hn) i2 w h5 h7
      rw [hpar] at h9
      have h10 := idx_uniq (T.pre_nodup hn) h9
      have h11 := idx_uniq (T.pre_nodup hn) hk
      omega
    rw [hno, hpn]
    rfl
  · have hj2 : j < i := by omega
    rw [List.getElem?_append_left (by rw [List.length_set, C.len]; omega)]
    have hold := C.new j k' hj2 hk'
    by_cases hjj : j = jp
    · subst hjj
      rw [hp] at hk'
      obtain rfl := Option.some.inj hk'
      rw [List.getElem?_set_self (by rw [C.len]; omega)]
      congr 1
      unfold bkNode
      rw [ttail, List.filter_append, List.map_append]
      have : [k].filter (fun z => parD l z == parD l k) = [k] := by simp
      rw [this, C.len, List.map_cons, hnk]
      rfl
    · rw [List.getElem?_set_ne (by omega), hold]
      congr 1
      unfold bkNode
      rw [ttail, List.filter_append]
      have hne : (parD l k == k') = false := by
        rw [beq_eq_false_iff_ne]
        rintro rfl
        have h10 := idx_uniq (T.pre_nodup hn) hp
        have h11 := idx_uniq (T.pre_nodup hn) hk'
        omega
      have : [k].filter (fun z => parD l z == k') = [] := by simp [hne]
      rw [this, List.append_nil]
end Go.Proofs.YtfgmfmkibjfknaaDoor

/-
What serial.Back has numbered is a document that is right, and like what was told (plain).
-/
namespace Go.Proofs.YtfgmfmkibjfknaaDoor
open Go.RowKit Go.Cl
set_option linter.unusedVariables false

structure Bk (l : List Nd) (c : List Nd) : Prop where
  len : c.length = (preR l (0 : Nat)).length
  new : ∀ (k : Nat) x, (k : Int) ∈ preR l (0 : Nat) → l[k]? = some x → c[bkN l k]? = some { x with parent := if k = 0 then -1 else (bkN l x.parent : Nat), kids := x.kids.map fun z => ((bkN l z : Nat) : Int) }
  num : ∀ j, j < c.length → ∃ k : Nat, (k : Int) ∈ preR l (0 : Nat) ∧ k < l.length ∧ j = bkN l k
theorem Tree.bk_end {l : List Nd} (T : Tree l) {c : List Nd} (C : BkOk l (preR l (0 : Nat)).length c) : Bk l c := by
  have hn := T.pos
  refine ⟨C.len, fun k x hk hx => ?_, fun j h2 => ?_⟩
  · obtain ⟨j, hj⟩ := List.mem_iff_getElem?.1 hk
    have hjl := (List.getElem?_eq_some_iff.1 hj).1
    rw [T.bkN_at hj, C.new j k hjl hj]
    congr 1
    unfold bkNode
    have hnd : nodeD l k = x := by unfold nodeD; rw [Int.toNat_natCast, hx]; rfl
    have hf := T.tail_kids _ 0 hn (T.fuel hn) k hk
    rw [List.take_length, hf, hnd, kidsD_at hx, parD_at hx]
    by_cases h : k = 0
    · rw [if_pos (by rw [h]; rfl), if_pos h]
    · rw [if_neg (by omega), if_neg h]
  · obtain ⟨z, hz⟩ := get_some (l := preR l (0 : Nat)) (k := j) (by have := C.len; omega)
    obtain ⟨k, rfl, hk⟩ := T.pre_in hn (List.mem_of_getElem? hz)
    exact ⟨k, List.mem_of_getElem? hz, hk, by rw [T.bkN_at hz]⟩
theorem Tree.bkN_inj {l : List Nd} (T : Tree l) {x y : Int} (hx : x ∈ preR l (0 : Nat)) (hy : y ∈ preR l (0 : Nat)) (h : bkN l x = bkN l y) : x = y := by
  obtain ⟨i, hi⟩ := List.mem_iff_getElem?.1 hx
  obtain ⟨j, hj⟩ := List.mem_iff_getElem?.1 hy
  rw [T.bkN_at hi, T.bkN_at hj] at h
  have : i = j := by omega
  subst this
  rw [hi] at hj
  exact Option.some.inj hj
theorem Tree.bkN_zero {l : List Nd} (T : Tree l) : bkN l (0 : Nat) = 0 := T.bkN_at T.head0
theorem Tree.in0 {l : List Nd} (T : Tree l) : ((0 : Nat) : Int) ∈ preR l (0 : Nat) := T.self_in T.pos
theorem Tree.up0 {l : List Nd} (T : Tree l) : upN l ((0 : Nat) : Int) = 0 := by
  obtain ⟨x, hx⟩ := get_some T.pos
  have hr := T.root
  rw [show (0 : Int) = ((0 : Nat) : Int) from rfl, parD_at hx] at hr
  unfold upN
  exact upF_stop hx (by omega)
theorem bk_good {l : List Nd} (G : Good l) {c : List Nd} (C : Bk l c) : Good c := by
  have T := tree_of (check_of G)
  have hn := T.pos
  have h00 := T.bkN_zero
  have split : ∀ (j : Nat) z, c[j]? = some z → ∃ (k : Nat) (x : Nd), (k : Int) ∈ preR l (0 : Nat) ∧ l[k]? = some x ∧ j = bkN l k ∧ z = { x with parent := if k = 0 then -1 else (bkN l x.parent : Nat), kids := x.kids.map fun z => ((bkN l z : Nat) : Int) } := fun j z hz => by
    obtain ⟨k, hk, hkl, e⟩ := C.num j (List.getElem?_eq_some_iff.1 hz).1
    obtain ⟨x, hx⟩ := get_some hkl
    refine ⟨k, x, hk, hx, e, ?_⟩
    rw [e, C.new k x hk hx] at hz
    exact (Option.some.inj hz).symm
  have zero : ∀ k : Nat, (k : Int) ∈ preR l (0 : Nat) → (bkN l k = 0 ↔ k = 0) := fun k hk => by
    constructor
    · intro h
      have := T.bkN_inj hk T.in0 (by rw [h, h00])
      omega
    · rintro rfl; exact h00
  refine ⟨by rw [C.len]; exact Nat.le_trans (pre_short T hn) G.small, by rw [C.len, T.pre_step hn]; simp, fun j z hz => ?_, fun z hz => ?_, ⟨fun j z hz => ?_, fun j z hz hp => ?_, fun z hz => ?_⟩, fun j hj => ?_⟩
  · obtain ⟨k, x, hk, hx, e, rfl⟩ := split j z hz
    rw [e, zero k hk]
    exact G.root k x hx
  · obtain ⟨j, hj⟩ := List.mem_iff_getElem?.1 hz
    obtain ⟨k, x, hk, hx, e, rfl⟩ := split j z hj
    exact nodeE_kids (G.each x (List.mem_of_getElem? hx)) _ (Or.inr fun e => by rw [e]; rfl) _
  · obtain ⟨k, x, hk, hx, e, rfl⟩ := split j z hz
    have hkl := (List.getElem?_eq_some_iff.1 hx).1
    have hin : ∀ q ∈ x.kids, q ∈ preR l (0 : Nat) := fun q hq => T.kid_in hn hk (by rw [kidsD_at hx]; exact hq)
    obtain ⟨h1, h2⟩ := G.kr.kids k x hx
    refine ⟨?_, fun q hq => ?_⟩
    · refine List.Pairwise.map _ (fun a b hab h => ?_) (List.Pairwise.imp_of_mem (fun {a b} ha hb hab => (⟨ha, hb, hab⟩ : a ∈ x.kids ∧ b ∈ x.kids ∧ a ≠ b)) h1)
      exact hab.2.2 (T.bkN_inj (hin a hab.1) (hin b hab.2.1) (by omega))
    · obtain ⟨z, hz, rfl⟩ := List.mem_map.1 hq
      obtain ⟨m, y, e2, hy, hpar, h3⟩ := h2 z hz
      subst e2
      have hmn : m ≠ 0 := T.par_not hn hk hkl (by rw [kidsD_at hx]; exact hz)
      refine ⟨_, _, rfl, C.new m y (hin _ hz) hy, ?_, fun hh => ?_⟩
      · show (if m = 0 then (-1 : Int) else (bkN l y.parent : Nat)) = _
        rw [if_neg hmn, hpar, e]
      · exact h3 ⟨(zero k hk).1 (e.symm.trans hh.1), hh.2⟩
  · obtain ⟨k, x, hk, hx, e, rfl⟩ := split j z hz
    have hkl := (List.getElem?_eq_some_iff.1 hx).1
    by_cases hkn : k = 0
    · exact absurd (if_pos hkn) hp
    · have hpi := T.par_in hn hk hkn
      rw [parD_at hx] at hpi
      obtain ⟨p, e2, hpl⟩ := T.pre_in hn hpi
      obtain ⟨y, hy⟩ := get_some hpl
      rw [e2] at hpi
      refine ⟨_, _, C.new p y hpi hy, ?_⟩
      have hmem : (k : Int) ∈ y.kids := by
        rcases T.par hkl with h1 | ⟨p', h1, _, h2⟩
        · rw [parD_at hx] at h1; omega
        · rw [parD_at hx, e2] at h1
          have : p = p' := by omega
          subst this
          rw [kidsD_at hy] at h2
          exact h2
      rw [e]
      exact List.mem_map.2 ⟨k, hmem, rfl⟩
  · obtain ⟨k, x, hk, hx, e, rfl⟩ := split 0 z hz
    exact if_pos ((zero k hk).1 e.symm)
  · obtain ⟨k, hk, hkl, e⟩ := C.num j hj
    have key : ∀ (f k : Nat), upN l k < f → (k : Int) ∈ preR l (0 : Nat) → k < l.length → Up c (bkN l k : Nat) (upN l k) := by
      intro f
      induction f with
      | zero => intro k h; omega
      | succ f ih =>
        intro k hf hk hkl
        obtain ⟨x, hx⟩ := get_some hkl
        have hc := C.new k x hk hx
        by_cases hkn : k = 0
        · subst hkn
          rw [T.up0]
          refine Up.top ?_
          rw [parD_at hc]
          show (if (0 : Nat) = 0 then (-1 : Int) else (bkN l x.parent : Nat)) < 0
          rw [if_pos rfl]; decide
        · have hpi := T.par_in hn hk hkn
          obtain ⟨p, e2, hpl⟩ := T.pre_in hn hpi
          have h1 := (T.up_par hkl e2).2
          rw [e2] at hpi
          rw [h1]
          rw [parD_at hx] at e2
          have hp2 : parD c (bkN l k : Nat) = (bkN l p : Nat) := by
            rw [parD_at hc]
            show (if k = 0 then (-1 : Int) else (bkN l x.parent : Nat)) = _
            rw [if_neg hkn, e2]
          refine Up.step (by rw [hp2]; omega) ?_
          rw [hp2]
          exact ih p (by omega) hpi hpl
    exact ⟨_, (T.deep k hkl).1, by rw [e]; exact key _ k (Nat.lt_succ_self _) hk hkl⟩
theorem bk_like {l : List Nd} (G : Good l) {c : List Nd} (C : Bk l c) (f : Nat) : ∀ k : Nat, (k : Int) ∈ preR l (0 : Nat) → k < l.length → upN l k + f = 41 → Like c l f (bkN l k) k ∧ Like l c f k (bkN l k) := by
  have T := tree_of (check_of G)
  have hn := T.pos
  induction f with
  | zero => intro k _ hk h; have := (T.deep k hk).1; omega
  | succ f ih =>
    intro k hk hkl hf
    obtain ⟨x, hx⟩ := get_some hkl
    have hc := C.new k x hk hx
    have hkid : ∀ (i : Nat) (z : Int), x.kids[i]? = some z → ∃ q : Nat, z = (q : Int) ∧ (q : Int) ∈ preR l (0 : Nat) ∧ q < l.length ∧ upN l q + f = 41 := fun i z hz => by
      obtain ⟨q, e, hq, hp⟩ := T.kid hkl (by rw [kidsD_at hx]; exact List.mem_of_getElem? hz)
      have h1 := (T.up_par hq hp).2
      exact ⟨q, e, by rw [← e]; exact T.kid_in hn hk (by rw [kidsD_at hx]; exact List.mem_of_getElem? hz), hq, by omega⟩
    constructor
    · refine ⟨_, x, hc, hx, rfl, rfl, rfl, rfl, by simp, fun i p q hp hq => ?_⟩
      obtain ⟨q', rfl, hin, hql, hfq⟩ := hkid i q hq
      rw [List.getElem?_map, hq] at hp
      obtain rfl := Option.some.inj hp
      exact ⟨_, _, rfl, rfl, (ih q' hin hql hfq).1⟩
    · refine ⟨x, _, hx, hc, rfl, rfl, rfl, rfl, by simp, fun i p q hp hq => ?_⟩
      obtain ⟨p', rfl, hin, hpl, hfp⟩ := hkid i p hp
      rw [List.getElem?_map, hp] at hq
      obtain rfl := Option.some.inj hq
      exact ⟨_, _, rfl, rfl, (ih p' hin hpl hfp).2⟩
/-- Trees that are alike are told alike. -/
theorem like_lines {a b : List Nd} (f : Nat) : ∀ (n m dp : Nat), Like a b f n m → linesF a f dp n = linesF b f dp m ∧ lineK a n = lineK b m := by
  induction f with
  | zero => intro n m dp h; exact h.elim
  | succ f ih =>
    intro n m dp h
    obtain ⟨x, y, hx, hy, h1, h2, h3, h4, h5, hk⟩ := h
    constructor
    · show (kidsD a n).flatMap _ = (kidsD b m).flatMap _
      rw [kidsD_at hx, kidsD_at hy]
      have key : ∀ (ks js : List Int), js.length = ks.length → (∀ (i : Nat) (p q : Int), ks[i]? = some p → js[i]? = some q → ∃ p' q' : Nat, p = (p' : Int) ∧ q = (q' : Int) ∧ Like a b f p' q') →
          ks.flatMap (fun k => List.replicate dp 32 ++ lineK a k ++ [10] ++ linesF a f (dp + 1) k) = js.flatMap (fun k => List.replicate dp 32 ++ lineK b k ++ [10] ++ linesF b f (dp + 1) k) := by
        intro ks
        induction ks with
        | nil =>
          intro js hl _
          obtain rfl := List.eq_nil_of_length_eq_zero hl
          rfl
        | cons p r ih2 =>
          intro js hl hall
          cases js with
          | nil => cases hl
          | cons q s =>
            obtain ⟨p', q', rfl, rfl, hlk⟩ := hall 0 p q rfl rfl
            obtain ⟨e1, e2⟩ := ih p' q' (dp + 1) hlk
            rw [List.flatMap_cons, List.flatMap_cons, ih2 s (by simpa using hl) (fun i u v hu hv => hall (i + 1) u v hu hv), e1, e2]
      exact key x.kids y.kids h5 hk
    · unfold lineK
      rw [nodeAt_nat, hx, nodeAt_nat, hy]
      show lineL x = lineL y
      unfold lineL
      rw [h1, h2, h3, h4]
end Go.Proofs.YtfgmfmkibjfknaaDoor

/-
What a document's lines tell is read again (plain).
-/
namespace Go.Proofs.YtfgmfmkibjfknaaDoor
open Go.RowKit Go.Cl
set_option linter.unusedVariables false

/-- The reading, with as much fuel as it wants. -/
def bk (r : List UInt8) (out : List Nd) (path : List Int) : Option (List Nd) := backF (203 - out.length) r out path
theorem bk_nil (out : List Nd) (path : List Int) : bk [] out path = some out := by
  unfold bk
  cases 203 - out.length with
  | zero => rfl
  | succ f =>
    show (if _ then _ else _) = _
    rw [if_neg (fun h => h.1 rfl)]
theorem trim_line (d : Nat) {b : UInt8} {r : List UInt8} (hb : b ≠ 32) : Lib.trimLeftB (List.replicate d 32 ++ b :: r) 32 = b :: r := by
  unfold Lib.trimLeftB
  induction d with
  | zero =>
    show List.dropWhile _ (b :: r) = _
    rw [List.dropWhile_cons, if_neg (by simpa using hb)]
  | succ d ih =>
    show List.dropWhile _ (32 :: (List.replicate d 32 ++ b :: r)) = _
    rw [List.dropWhile_cons, if_pos (by simp)]
    exact ih
/-- One line. -/
theorem bk_line {x : Nd} (hx : nodeE x = 0) (h1 : x.kind ≠ 1) (d m : Nat) (rest : List UInt8) {out : List Nd} {path : List Int} (hl : out.length ≤ 200) (hm : m < out.length) (hp : path[d]? = some (m : Int)) :
    bk (List.replicate d 32 ++ lineL x ++ [10] ++ rest) out path = bk rest (addN out m (bareN x)) (path.take (d + 1) ++ [(out.length : Int)]) := by
  obtain ⟨hno, b, r, hbr, hb32, _⟩ := line_bytes hx h1
  have hlen : (addN out m (bareN x)).length = out.length + 1 := by
    obtain ⟨y, hy⟩ := get_some hm
    rw [addN_at _ hy, List.length_append, List.length_set]
    rfl
  have hcut : Lib.cut (List.replicate d 32 ++ lineL x ++ [10] ++ rest) [10] = (List.replicate d 32 ++ lineL x, rest, true) := by
    rw [List.append_assoc _ [10] rest]
    refine cut_hit fun hm => ?_
    rcases List.mem_append.1 hm with hm | hm
    · exact absurd (List.eq_of_mem_replicate hm) (by decide)
    · exact hno hm
  have htr : Lib.trimLeftB (List.replicate d 32 ++ lineL x) 32 = lineL x := by rw [hbr]; exact trim_line d hb32
  have hdl : (List.replicate d (32 : UInt8) ++ lineL x).length - (lineL x).length = d := by rw [List.length_append, List.length_replicate]; omega
  unfold bk
  rw [hlen, show 203 - out.length = (203 - (out.length + 1)) + 1 from by omega]
  show (if _ then _ else _) = _
  rw [if_pos ⟨by rw [hbr]; simp, hl⟩, hcut]
  dsimp only
  rw [htr, hdl, hp]
  dsimp only
  rw [Int.toNat_natCast, node_line hx h1]
theorem pre_seg {P A B : List Int} {i : Nat} (h : P.drop i = A ++ B) : ∀ (j : Nat) z, A[j]? = some z → P[i + j]? = some z := fun j z hz => by
  have h1 : (P.drop i)[j]? = some z := by
    rw [h, List.getElem?_append_left (List.getElem?_eq_some_iff.1 hz).1]
    exact hz
  rwa [List.getElem?_drop] at h1
theorem pre_seg_next {P A B : List Int} {i : Nat} (h : P.drop i = A ++ B) : P.drop (i + A.length) = B := by
  rw [← List.drop_drop, h, List.drop_left]
theorem preR_pos {l : List Nd} (T : Tree l) {k : Nat} (hk : k < l.length) : 0 < (preR l k).length := by rw [T.pre_step hk]; simp
/-- What is told of kids is read, each of them read as it should be. -/
def ReadsKid (l : List Nd) (f : Nat) : Prop := ∀ (k : Nat) (x : Nd) (i d : Nat) (out : List Nd) (path : List Int) (rest : List UInt8) (post : List Int), l[k]? = some x → upN l k + f = 41 → k ≠ 0 →
  (preR l (0 : Nat)).drop i = preR l k ++ post → 0 < i → BkOk l i out → path[d]? = some (bkN l (parD l k) : Int) → i + (preR l k).length ≤ 201 →
  ∃ out' path', bk (List.replicate d 32 ++ lineL x ++ [10] ++ linesF l f (d + 1) k ++ rest) out path = bk rest out' path' ∧ BkOk l (i + (preR l k).length) out' ∧ path'.take (d + 1) = path.take (d + 1)
theorem take_get {p q : List Int} {d : Nat} (h : p.take (d + 1) = q.take (d + 1)) : p[d]? = q[d]? := by
  rw [← List.getElem?_take_of_lt (Nat.lt_succ_self d), h, List.getElem?_take_of_lt (Nat.lt_succ_self d)]
theorem read_kids {l : List Nd} (G : Good l) (T : Tree l) (f : Nat) (hR : ReadsKid l f) {m : Nat} (hm : m < l.length) (hf : upN l m + (f + 1) = 41) (rest : List UInt8) (post : List Int) : ∀ (ks : List Int), (∀ z ∈ ks, z ∈ kidsD l m) → ∀ (i d : Nat) (out : List Nd) (path : List Int),
    (preR l (0 : Nat)).drop i = ks.flatMap (preR l) ++ post → 0 < i → BkOk l i out → path[d]? = some (bkN l m : Int) → i + (ks.flatMap (preR l)).length ≤ 201 →
    ∃ out' path', bk (ks.flatMap (fun k => List.replicate d 32 ++ lineK l k ++ [10] ++ linesF l f (d + 1) k) ++ rest) out path = bk rest out' path' ∧ BkOk l (i + (ks.flatMap (preR l)).length) out' ∧ path'.take (d + 1) = path.take (d + 1) := by
  intro ks
  induction ks with
  | nil =>
    intro _ i d out path _ _ C _ _
    exact ⟨out, path, rfl, by simpa using C, rfl⟩
  | cons z r ih =>
    intro hin i d out path hseg hi C hp hle
    obtain ⟨k, rfl, hk, hpar⟩ := T.kid hm (hin z (by simp))
    obtain ⟨x, hx⟩ := get_some hk
    have hup := (T.up_par hk hpar).2
    rw [List.flatMap_cons, List.append_assoc] at hseg
    rw [List.flatMap_cons, List.length_append] at hle
    have hk0 : k ≠ 0 := fun e => by
      subst e
      rw [T.up0] at hup
      omega
    have hlk : lineK l (k : Int) = lineL x := by unfold lineK; rw [nodeAt_nat, hx]
    obtain ⟨o1, p1, e1, C1, t1⟩ := hR k x i d out path ((r.flatMap fun k => List.replicate d 32 ++ lineK l k ++ [10] ++ linesF l f (d + 1) k) ++ rest) (r.flatMap (preR l) ++ post) hx (by omega) hk0 hseg hi C (by rw [hpar]; exact hp) (by omega)
    have hseg2 := pre_seg_next hseg
    obtain ⟨o2, p2, e2, C2, t2⟩ := ih (fun z hz => hin z (by simp [hz])) (i + (preR l k).length) d o1 p1 hseg2 (by omega) C1 (by rw [take_get t1]; exact hp) (by omega)
    refine ⟨o2, p2, ?_, by rw [List.flatMap_cons, List.length_append, ← Nat.add_assoc]; exact C2, t2.trans t1⟩
    rw [← e2, ← e1, List.flatMap_cons, hlk]
    simp only [List.append_assoc]
theorem reads_kid {l : List Nd} (G : Good l) (T : Tree l) (f : Nat) : ReadsKid l f := by
  induction f with
  | zero =>
    intro k x i d out path rest post hx hf
    have := (T.deep k (List.getElem?_eq_some_iff.1 hx).1).1
    omega
  | succ f ih =>
    intro k x i d out path rest post hx hf hk0 hseg hi C hp hle
    have hk := (List.getElem?_eq_some_iff.1 hx).1
    have hnx := G.each x (List.mem_of_getElem? hx)
    have hkd : x.kind ≠ 1 := fun e => hk0 ((G.root k x hx).1 e)
    have hpos := preR_pos T hk
    have hstep := T.pre_step hk
    have hPk : (preR l (0 : Nat))[i]? = some (k : Int) := by
      have := pre_seg hseg 0 (k : Int) (by rw [hstep]; rfl)
      exact this
    obtain ⟨hjp, C1⟩ := T.bk_step hi hPk C
    have hnd : nodeD l (k : Int) = x := by unfold nodeD; rw [Int.toNat_natCast, hx]; rfl
    rw [hnd] at C1
    have hline := bk_line hnx hkd d (bkN l (parD l k)) (linesF l (f + 1) (d + 1) k ++ rest) (out := out) (path := path) (by rw [C.len]; omega) (by rw [C.len]; exact hjp) hp
    have hpl : d < path.length := (List.getElem?_eq_some_iff.1 hp).1
    have hl1 : (path.take (d + 1)).length = d + 1 := by rw [List.length_take]; omega
    have hp1 : (path.take (d + 1) ++ [(out.length : Int)])[d + 1]? = some (bkN l (k : Nat) : Int) := by
      rw [List.getElem?_append_right (by omega), hl1, Nat.sub_self, T.bkN_at hPk, C.len]
      rfl
    have ht : (path.take (d + 1) ++ [(out.length : Int)]).take (d + 1) = path.take (d + 1) := by
      rw [List.take_append_of_le_length (by omega), List.take_take, Nat.min_self]
    rw [show List.replicate d 32 ++ lineL x ++ [10] ++ linesF l (f + 1) (d + 1) k ++ rest = List.replicate d 32 ++ lineL x ++ [10] ++ (linesF l (f + 1) (d + 1) k ++ rest) from by simp only [List.append_assoc], hline]
    have hseg2 : (preR l (0 : Nat)).drop (i + 1) = (kidsD l k).flatMap (preR l) ++ post := by
      rw [hstep, List.cons_append] at hseg
      exact pre_seg_next (A := [(k : Int)]) (B := (kidsD l k).flatMap (preR l) ++ post) hseg
    rw [hstep, List.length_cons] at hle
    obtain ⟨o2, p2, e2, C2, t2⟩ := read_kids G T f ih hk (by omega) rest post (kidsD l k) (fun z hz => hz) (i + 1) (d + 1) _ _ hseg2 (by omega) C1 hp1 (by omega)
    refine ⟨o2, p2, e2, ?_, ?_⟩
    · rw [hstep, List.length_cons, Nat.add_comm _ 1, ← Nat.add_assoc]
      exact C2
    · have := congrArg (List.take (d + 1)) t2
      rw [List.take_take, List.take_take, Nat.min_eq_left (by omega)] at this
      rw [this, ht]
/-- What is told of a document is read again. -/
theorem read_tree {l : List Nd} (G : Good l) : ∃ c, bk (linesF l 41 0 0) [rootN] [0] = some c ∧ Bk l c := by
  have T := tree_of (check_of G)
  have hn := T.pos
  have hroot : nodeD l 0 = { rootN with kids := (nodeD l 0).kids, parent := (nodeD l 0).parent } := by
    obtain ⟨x, hx⟩ := get_some hn
    have hnd : nodeD l 0 = x := by unfold nodeD; rw [show (0 : Int).toNat = 0 from rfl, hx]; rfl
    rw [hnd]
    have hk := (G.root 0 x hx).2 rfl
    obtain ⟨⟨_, _, hb⟩, _⟩ := (nodeE_iff x).1 (G.each x (List.mem_of_getElem? hx))
    unfold bareB at hb
    obtain ⟨kd, nm, ats, tx, pa, ks⟩ := x
    dsimp only at hk hb ⊢
    subst hk
    simp only [Bool.and_eq_true, Bool.or_eq_true, beq_iff_eq] at hb
    obtain ⟨⟨⟨h1, h2⟩, h3⟩, _⟩ := hb
    have e1 : nm = ⟨#[]⟩ := empty_of (by rcases h1 with e | e; · rcases e with e | e <;> cases e
                                         · exact e)
    have e2 : ats = [] := by rcases h2 with e | e; · cases e
                             · exact List.isEmpty_iff.1 e
    have e3 : tx = ⟨#[]⟩ := empty_of (by rcases h3 with e | e; · rcases e with e | e <;> cases e
                                         · exact e)
    subst e1 e2 e3
    rfl
  have hstep := T.pre_step hn
  have hshort := Nat.le_trans (pre_short T hn) G.small
  have hseg : (preR l (0 : Nat)).drop 1 = (kidsD l (0 : Nat)).flatMap (preR l) ++ [] := by rw [hstep, List.append_nil]; rfl
  obtain ⟨c, p, e, C, _⟩ := read_kids G T 40 (reads_kid G T 40) hn (by rw [T.up0]) [] [] (kidsD l (0 : Nat)) (fun z hz => hz) 1 0 [rootN] [0] hseg (by decide) (T.bk_one hroot) (by rw [T.bkN_zero]; rfl) (by rw [hstep, List.length_cons] at hshort; omega)
  refine ⟨c, ?_, T.bk_end ?_⟩
  · rw [List.append_nil, bk_nil] at e
    exact e
  · rw [hstep, List.length_cons, Nat.add_comm]
    exact C
/-- There and back. -/
theorem back_tree {l : List Nd} (G : Good l) (q : Bool) : ∃ c, backR (treeL l q) = some (c, q) ∧ Bk l c := by
  have T := tree_of (check_of G)
  obtain ⟨c, e, C⟩ := read_tree G
  have hG := bk_good G C
  have hu := T.up0
  have huc := (tree_of (check_of hG)).up0
  have hlk := (bk_like G C 41 0 T.in0 T.pos (by rw [hu])).1
  rw [T.bkN_zero] at hlk
  have hlines : linesF c 41 0 0 = linesF l 41 0 0 := (like_lines 41 0 0 0 hlk).1
  have h41 : (41 - upN l 0 : Nat) = 41 := by rw [show upN l 0 = 0 from hu]
  have h41c : (41 - upN c 0 : Nat) = 41 := by rw [show upN c 0 = 0 from huc]
  have htree : treeL c q = treeL l q := by
    unfold treeL
    rw [h41, h41c, hlines]
  have hpre : Lib.hasPrefix (treeL l q) [126, 10] = q := by
    unfold treeL
    rw [h41]
    cases q with
    | true => rfl
    | false =>
      rw [if_neg (by decide), List.nil_append]
      show Lib.hasPrefix ((kidsD l (0 : Nat)).flatMap fun k => List.replicate 0 32 ++ lineK l k ++ [10] ++ linesF l 40 1 k) [126, 10] = false
      cases hk : kidsD l (0 : Nat) with
      | nil => rfl
      | cons z r =>
        obtain ⟨k, rfl, hkl, hpar⟩ := T.kid T.pos (by rw [hk]; simp : z ∈ kidsD l (0 : Nat))
        obtain ⟨x, hx⟩ := get_some hkl
        have hk0 : k ≠ 0 := fun e => by
          subst e
          have h1 := (T.up_par hkl hpar).2
          omega
        obtain ⟨_, b, s, hbr, _, hb⟩ := line_bytes (G.each x (List.mem_of_getElem? hx)) (fun e => hk0 ((G.root k x hx).1 e))
        have hlk : lineK l (k : Int) = b :: s := by unfold lineK; rw [nodeAt_nat, hx]; exact hbr
        rw [List.flatMap_cons, hlk]
        show List.isPrefixOf [126, 10] (b :: _) = false
        simp only [List.isPrefixOf, Bool.and_eq_false_iff]
        exact Or.inl (beq_eq_false_iff_ne.2 (fun e => hb e.symm))
  refine ⟨c, ?_, C⟩
  unfold backR
  rw [hpre]
  have hrest : (if q = true then (treeL l q).drop 2 else treeL l q) = linesF l 41 0 0 := by
    unfold treeL
    rw [h41]
    cases q <;> rfl
  rw [hrest]
  have e' : backF 202 (linesF l 41 0 0) [rootN] [0] = some c := e
  rw [e']
  show (if _ then _ else _) = _
  rw [if_pos ⟨check_of hG, htree⟩]
end Go.Proofs.YtfgmfmkibjfknaaDoor
