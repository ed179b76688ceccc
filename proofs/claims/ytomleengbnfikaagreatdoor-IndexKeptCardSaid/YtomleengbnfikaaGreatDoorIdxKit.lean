/-
An index in memory: lists of words, each with a row of nodes in a block of its own.
-/
import Derived.Test.YtomleengbnfikaaGreatDoorIdxLaw
import Derived.Test.YtomleengbnfikaaGreatDoorEdBase
import Derived.Test.YtomleengbnfikaaGreatDoorInsertKit
namespace Go.Proofs.YtomleengbnfikaaGreatDoor
open Go.RowKit Go.Cl

abbrev tR2 : Ty (List Value) := tRaw 2 40
def tRef : Ty Ref := tPair tStr (tSlice (tInt .i64))
theorem elemR2 : ElemOf Tryz.prog 27 50 2 40 := mkElem Tryz.underlying27 (by kernel_rfl) (z := .agg #[.string ⟨#[]⟩, .slice none 0 0]) rfl (by decide)
def rfRow (r : Ref) (p : Value) : List Value := [.string r.1, p]

/-! ### all but some blocks as it was -/
structure Tou (S : Nat → Prop) (w w' : World) : Prop where
  os : w'.os = w.os
  tape : w'.tape = w.tape
  output : w'.output = w.output
  size : w.heap.size ≤ w'.heap.size
  block : ∀ k, k < w.heap.size → ¬ S k → w'.heap[k]? = w.heap[k]?
section
variable {S S' : Nat → Prop} {a b c : World}
theorem Tou.of_grown {row : Option Nat} (h : a.grownBy b row) : Tou (fun k => some k = row) a b := ⟨h.os, h.tape, h.output, h.size, h.block⟩
theorem Tou.of_below (h : Below a.heap.size a b) : Tou S a b := ⟨h.os, h.tape, h.output, h.size, fun k hk _ => h.block k hk⟩
theorem Tou.refl (S : Nat → Prop) (a : World) : Tou S a a := ⟨rfl, rfl, rfl, Nat.le_refl _, fun _ _ _ => rfl⟩
theorem Tou.trans (h1 : Tou S a b) (h2 : Tou S' b c) (hs : ∀ k, k < a.heap.size → S' k → S k) : Tou S a c :=
  ⟨h2.os.trans h1.os, h2.tape.trans h1.tape, h2.output.trans h1.output, Nat.le_trans h1.size h2.size, fun k hk hn => (h2.block k (Nat.lt_of_lt_of_le hk h1.size) (fun h => hn (hs k hk h))).trans (h1.block k hk hn)⟩
theorem Tou.mono (h : Tou S a b) (hs : ∀ k, k < a.heap.size → S k → S' k) : Tou S' a b := ⟨h.os, h.tape, h.output, h.size, fun k hk hn => h.block k hk fun e => hn (hs k hk e)⟩
theorem Tou.below {B : Nat} (h : Tou S a b) (hs : ∀ k, S k → B ≤ k) (hB : B ≤ a.heap.size) : Below B a b := ⟨h.os, h.tape, h.output, h.size, fun k hk => h.block k (Nat.lt_of_lt_of_le hk hB) fun e => absurd (hs k e) (by omega)⟩
theorem Tou.drew (h : Tou S a b) : Tou S a b.drew := ⟨h.os, h.tape, h.output, h.size, h.block⟩
theorem ownF_tou {α : Type} {T : Ty α} {base : Nat} {e : TypeId} {v : Value} {n : Nat} {xs : List α} (h : OwnF T a base e v n xs) (ht : Tou S a b) (hs : ∀ g, v.ownBlock = some g → ¬ S g) : OwnF T b base e v n xs := by
  obtain ⟨cells, h1, h2⟩ := h
  refine ⟨cells, ⟨h1.1, ?_⟩, h2.keep fun p hp => hp.elim⟩
  rcases h1.2 with h3 | ⟨g, cap, cur, hv, hb, hh, h4⟩
  · exact .inl h3
  · refine .inr ⟨g, cap, cur, hv, hb, ?_, h4⟩
    have hg : v.ownBlock = some g := by rw [hv]; rfl
    exact (ht.block g (Array.getElem?_eq_some_iff.1 hh).1 (hs g hg)).trans hh
end

/-! ### a list of words -/
structure Rf (w : World) (base : Nat) (A : Value) (l : List Ref) (ps : List Value) : Prop where
  len : ps.length = l.length
  few : l.length ≤ 100000
  row : OwnF tR2 w base 50 A l.length (List.zipWith rfRow l ps)
  parts : ∀ (i : Nat) r p, l[i]? = some r → ps[i]? = some p → OwnF (tInt .i64) w base 3 p r.2.length r.2
  words : ∀ r ∈ l, r.1.size ≤ 1152921504606846976 ∧ r.2.length ≤ 100000
  apart : ∀ (i j : Nat) p q, ps[i]? = some p → ps[j]? = some q → i ≠ j → p.ownBlock = none ∨ p.ownBlock ≠ q.ownBlock
/-- The blocks of a list. -/
def Mine (A : Value) (ps : List Value) (b : Nat) : Prop := A.ownBlock = some b ∨ ∃ p ∈ ps, p.ownBlock = some b
section
variable {w w' w1 : World} {base : Nat} {A : Value} {l : List Ref} {ps : List Value}
theorem Rf.nil (w : World) (base : Nat) : Rf w base (.slice none 0 0) [] [] :=
  ⟨rfl, Nat.zero_le _, OwnF.nil _ _ _, fun i r p h => by simp at h, fun r h => by simp at h, fun i j p q h => by simp at h⟩
theorem Rf.part_at (h : Rf w base A l ps) {i : Nat} {r : Ref} (hr : l[i]? = some r) : ∃ p, ps[i]? = some p ∧ OwnF (tInt .i64) w base 3 p r.2.length r.2 := by
  obtain ⟨p, hp⟩ := get_some (l := ps) (k := i) (by rw [h.len]; exact (List.getElem?_eq_some_iff.1 hr).1)
  exact ⟨p, hp, h.parts i r p hr hp⟩
theorem Rf.mine (h : Rf w base A l ps) {b : Nat} (hm : Mine A ps b) : base ≤ b ∧ b < w.heap.size := by
  rcases hm with hm | ⟨p, hp, hm⟩
  · exact Own.lt h.row b hm
  · obtain ⟨i, hi⟩ := List.mem_iff_getElem?.1 hp
    obtain ⟨r, hr⟩ := get_some (l := l) (k := i) (by rw [← h.len]; exact (List.getElem?_eq_some_iff.1 hi).1)
    exact Own.lt (h.parts i r p hr hi) b hm
theorem Rf.tou {S : Nat → Prop} (h : Rf w base A l ps) (ht : Tou S w w') (hs : ∀ b, Mine A ps b → ¬ S b) : Rf w' base A l ps :=
  ⟨h.len, h.few, ownF_tou h.row ht fun g hg => hs g (Or.inl hg), fun i r p hr hp => ownF_tou (h.parts i r p hr hp) ht fun g hg => hs g (Or.inr ⟨p, List.mem_of_getElem? hp, hg⟩), h.words, h.apart⟩
theorem Rf.next (h : Rf w base A l ps) (hb : Below w.heap.size w w') : Rf w' base A l ps := h.tou (S := fun _ => False) (Tou.of_below hb) fun _ _ h => h
theorem zipR_at {i : Nat} {r : Ref} {p : Value} (hr : l[i]? = some r) (hp : ps[i]? = some p) : (List.zipWith rfRow l ps)[i]? = some (rfRow r p) := by
  rw [List.getElem?_zipWith, hr, hp]
theorem zipR_set {i : Nat} {r : Ref} {q : Value} : (List.zipWith rfRow l ps).set i (rfRow r q) = List.zipWith rfRow (l.set i r) (ps.set i q) := by
  induction l generalizing i ps with
  | nil => simp
  | cons x l ih =>
    cases ps with
    | nil => cases i <;> simp
    | cons p ps =>
      cases i with
      | zero => rfl
      | succ i => rw [List.zipWith_cons_cons, List.set_cons_succ, List.set_cons_succ, List.set_cons_succ, List.zipWith_cons_cons, ih]
/-- Where the entries lie. -/
theorem Rf.where_ (h : Rf w base A l ps) (h0 : 0 < l.length) : ∃ g c, A = .slice (some ⟨g, 0, none⟩) l.length c ∧ base ≤ g ∧ g < w.heap.size ∧ l.length ≤ c ∧ (∀ k, w.frozen? ⟨g, k, none⟩ = false) ∧
    ∀ (i : Nat) r p, l[i]? = some r → ps[i]? = some p → w.cell? ⟨g, i * 2, none⟩ = some (.string r.1) ∧ w.cell? ⟨g, i * 2 + 1, none⟩ = some p := by
  obtain ⟨A0, c, e⟩ := Own.form h.row
  have hrow := h.row
  rw [e] at hrow
  obtain ⟨g, cells, rfl, hb, hl, hr, hc, hf⟩ := Own.block hrow h0
  refine ⟨g, c, e, hb, hl, ?_, hf, fun i r p hx hp => ?_⟩
  · obtain ⟨_, h1, _⟩ := hrow
    rcases h1.2 with ⟨hv, h2⟩ | ⟨g', cap, cur, hv, _, _, hnc, _⟩
    · omega
    · injection hv with _ _ hv
      omega
  · obtain ⟨cs, ⟨rfl, _⟩, hj⟩ := hr.at_ (zipR_at hx hp)
    exact ⟨hc _ _ (hj 0 _ rfl), hc _ _ (hj 1 _ rfl)⟩
theorem ins_at {α : Type} {i k : Nat} {x : α} {l : List α} (hi : i ≤ l.length) : (ins i x l)[k]? = if k < i then l[k]? else if k = i then some x else l[k - 1]? := by
  unfold ins
  have hl : (l.take i).length = i := by rw [List.length_take]; omega
  split
  · rw [List.getElem?_append_left (by omega), List.getElem?_take_of_lt (by omega)]
  · rw [List.getElem?_append_right (by omega), hl]
    split
    · subst k; simp
    · obtain ⟨j, hj⟩ : ∃ j, k - i = j + 1 := ⟨k - i - 1, by omega⟩
      rw [hj, List.getElem?_cons_succ, List.getElem?_drop]
      congr 1
      omega
theorem zipR_ins {i : Nat} {r : Ref} {q : Value} (hlen : ps.length = l.length) : List.zipWith rfRow (ins i r l) (ins i q ps) = ins i (rfRow r q) (List.zipWith rfRow l ps) := by
  unfold ins
  rw [List.zipWith_append (by rw [List.length_take, List.length_take, hlen]), List.zipWith_cons_cons, List.take_zipWith, List.drop_zipWith]
theorem rfRow_ok {r : Ref} {p : Value} (h1 : ∃ A n c, p = .slice A n c) : (rfRow r p).length = 2 ∧ ∀ u ∈ rfRow r p, u.oneCell' = true := by
  obtain ⟨A, n, c, rfl⟩ := h1
  refine ⟨rfl, fun u hu => ?_⟩
  simp only [rfRow, List.mem_cons, List.not_mem_nil, or_false] at hu
  rcases hu with rfl | rfl <;> rfl
/-- A word is put in, without nodes. -/
theorem Rf.ins_word {v : Value} {i : Nat} {wd : ByteArray} (h : Rf w base A l ps) (hg : w.grownBy w1 A.ownBlock) (hrow : OwnF tR2 w1 base 50 v (l.length + 1) ((List.zipWith rfRow l ps).take i ++ [.string wd, .slice none 0 0] :: (List.zipWith rfRow l ps).drop i)) (hi : i ≤ l.length) (hw : wd.size ≤ 1152921504606846976) (hf : l.length + 1 ≤ 100000) :
    Rf w1 base v (ins i (wd, []) l) (ins i (.slice none 0 0) ps) := by
  have hi2 : i ≤ ps.length := by rw [h.len]; exact hi
  refine ⟨by rw [ins_len, ins_len, h.len], by rw [ins_len]; exact hf, ?_, fun k r p hr hp => ?_, fun r hr => ?_, fun k1 k2 p q hp hq hne => ?_⟩
  · rw [ins_len, zipR_ins h.len]; exact hrow
  · rw [ins_at hi] at hr
    rw [ins_at hi2] at hp
    have keep : ∀ (j : Nat) (r : Ref) (p : Value), l[j]? = some r → ps[j]? = some p → OwnF (tInt .i64) w1 base 3 p r.2.length r.2 := fun j r p hr hp => ownF_kept (h.parts j r p hr hp) hg (own_ne (by decide) (h.parts j r p hr hp) h.row)
    split at hr
    · rw [if_pos (by assumption)] at hp; exact keep _ r p hr hp
    · rw [if_neg (by assumption)] at hp
      split at hr
      · rw [if_pos (by assumption)] at hp
        obtain rfl := Option.some.inj hr
        obtain rfl := Option.some.inj hp
        exact OwnF.nil _ _ _
      · rw [if_neg (by assumption)] at hp; exact keep _ r p hr hp
  · rcases mem_ins.1 hr with rfl | hr
    · exact ⟨hw, Nat.zero_le _⟩
    · exact h.words r hr
  · have nz : ∀ x : Value, x.ownBlock = none ∨ x.ownBlock ≠ (Value.slice none 0 0).ownBlock := fun x => by
      show x.ownBlock = none ∨ x.ownBlock ≠ none
      by_cases e : x.ownBlock = none
      · exact .inl e
      · exact .inr e
    rw [ins_at hi2] at hp hq
    split at hp
    · split at hq
      · exact h.apart _ _ p q hp hq hne
      · split at hq
        · obtain rfl := Option.some.inj hq; exact nz p
        · exact h.apart _ _ p q hp hq (by omega)
    · split at hp
      · obtain rfl := Option.some.inj hp; exact .inl rfl
      · split at hq
        · exact h.apart _ _ p q hp hq (by omega)
        · split at hq
          · obtain rfl := Option.some.inj hq; exact nz p
          · exact h.apart _ _ p q hp hq (by omega)
/-- Nodes of an entry are set: the new row is the old one's block, or a new one. -/
theorem Rf.nodes {g n c : Nat} (h : Rf w base (.slice (some ⟨g, 0, none⟩) n c) l ps) {i : Nat} {r : Ref} {p v : Value} {ks : List Int} (hr : l[i]? = some r) (hp : ps[i]? = some p) (hg : w.grownBy w1 p.ownBlock) (hv : OwnF (tInt .i64) w1 base 3 v ks.length ks)
    (hb : v.ownBlock = p.ownBlock ∨ ∃ k, v.ownBlock = some k ∧ w.heap.size ≤ k) (hk : ks.length ≤ 100000) : Rf (w1.setCell ⟨g, i * 2 + 1, none⟩ v) base (.slice (some ⟨g, 0, none⟩) n c) (l.set i (r.1, ks)) (ps.set i v) := by
  have hP := h.parts i r p hr hp
  have hn : n = l.length := by
    obtain ⟨_, h3, _⟩ := h.row
    rcases h3.2 with ⟨hv, _⟩ | ⟨g', cap, cur, hv, _⟩
    · cases hv
    · injection hv
  subst hn
  have hrow1 : OwnF tR2 w1 base 50 (.slice (some ⟨g, 0, none⟩) l.length c) l.length (List.zipWith rfRow l ps) := ownF_kept h.row hg (own_ne (by decide) h.row hP)
  have hrow : Own tR2 (w1.setCell ⟨g, i * 2 + 1, none⟩ v) base 50 (fun _ => False) (.slice (some ⟨g, 0, none⟩) l.length c) l.length ((List.zipWith rfRow l ps).set i (rfRow (r.1, ks) v)) :=
    Own.stored (T := tR2) hrow1 (fun _ h => h.elim) (zipR_at hr hp) (j := 1) (by decide) (fun cs hcs => by
      obtain ⟨rfl, _⟩ := hcs
      refine ⟨rfl, ?_⟩
      exact rfRow_ok (r := (r.1, ks)) (by obtain ⟨A, c, e⟩ := Own.form hv; exact ⟨_, _, _, e⟩))
  rw [zipR_set] at hrow
  have hgs := grown_set w1 g (i * 2 + 1) v
  have hpl := (List.getElem?_eq_some_iff.1 hp).1
  have hrl := (List.getElem?_eq_some_iff.1 hr).1
  have hlt : ∀ (k : Nat) q, ps[k]? = some q → ∀ b, q.ownBlock = some b → b < w.heap.size := fun k q hq b hb => by
    obtain ⟨z, hz⟩ := get_some (l := l) (k := k) (by have := h.len; have := (List.getElem?_eq_some_iff.1 hq).1; omega)
    exact (Own.lt (h.parts k z q hz hq) b hb).2
  refine ⟨by rw [List.length_set, List.length_set]; exact h.len, by rw [List.length_set]; exact h.few, by rw [List.length_set]; exact hrow, fun k z q hz hq => ?_, fun z hz => ?_, fun k1 k2 q1 q2 hq1 hq2 hne => ?_⟩
  · by_cases e : i = k
    · subst e
      rw [List.getElem?_set_self hrl] at hz
      rw [List.getElem?_set_self hpl] at hq
      obtain rfl := Option.some.inj hz
      obtain rfl := Option.some.inj hq
      exact ownF_kept hv hgs (own_ne (by decide) hv hrow1)
    · rw [List.getElem?_set_ne e] at hz hq
      have hk1 := ownF_kept (h.parts k z q hz hq) hg (h.apart k i q p hq hp (fun e2 => e e2.symm))
      exact ownF_kept hk1 hgs (own_ne (by decide) hk1 hrow1)
  · rcases List.mem_or_eq_of_mem_set hz with hz | rfl
    · exact h.words z hz
    · exact ⟨(h.words r (List.mem_of_getElem? hr)).1, hk⟩
  · have side : ∀ (k : Nat) q, ps[k]? = some q → k ≠ i → (v.ownBlock = none ∨ v.ownBlock ≠ q.ownBlock) ∧ (q.ownBlock = none ∨ q.ownBlock ≠ v.ownBlock) := fun k q hq hki => by
      have h1 := h.apart i k p q hp hq (Ne.symm hki)
      have h2 := h.apart k i q p hq hp hki
      rcases hb with e | ⟨b, e, hbl⟩
      · rw [e]
        exact ⟨h1, h2⟩
      · rw [e]
        refine ⟨Or.inr fun e2 => ?_, Or.inr fun e2 => ?_⟩
        · have := hlt k q hq b e2.symm
          omega
        · have := hlt k q hq b e2
          omega
    by_cases e1 : i = k1
    · subst e1
      rw [List.getElem?_set_self hpl] at hq1
      obtain rfl := Option.some.inj hq1
      rw [List.getElem?_set_ne hne] at hq2
      exact (side k2 q2 hq2 (Ne.symm hne)).1
    · rw [List.getElem?_set_ne e1] at hq1
      by_cases e2 : i = k2
      · subst e2
        rw [List.getElem?_set_self hpl] at hq2
        obtain rfl := Option.some.inj hq2
        exact (side k1 q1 hq1 hne).2
      · rw [List.getElem?_set_ne e2] at hq2
        exact h.apart k1 k2 q1 q2 hq1 hq2 hne
/-- Read as a slice. -/
theorem rf_rows {D : Nat → Prop} : ∀ (l : List Ref) (ps : List Value) (cells : List Value), ps.length = l.length → (∀ (i : Nat) r p, l[i]? = some r → ps[i]? = some p → OwnF (tInt .i64) w base 3 p r.2.length r.2) → (∀ r ∈ l, r.1.size ≤ 1152921504606846976 ∧ r.2.length ≤ 100000) → Row tR2 w D (List.zipWith rfRow l ps) cells → Row tRef w (lt w.heap.size) l cells
  | [], [], cells, _, _, _, h => h
  | [], p :: ps, cells, h, _, _, _ => by simp at h
  | r :: l, [], cells, h, _, _, _ => by simp at h
  | r :: l, p :: ps, cells, h, hp, hw, hr => by
    rw [List.zipWith_cons_cons] at hr
    obtain ⟨c1, c2, rfl, ⟨rfl, _⟩, h2⟩ := hr
    have hpo := hp 0 r p rfl rfl
    obtain ⟨hw1, hw2⟩ := hw r (List.mem_cons_self ..)
    obtain ⟨A', c', rfl, hs⟩ := OwnF.sl hpo (by decide) (by show r.2.length * 8 ≤ _; omega)
    refine ⟨rfRow r _, c2, rfl, ⟨[.string r.1], _, rfl, ⟨rfl, hw1⟩, A', r.2.length, c', rfl, hs⟩, ?_⟩
    exact rf_rows l ps c2 (by simpa using h) (fun i z q hz hq => hp (i + 1) z q (by simpa using hz) (by simpa using hq)) (fun z hz => hw z (List.mem_cons_of_mem _ hz)) h2
end
section
variable {w w' w1 : World} {base : Nat} {l : List Ref} {ps : List Value}
theorem Rf.sl {A0 : Option Addr} {n c : Nat} (h : Rf w base (.slice A0 n c) l ps) : n = l.length ∧ Sl tRef w (lt w.heap.size) A0 n c l := by
  have hrow := h.row
  have hn : n = l.length := by
    obtain ⟨_, h3, _⟩ := hrow
    rcases h3.2 with ⟨hv, h4⟩ | ⟨g', cap, cur, hv, _⟩
    · injection hv with _ hv _
      omega
    · injection hv
  subst hn
  have hs := Own.sl hrow (by decide) (by have := h.few; show l.length * 40 ≤ _; omega)
  refine ⟨rfl, rfl, hs.hc, by have := h.few; show l.length * 40 ≤ _; omega, hs.hm, hs.nil_, fun h0 => ?_⟩
  obtain ⟨b, o, cells, e, hD, hr, hc⟩ := hs.at_ h0
  refine ⟨b, o, cells, e, ?_, rf_rows l ps cells h.len h.parts h.words hr, hc⟩
  rcases hD with hD | hD
  · exact hD.elim
  · exact hD.2
theorem Rf.nil_form {A : Value} (h : Rf w base A l ps) (h0 : l = []) : ∃ Ad c, A = .slice Ad 0 c := by
  obtain ⟨Ad, c, e⟩ := Own.form h.row
  rw [h0] at e
  exact ⟨Ad, c, e⟩
end
end Go.Proofs.YtomleengbnfikaaGreatDoor
