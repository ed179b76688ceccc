/-
serial.node.
-/
import Derived.Test.YtfgmfmkibjfknaaDoorSerUnq
import Derived.Test.YtfgmfmkibjfknaaDoorDcAt
import Derived.Test.YtfgmfmkibjfknaaDoorRegionW
import Derived.Test.YtfgmfmkibjfknaaDoorSerLine
namespace Go.Proofs.YtfgmfmkibjfknaaDoor
open Go.RowKit Go.Cl
attribute [local go_sem ↓] Go.wp_at_zero Go.wp_at_succ

abbrev maxAt (w : World) (m : Int) : Prop := w.cell? ⟨0, 0, none⟩ = some (.int .i64 m)
def bytesOf (l : List UInt8) : ByteArray := ⟨l.toArray⟩
/-- The attributes that a line holds. -/
def attrsG : Nat → List UInt8 → Bool → List DAttr
  | 0, _, _ => []
  | _ + 1, _, false => []
  | f + 1, r, true => match unquoteR (Lib.cut r [61]).2.1 with
    | (v, r2, true) => (bytesOf (Lib.cut r [61]).1, bytesOf v) :: attrsG f (Lib.cut r2 [32]).2.1 (Lib.cut r2 [32]).2.2
    | (_, _, false) => []
/-- The node that a line tells. -/
def nodeR (s : List UInt8) : Nd :=
  if Lib.hasPrefix s [33] then ⟨5, bytesOf (unquoteR (s.drop 1)).1, [], ⟨#[]⟩, 0, []⟩
  else if Lib.hasPrefix s [34] then ⟨3, ⟨#[]⟩, [], bytesOf (unquoteR s).1, 0, []⟩
  else if Lib.hasPrefix s [45] then ⟨4, ⟨#[]⟩, [], bytesOf (unquoteR (s.drop 1)).1, 0, []⟩
  else ⟨2, bytesOf (Lib.cut s [32]).1, attrsG (s.length + 1) (Lib.cut s [32]).2.1 (Lib.cut s [32]).2.2, ⟨#[]⟩, 0, []⟩
theorem unqL_len : ∀ (l : List UInt8) (k : Nat) (acc t q : List UInt8), unqL k l acc = some (t, q) → q.length + 1 ≤ l.length
  | [], k, acc, t, q, h => by cases k <;> cases h
  | b :: r, k + 1, acc, t, q, h => by
    have := unqL_len r k acc t q h
    rw [List.length_cons]
    omega
  | b :: r, 0, acc, t, q, h => by
    unfold unqL at h
    rw [List.length_cons]
    split at h
    · injection h with h
      injection h with _ h
      rw [← h]
      omega
    split at h
    · have := unqL_len r 2 _ t q h
      omega
    · have := unqL_len r 0 _ t q h
      omega
theorem unquote_len {l t q : List UInt8} (h : unquoteR l = (t, q, true)) : q.length + 2 ≤ l.length := by
  cases l with
  | nil => cases h
  | cons b r =>
    unfold unquoteR at h
    dsimp only at h
    split at h
    · split at h
      · rename_i t' q' hu
        injection h with _ h
        injection h with h
        subst h
        have := unqL_len r 0 [] t' q' hu
        rw [List.length_cons]
        omega
      · cases h
    · cases h
theorem unqL_len1 : ∀ (l : List UInt8) (k : Nat) (acc t q : List UInt8), unqL k l acc = some (t, q) → t.length ≤ acc.length + l.length
  | [], k, acc, t, q, h => by cases k <;> cases h
  | b :: r, k + 1, acc, t, q, h => by
    have := unqL_len1 r k acc t q h
    rw [List.length_cons]
    omega
  | b :: r, 0, acc, t, q, h => by
    unfold unqL at h
    rw [List.length_cons]
    split at h
    · injection h with h
      injection h with h _
      rw [← h]
      omega
    split at h
    · have := unqL_len1 r 2 _ t q h
      rw [List.length_append] at this
      simp at this
      omega
    · have := unqL_len1 r 0 _ t q h
      rw [List.length_append] at this
      simp at this
      omega
theorem unquote_len1 (l : List UInt8) : (unquoteR l).1.length ≤ l.length := by
  cases l with
  | nil => exact Nat.le_refl _
  | cons b r =>
    unfold unquoteR
    dsimp only
    split
    · split
      · rename_i t' q' hu
        have := unqL_len1 r 0 [] t' q' hu
        rw [List.length_cons]
        simp at this
        show t'.length ≤ _
        omega
      · exact Nat.zero_le _
    · exact Nat.zero_le _
theorem cut_len1 (s : List UInt8) (c : UInt8) : (Lib.cut s [c]).1.length ≤ s.length := by
  unfold Lib.cut
  split
  · simp only [List.length_take]
    omega
  · exact Nat.le_refl _
theorem cut_len (s : List UInt8) (c : UInt8) : (Lib.cut s [c]).2.1.length ≤ s.length := by
  unfold Lib.cut
  split
  · simp only [List.length_drop]
    omega
  · exact Nat.zero_le _
theorem cut3 (t : ByteArray) (c : UInt8) (ht : t.size ≤ 1000000000) : ∃ (ba bb : ByteArray) (bk : Bool), ba = bytesOf (Lib.cut t.data.toList [c]).1 ∧ bb = bytesOf (Lib.cut t.data.toList [c]).2.1 ∧ bk = (Lib.cut t.data.toList [c]).2.2 ∧ Hid (∀ (u : World) (m : Int), maxAt u m → Calls Tryd.prog 26 #[.string t, .string ⟨#[c]⟩] u fun e w' => e = .returned (.tuple #[.string ba, .string bb, .bool bk]) ∧ ∃ n, w' = u.drewN n) :=
  ⟨_, _, _, rfl, rfl, rfl, fun u m hm => Tryd.strings_Cut t ⟨#[c]⟩ m u (by omega) hm⟩
theorem dN_of {w w' : World} {n : Nat} (h : w' = w.drewN n) : Below w.heap.size w w' := by
  rw [h]
  exact below_dN (Below.refl _ _) n
theorem pre_pos {s : ByteArray} {c : UInt8} (h : Lib.hasPrefix s.data.toList [c] = true) : 1 ≤ s.size := by
  have h1 : s.data.toList ≠ [] := fun e => by rw [e] at h; cases h
  have h2 : s.data.toList.length = s.size := by simp
  have h3 := List.length_pos_iff.2 h1
  omega
theorem unq3 (t : ByteArray) (ht : t.size ≤ 1000000000) : ∃ (bt br : ByteArray) (bk : Bool), bt = bytesOf (unquoteR t.data.toList).1 ∧ br = bytesOf (unquoteR t.data.toList).2.1 ∧ bk = (unquoteR t.data.toList).2.2 ∧ Hid (∀ u, Calls Tryd.prog 56 #[.string t] u fun e w' => e = .returned (.tuple #[.string bt, .string br, .bool bk]) ∧ Below u.heap.size u w') :=
  ⟨_, _, _, rfl, rfl, rfl, fun u => unquote_any t u ht⟩
/-- A node's box, all of it set. -/
def set6 (w : World) (b : Nat) (v0 v1 v2 v3 v4 v5 : Value) : World := (((((w.setCell ⟨b, 0, none⟩ v0).setCell ⟨b, 1, none⟩ v1).setCell ⟨b, 2, none⟩ v2).setCell ⟨b, 3, none⟩ v3).setCell ⟨b, 4, none⟩ v4).setCell ⟨b, 5, none⟩ v5
theorem set6_blk {w : World} {b : Nat} {a0 a1 a2 a3 a4 a5 : Value} {t : TypeId} (h : w.heap[b]? = some (.cells #[a0, a1, a2, a3, a4, a5] t (0, 0))) (v0 v1 v2 v3 v4 v5 : Value) : (set6 w b v0 v1 v2 v3 v4 v5).heap[b]? = some (.cells #[v0, v1, v2, v3, v4, v5] t (0, 0)) :=
  set_blk (i := 5) (set_blk (i := 4) (set_blk (i := 3) (set_blk (i := 2) (set_blk (i := 1) (set_blk (i := 0) h v0) v1) v2) v3) v4) v5
theorem set6_below {w w' : World} {B b : Nat} (h : Below B w w') (hb : B ≤ b) (v0 v1 v2 v3 v4 v5 : Value) : Below B w (set6 w' b v0 v1 v2 v3 v4 v5) :=
  (((((h.setCell (p := ⟨b, 0, none⟩) hb v0).setCell (p := ⟨b, 1, none⟩) hb v1).setCell (p := ⟨b, 2, none⟩) hb v2).setCell (p := ⟨b, 3, none⟩) hb v3).setCell (p := ⟨b, 4, none⟩) hb v4).setCell (p := ⟨b, 5, none⟩) hb v5
theorem set6_grown (w : World) (b : Nat) (v0 v1 v2 v3 v4 v5 : Value) : w.grownBy (set6 w b v0 v1 v2 v3 v4 v5) (some b) :=
  grownBy.trans' (grownBy.trans' (grownBy.trans' (grownBy.trans' (grownBy.trans' (grown_cell w b 0 v0) (grown_cell _ b 1 v1)) (grown_cell _ b 2 v2)) (grown_cell _ b 3 v3)) (grown_cell _ b 4 v4)) (grown_cell _ b 5 v5)
theorem attrsG_true (f : Nat) {r an r1 av r2 : ByteArray} {ok : Bool} (h1 : an = bytesOf (Lib.cut r.data.toList [61]).1) (h2 : r1 = bytesOf (Lib.cut r.data.toList [61]).2.1) (h3 : av = bytesOf (unquoteR r1.data.toList).1) (h4 : r2 = bytesOf (unquoteR r1.data.toList).2.1) (h5 : ok = (unquoteR r1.data.toList).2.2) :
    attrsG (f + 1) r.data.toList true = if ok = true then (an, av) :: attrsG f (Lib.cut r2.data.toList [32]).2.1 (Lib.cut r2.data.toList [32]).2.2 else [] := by
  have e : (Lib.cut r.data.toList [61]).2.1 = r1.data.toList := by rw [h2]; rfl
  rw [attrsG, e]
  obtain ⟨u, hu⟩ : ∃ u, u = unquoteR r1.data.toList := ⟨_, rfl⟩
  rw [← hu] at h3 h4 h5 ⊢
  obtain ⟨v, q, k⟩ := u
  subst h1 h3 h4
  cases k <;> (subst h5; rfl)
def NodePost (w : World) (x : Nd) (e : Ending) (w' : World) : Prop :=
  ∃ A c, e = .returned (.agg #[.int .i64 x.kind, .string x.name, .slice A x.attrs.length c, .string x.text, .int .i64 0, .slice none 0 0]) ∧ OwnF tDA w' w.heap.size 58 (.slice A x.attrs.length c) x.attrs.length x.attrs ∧ Below w.heap.size w w'
set_option maxRecDepth 100000 in
set_option maxHeartbeats 8000000 in
theorem snode_33 (s : ByteArray) (w : World) (hs : s.size ≤ 1000000000) (h33 : Lib.hasPrefix s.data.toList [33] = true) : Calls Tryd.prog 28 #[.string s] w (NodePost w (nodeR s.data.toList)) := by
  obtain ⟨w0, hw0⟩ : ∃ w0, w0 = w.alloc (.cells #[.int .i64 0, .string ⟨#[]⟩, .slice none 0 0, .string ⟨#[]⟩, .int .i64 0, .slice none 0 0] 45) := ⟨_, rfl⟩
  have hx0 : w0.heap[w.heap.size]? = some (.cells #[.int .i64 0, .string ⟨#[]⟩, .slice none 0 0, .string ⟨#[]⟩, .int .i64 0, .slice none 0 0] 45 (0, 0)) := by rw [hw0]; exact heap_alloc_new w _
  have hb0 : Below w.heap.size w w0 := by rw [hw0]; exact (Below.refl _ _).alloc (Nat.le_refl _) _
  have HX0 := Lib.hid hx0
  have HB0 := Lib.hid hb0
  have HUQ := Lib.hid fun (t : ByteArray) (ht : t.size ≤ 1000000000) u => unquote_any t u ht
  have HHP := Lib.hid fun (p : ByteArray) u => Tryd.strings_HasPrefix s p u
  clear hb0
  have HN := Lib.hid (show nodeR s.data.toList = ⟨5, (bytesOf (unquoteR (s.data.toList.drop 1)).1), [], ⟨#[]⟩, 0, []⟩ from by unfold nodeR; rw [if_pos h33])
  have hp1 := pre_pos h33
  have HH33 : Hid (∀ u, Calls Tryd.prog 25 #[.string s, .string ⟨#[33]⟩] u fun e w' => e = .returned (.bool true) ∧ w' = u) := fun u => by have h := HHP.out ⟨#[33]⟩ u; rw [show (⟨#[33]⟩ : ByteArray).data.toList = [33] from rfl, h33] at h; exact h
  obtain ⟨bt, br, bk, hbt, _, _, HU⟩ := unq3 (s.extract 1 s.size) (by simp only [ByteArray.size_extract]; omega)
  rw [← cut_from] at hbt
  rw [show bytesOf (unquoteR (s.data.toList.drop 1)).1 = bt from hbt.symm] at HN
  clear hbt
  clear h33 HHP HUQ hx0
  go_enter Tryd.func28, Tryd.ntmps28
  go_upto_region 1 with fail
  rw [← hw0]
  clear hw0
  go_upto_region 2 with (go_at_call 25; (first | (with_reducible refine (HH33.out _).mono ?_)); rintro e' w2 ⟨rfl, rfl⟩)
  go_upto_region 3 with (go_at_call 56; refine (HU.out _).mono ?_; rintro e' w3 ⟨rfl, hb3⟩)
  have hc3 := (hb3.block _ (Array.getElem?_eq_some_iff.1 HX0.out).1).trans HX0.out
  have HB3 := Lib.hid (HB0.out.trans (hb3.mono HB0.out.size))
  have f0 := free_blk (i := 0) hc3
  have f1 := free_blk (i := 1) hc3
  have f2 := free_blk (i := 2) hc3
  have f3 := free_blk (i := 3) hc3
  have f4 := free_blk (i := 4) hc3
  have f5 := free_blk (i := 5) hc3
  have o0 := cell_blk (i := 0) hc3 rfl
  have o1 := cell_blk (i := 1) hc3 rfl
  have o2 := cell_blk (i := 2) hc3 rfl
  have o3 := cell_blk (i := 3) hc3 rfl
  have o4 := cell_blk (i := 4) hc3 rfl
  have o5 := cell_blk (i := 5) hc3 rfl
  have HS := Lib.hid (set6_blk hc3 (.int .i64 5) (.string bt) (.slice none 0 0) (.string ⟨#[]⟩) (.int .i64 0) (.slice none 0 0))
  have HSB := Lib.hid (set6_below HB3.out (Nat.le_refl _) (.int .i64 5) (.string bt) (.slice none 0 0) (.string ⟨#[]⟩) (.int .i64 0) (.slice none 0 0))
  clear hc3 hb3
  go_wp2_with fail
  have z0 := cell_blk (i := 0) HS.out rfl
  have z1 := cell_blk (i := 1) HS.out rfl
  have z2 := cell_blk (i := 2) HS.out rfl
  have z3 := cell_blk (i := 3) HS.out rfl
  have z4 := cell_blk (i := 4) HS.out rfl
  have z5 := cell_blk (i := 5) HS.out rfl
  unfold set6 at z0 z1 z2 z3 z4 z5 HSB
  refine bodyPost_ret (v := .agg #[.int .i64 5, .string bt, .slice none 0 0, .string ⟨#[]⟩, .int .i64 0, .slice none 0 0]) (by simp [results, Tryd.results28, go_sem, z0, z1, z2, z3, z4, z5]) rfl ?_
  rw [HN.out]
  exact ⟨none, 0, rfl, OwnF.nil _ _ _, HSB.out⟩
set_option maxRecDepth 100000 in
set_option maxHeartbeats 8000000 in
theorem snode_34 (s : ByteArray) (w : World) (hs : s.size ≤ 1000000000) (h33 : ¬ Lib.hasPrefix s.data.toList [33] = true) (h34 : Lib.hasPrefix s.data.toList [34] = true) : Calls Tryd.prog 28 #[.string s] w (NodePost w (nodeR s.data.toList)) := by
  obtain ⟨w0, hw0⟩ : ∃ w0, w0 = w.alloc (.cells #[.int .i64 0, .string ⟨#[]⟩, .slice none 0 0, .string ⟨#[]⟩, .int .i64 0, .slice none 0 0] 45) := ⟨_, rfl⟩
  have hx0 : w0.heap[w.heap.size]? = some (.cells #[.int .i64 0, .string ⟨#[]⟩, .slice none 0 0, .string ⟨#[]⟩, .int .i64 0, .slice none 0 0] 45 (0, 0)) := by rw [hw0]; exact heap_alloc_new w _
  have hb0 : Below w.heap.size w w0 := by rw [hw0]; exact (Below.refl _ _).alloc (Nat.le_refl _) _
  have HX0 := Lib.hid hx0
  have HB0 := Lib.hid hb0
  have HUQ := Lib.hid fun (t : ByteArray) (ht : t.size ≤ 1000000000) u => unquote_any t u ht
  have HHP := Lib.hid fun (p : ByteArray) u => Tryd.strings_HasPrefix s p u
  clear hb0
  have HN := Lib.hid (show nodeR s.data.toList = ⟨3, ⟨#[]⟩, [], (bytesOf (unquoteR s.data.toList).1), 0, []⟩ from by unfold nodeR; rw [if_neg h33, if_pos h34])
  have hp1 := pre_pos h34
  have HH33 : Hid (∀ u, Calls Tryd.prog 25 #[.string s, .string ⟨#[33]⟩] u fun e w' => e = .returned (.bool false) ∧ w' = u) := fun u => by have h := HHP.out ⟨#[33]⟩ u; rw [show (⟨#[33]⟩ : ByteArray).data.toList = [33] from rfl, Bool.eq_false_iff.2 h33] at h; exact h
  have HH34 : Hid (∀ u, Calls Tryd.prog 25 #[.string s, .string ⟨#[34]⟩] u fun e w' => e = .returned (.bool true) ∧ w' = u) := fun u => by have h := HHP.out ⟨#[34]⟩ u; rw [show (⟨#[34]⟩ : ByteArray).data.toList = [34] from rfl, h34] at h; exact h
  obtain ⟨bt, br, bk, hbt, _, _, HU⟩ := unq3 s (by omega)
  rw [show bytesOf (unquoteR s.data.toList).1 = bt from hbt.symm] at HN
  clear hbt
  clear h33 h34 HHP HUQ hx0
  go_enter Tryd.func28, Tryd.ntmps28
  go_upto_region 1 with fail
  rw [← hw0]
  clear hw0
  go_upto_region 5 with (go_at_call 25; (first | (with_reducible refine (HH33.out _).mono ?_) | (with_reducible refine (HH34.out _).mono ?_)); rintro e' w2 ⟨rfl, rfl⟩)
  go_upto_region 6 with (go_at_call 56; refine (HU.out _).mono ?_; rintro e' w3 ⟨rfl, hb3⟩)
  have hc3 := (hb3.block _ (Array.getElem?_eq_some_iff.1 HX0.out).1).trans HX0.out
  have HB3 := Lib.hid (HB0.out.trans (hb3.mono HB0.out.size))
  have f0 := free_blk (i := 0) hc3
  have f1 := free_blk (i := 1) hc3
  have f2 := free_blk (i := 2) hc3
  have f3 := free_blk (i := 3) hc3
  have f4 := free_blk (i := 4) hc3
  have f5 := free_blk (i := 5) hc3
  have o0 := cell_blk (i := 0) hc3 rfl
  have o1 := cell_blk (i := 1) hc3 rfl
  have o2 := cell_blk (i := 2) hc3 rfl
  have o3 := cell_blk (i := 3) hc3 rfl
  have o4 := cell_blk (i := 4) hc3 rfl
  have o5 := cell_blk (i := 5) hc3 rfl
  have HS := Lib.hid (set6_blk hc3 (.int .i64 3) (.string ⟨#[]⟩) (.slice none 0 0) (.string bt) (.int .i64 0) (.slice none 0 0))
  have HSB := Lib.hid (set6_below HB3.out (Nat.le_refl _) (.int .i64 3) (.string ⟨#[]⟩) (.slice none 0 0) (.string bt) (.int .i64 0) (.slice none 0 0))
  clear hc3 hb3
  go_wp2_with fail
  have z0 := cell_blk (i := 0) HS.out rfl
  have z1 := cell_blk (i := 1) HS.out rfl
  have z2 := cell_blk (i := 2) HS.out rfl
  have z3 := cell_blk (i := 3) HS.out rfl
  have z4 := cell_blk (i := 4) HS.out rfl
  have z5 := cell_blk (i := 5) HS.out rfl
  unfold set6 at z0 z1 z2 z3 z4 z5 HSB
  refine bodyPost_ret (v := .agg #[.int .i64 3, .string ⟨#[]⟩, .slice none 0 0, .string bt, .int .i64 0, .slice none 0 0]) (by simp [results, Tryd.results28, go_sem, z0, z1, z2, z3, z4, z5]) rfl ?_
  rw [HN.out]
  exact ⟨none, 0, rfl, OwnF.nil _ _ _, HSB.out⟩
set_option maxRecDepth 100000 in
set_option maxHeartbeats 8000000 in
theorem snode_45 (s : ByteArray) (w : World) (hs : s.size ≤ 1000000000) (h33 : ¬ Lib.hasPrefix s.data.toList [33] = true) (h34 : ¬ Lib.hasPrefix s.data.toList [34] = true) (h45 : Lib.hasPrefix s.data.toList [45] = true) : Calls Tryd.prog 28 #[.string s] w (NodePost w (nodeR s.data.toList)) := by
  obtain ⟨w0, hw0⟩ : ∃ w0, w0 = w.alloc (.cells #[.int .i64 0, .string ⟨#[]⟩, .slice none 0 0, .string ⟨#[]⟩, .int .i64 0, .slice none 0 0] 45) := ⟨_, rfl⟩
  have hx0 : w0.heap[w.heap.size]? = some (.cells #[.int .i64 0, .string ⟨#[]⟩, .slice none 0 0, .string ⟨#[]⟩, .int .i64 0, .slice none 0 0] 45 (0, 0)) := by rw [hw0]; exact heap_alloc_new w _
  have hb0 : Below w.heap.size w w0 := by rw [hw0]; exact (Below.refl _ _).alloc (Nat.le_refl _) _
  have HX0 := Lib.hid hx0
  have HB0 := Lib.hid hb0
  have HUQ := Lib.hid fun (t : ByteArray) (ht : t.size ≤ 1000000000) u => unquote_any t u ht
  have HHP := Lib.hid fun (p : ByteArray) u => Tryd.strings_HasPrefix s p u
  clear hb0
  have HN := Lib.hid (show nodeR s.data.toList = ⟨4, ⟨#[]⟩, [], (bytesOf (unquoteR (s.data.toList.drop 1)).1), 0, []⟩ from by unfold nodeR; rw [if_neg h33, if_neg h34, if_pos h45])
  have hp1 := pre_pos h45
  have HH33 : Hid (∀ u, Calls Tryd.prog 25 #[.string s, .string ⟨#[33]⟩] u fun e w' => e = .returned (.bool false) ∧ w' = u) := fun u => by have h := HHP.out ⟨#[33]⟩ u; rw [show (⟨#[33]⟩ : ByteArray).data.toList = [33] from rfl, Bool.eq_false_iff.2 h33] at h; exact h
  have HH34 : Hid (∀ u, Calls Tryd.prog 25 #[.string s, .string ⟨#[34]⟩] u fun e w' => e = .returned (.bool false) ∧ w' = u) := fun u => by have h := HHP.out ⟨#[34]⟩ u; rw [show (⟨#[34]⟩ : ByteArray).data.toList = [34] from rfl, Bool.eq_false_iff.2 h34] at h; exact h
  have HH45 : Hid (∀ u, Calls Tryd.prog 25 #[.string s, .string ⟨#[45]⟩] u fun e w' => e = .returned (.bool true) ∧ w' = u) := fun u => by have h := HHP.out ⟨#[45]⟩ u; rw [show (⟨#[45]⟩ : ByteArray).data.toList = [45] from rfl, h45] at h; exact h
  obtain ⟨bt, br, bk, hbt, _, _, HU⟩ := unq3 (s.extract 1 s.size) (by simp only [ByteArray.size_extract]; omega)
  rw [← cut_from] at hbt
  rw [show bytesOf (unquoteR (s.data.toList.drop 1)).1 = bt from hbt.symm] at HN
  clear hbt
  clear h33 h34 h45 HHP HUQ hx0
  go_enter Tryd.func28, Tryd.ntmps28
  go_upto_region 1 with fail
  rw [← hw0]
  clear hw0
  go_upto_region 8 with (go_at_call 25; (first | (with_reducible refine (HH33.out _).mono ?_) | (with_reducible refine (HH34.out _).mono ?_) | (with_reducible refine (HH45.out _).mono ?_)); rintro e' w2 ⟨rfl, rfl⟩)
  go_upto_region 9 with (go_at_call 56; refine (HU.out _).mono ?_; rintro e' w3 ⟨rfl, hb3⟩)
  have hc3 := (hb3.block _ (Array.getElem?_eq_some_iff.1 HX0.out).1).trans HX0.out
  have HB3 := Lib.hid (HB0.out.trans (hb3.mono HB0.out.size))
  have f0 := free_blk (i := 0) hc3
  have f1 := free_blk (i := 1) hc3
  have f2 := free_blk (i := 2) hc3
  have f3 := free_blk (i := 3) hc3
  have f4 := free_blk (i := 4) hc3
  have f5 := free_blk (i := 5) hc3
  have o0 := cell_blk (i := 0) hc3 rfl
  have o1 := cell_blk (i := 1) hc3 rfl
  have o2 := cell_blk (i := 2) hc3 rfl
  have o3 := cell_blk (i := 3) hc3 rfl
  have o4 := cell_blk (i := 4) hc3 rfl
  have o5 := cell_blk (i := 5) hc3 rfl
  have HS := Lib.hid (set6_blk hc3 (.int .i64 4) (.string ⟨#[]⟩) (.slice none 0 0) (.string bt) (.int .i64 0) (.slice none 0 0))
  have HSB := Lib.hid (set6_below HB3.out (Nat.le_refl _) (.int .i64 4) (.string ⟨#[]⟩) (.slice none 0 0) (.string bt) (.int .i64 0) (.slice none 0 0))
  clear hc3 hb3
  go_wp2_with fail
  have z0 := cell_blk (i := 0) HS.out rfl
  have z1 := cell_blk (i := 1) HS.out rfl
  have z2 := cell_blk (i := 2) HS.out rfl
  have z3 := cell_blk (i := 3) HS.out rfl
  have z4 := cell_blk (i := 4) HS.out rfl
  have z5 := cell_blk (i := 5) HS.out rfl
  unfold set6 at z0 z1 z2 z3 z4 z5 HSB
  refine bodyPost_ret (v := .agg #[.int .i64 4, .string ⟨#[]⟩, .slice none 0 0, .string bt, .int .i64 0, .slice none 0 0]) (by simp [results, Tryd.results28, go_sem, z0, z1, z2, z3, z4, z5]) rfl ?_
  rw [HN.out]
  exact ⟨none, 0, rfl, OwnF.nil _ _ _, HSB.out⟩
end Go.Proofs.YtfgmfmkibjfknaaDoor
