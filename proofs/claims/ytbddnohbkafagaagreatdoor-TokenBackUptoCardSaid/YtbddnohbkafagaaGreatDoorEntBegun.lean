/-
What reading does with plain text; entityBegun.
-/
import Derived.Test.YtbddnohbkafagaaGreatDoorEntRead
namespace Go.Proofs.YtbddnohbkafagaaGreatDoor
open Go.RowKit Go.Cl

theorem ba_ext {a b : ByteArray} (h : a.data.toList = b.data.toList) : a = b := ByteArray.ext (Array.ext' h)
theorem find_plain {s : ByteArray} {b : UInt8} {l : List UInt8} (h : s.data.toList = b :: l) (hb : b ≠ 38) (attr : Bool) : stepB s attr = (⟨#[b]⟩, 1) := by
  have hf : findB s attr = (⟨#[]⟩, 0) := by
    unfold findB
    rw [h, if_neg (by simpa using hb)]
  unfold stepB
  rw [hf, if_pos rfl]
  congr 1
  apply ba_ext
  rw [ByteArray.data_extract, Array.toList_extract, List.extract_eq_take_drop, h]
  rfl
theorem read_cons (b : UInt8) (l : List UInt8) (hb : b ≠ 38) (attr : Bool) : readL ⟨(b :: l).toArray⟩ attr = b :: readL ⟨l.toArray⟩ attr := by
  have hs : (ByteArray.mk (b :: l).toArray).size = l.length + 1 := by simp [ByteArray.size]
  rw [readL_step (by omega), find_plain (l := l) (b := b) rfl hb]
  show [b] ++ _ = _
  have : (ByteArray.mk (b :: l).toArray).extract 1 (ByteArray.mk (b :: l).toArray).size = ⟨l.toArray⟩ := by
    apply ba_ext
    rw [drop_one]
    rfl
  rw [this]
  rfl
theorem read_app (l t : List UInt8) (hl : ∀ b ∈ l, b ≠ 38) (attr : Bool) : readL ⟨(l ++ t).toArray⟩ attr = l ++ readL ⟨t.toArray⟩ attr := by
  induction l with
  | nil => rfl
  | cons b l ih =>
    rw [List.cons_append, read_cons b (l ++ t) (hl b (List.mem_cons_self ..)), ih (fun x hx => hl x (List.mem_cons_of_mem _ hx))]
    rfl
theorem read_plain {p : ByteArray} (hp : ∀ b ∈ p.data.toList, b ≠ 38) (attr : Bool) : (ByteArray.mk (readL p attr).toArray) = p := by
  apply ba_ext
  have h := read_app p.data.toList [] hp attr
  rw [List.append_nil] at h
  have h0 : readL ⟨[].toArray⟩ attr = [] := readL_nil rfl attr
  rw [h0, List.append_nil] at h
  exact h
theorem read_join {p : ByteArray} (hp : ∀ b ∈ p.data.toList, b ≠ 38) (t : ByteArray) (attr : Bool) : (ByteArray.mk (readL (p ++ t) attr).toArray) = p ++ ByteArray.mk (readL t attr).toArray := by
  have h := read_app p.data.toList t.data.toList hp attr
  have h1 : (ByteArray.mk (p.data.toList ++ t.data.toList).toArray) = p ++ t := by
    apply ba_ext
    simp
  rw [h1] at h
  have h2 : (ByteArray.mk t.data.toList.toArray) = t := by apply ba_ext; rfl
  rw [h2] at h
  apply ba_ext
  rw [h]
  simp

theorem readN_len (f : Nat) : ∀ (s : ByteArray) (attr : Bool), s.size ≤ f → (readN f s attr).length ≤ 4 * s.size := by
  induction f with
  | zero => intro s attr _; exact Nat.zero_le _
  | succ f ih =>
    intro s attr h
    rw [readN]
    split
    · exact Nat.zero_le _
    · have hs := stepB_le (show 1 ≤ s.size by omega) attr
      have hc := cut_size s (stepB s attr).2
      have h1 := ih (s.extract (stepB s attr).2 s.size) attr (by omega)
      rw [List.length_append, show (stepB s attr).1.data.toList.length = (stepB s attr).1.size from by simp]
      omega
theorem readL_len (s : ByteArray) (attr : Bool) : (ByteArray.mk (readL s attr).toArray).size ≤ 4 * s.size := by
  show (readL s attr).toArray.size ≤ 4 * s.size
  rw [List.size_toArray]
  exact readN_len s.size s attr (Nat.le_refl _)

set_option maxRecDepth 100000 in
theorem begun_t : readL (⟨#[38, 108, 116, 59, 38, 97, 109, 112, 59, 38, 99, 111, 112, 121, 38, 35, 120, 52, 49]⟩ : ByteArray) false = [60, 38, 194, 169, 65] := by decide +kernel
set_option maxRecDepth 100000 in
theorem begun_v : readL (⟨#[38, 99, 111, 112, 121, 61, 49, 38, 108, 116, 59]⟩ : ByteArray) true = [38, 99, 111, 112, 121, 61, 49, 60] := by decide +kernel

end Go.Proofs.YtbddnohbkafagaaGreatDoor
