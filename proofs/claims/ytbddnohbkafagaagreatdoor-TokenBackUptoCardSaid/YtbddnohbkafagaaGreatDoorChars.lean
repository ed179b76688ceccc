/-
The walks of package chars: write, Encode.
-/
import Derived.Test.YtbddnohbkafagaaGreatDoorBuilder
namespace Go.Proofs.YtbddnohbkafagaaGreatDoor
open Go.RowKit Go.Cl

/-- The bytes of signs. -/
def encB (l : List Int) : List UInt8 := l.flatMap Lib.encodeRune
theorem enc_snoc (l : List Int) (r : Int) : Lib.byteCells (encB (l ++ [r])) = Lib.byteCells (encB l) ++ Lib.runeCells r := by
  rw [← Lib.byteCells_encodeRune, ← Lib.byteCells_append]
  unfold encB
  simp
theorem enc_rune_le (r : Int) : (Lib.encodeRune r).length ≤ 4 := by rw [← Lib.runeCells_length]; exact (Lib.runeCells_le r).2
theorem enc_le (l : List Int) : (encB l).length ≤ 4 * l.length := by
  induction l with
  | nil => simp [encB]
  | cons r l ih =>
    have h := enc_rune_le r
    simp only [encB, List.flatMap_cons, List.length_append, List.length_cons] at *
    omega
/-- The block of a fresh builder. -/
theorem bld_new (w : World) : Bld w.heap.size w.heap.size [] (w.alloc (.cells #[.pointer none, .slice none 0 0] 44)) := Lib.fresh_isBuilder _ _ w
theorem bld_al {B b : Nat} {l : List Value} {w : World} (h : Bld B b l w) (o : Obj) : Bld B b l (w.alloc o) := by
  rcases h with ⟨hB, v, hb, hown, hne⟩ | ⟨hB, v, hb, hown, hne⟩
  · exact Or.inl ⟨hB, v, (Lib.alloc_old w o b (Lib.BuilderAt.lt ⟨hB, v, hb, hown, hne⟩)).trans hb, hown.alloc _, hne⟩
  · exact Or.inr ⟨hB, v, (Lib.alloc_old w o b (Lib.BuilderAt.lt ⟨hB, v, hb, hown, hne⟩)).trans hb, hown.alloc _, hne⟩

theorem write_any (B b : Nat) (bs : List Value) (r : Int) (hr : (Lit.int .i32 r).wf = true) (w : World) (h : Bld B b bs w) (hlen : bs.length + 4 ≤ 140737488355328) (hBw : B ≤ w.heap.size) :
    Calls Tryz.prog 106 #[.pointer (some ⟨b, 0, none⟩), .int .i32 r] w fun e w' => e = .returned (.tuple #[]) ∧ (Bld B b (bs ++ Lib.runeCells r) w' ∧ Below B w w') := by
  have hr' : -2147483648 ≤ r ∧ r ≤ 2147483647 := by
    have h1 : IntKind.i32.min = -2147483648 := by decide
    have h2 : IntKind.i32.max = 2147483647 := by decide
    simp [Lit.wf, h1, h2] at hr
    omega
  cases hv : Lib.validRune r
  · have hbad : Lib.runeCells r = Lib.runeCells 65533 := by
      have hb : r < 0 ∨ (55296 ≤ r ∧ r ≤ 57343) ∨ 1114111 < r := by
        unfold Lib.validRune at hv
        have := of_decide_eq_false hv
        omega
      unfold Lib.runeCells
      rw [Lib.encodeRuneZ_bad hb]
      rfl
    go_enter Tryz.func106, Tryz.ntmps106
    go_wp2_with fail
    refine (Tryz.utf8_ValidRune r _).mono ?_
    rintro e w1 ⟨rfl, rfl⟩
    rw [hv]
    go_wp2_with fail
    refine (writeRune_any B b bs 65533 (by omega) (by omega) _ h hlen hBw).mono ?_
    rintro e w2 ⟨⟨k, rfl⟩, h2, hb2⟩
    go_wp2_with fail
    go_end0
    exact ⟨rfl, by rw [hbad]; exact h2, hb2⟩
  · go_enter Tryz.func106, Tryz.ntmps106
    go_wp2_with fail
    refine (Tryz.utf8_ValidRune r _).mono ?_
    rintro e w1 ⟨rfl, rfl⟩
    rw [hv]
    go_wp2_with fail
    refine (writeRune_any B b bs r hr'.1 hr'.2 _ h hlen hBw).mono ?_
    rintro e w2 ⟨⟨k, rfl⟩, h2, hb2⟩
    go_wp2_with fail
    go_end0
    exact ⟨rfl, h2, hb2⟩

theorem encode_any (A : Option Addr) (n c : Nat) (l : List Int) (w : World) (B : Nat) (hl : Sl (tInt .i32) w (lt B) A n c l) (hB : B ≤ w.heap.size) :
    Calls Tryz.prog 105 #[.slice A n c] w fun e w' => e = .returned (.string ⟨(encB l).toArray⟩) ∧ Below w.heap.size w w' := by
  have HL := Lib.hid hl.hn
  have hn1 : n * 4 ≤ 140737488355328 := hl.hb
  go_enter Tryz.func105, Tryz.ntmps105
  go_wp2_with fail
  go_loopw [5, 8] (fun _ i wr => ∃ k : Nat, k ≤ n ∧ i = .int .i64 (k : Int) ∧ Below w.heap.size w wr ∧ Bld w.heap.size w.heap.size (Lib.byteCells (encB (l.take k))) wr) (fun _ i _ => n - (intOf i).toNat)
  case atStart => exact ⟨0, Nat.zero_le _, rfl, (Below.refl _ _).alloc (Nat.le_refl _) _, bld_new w⟩
  case round =>
    obtain ⟨k, hk, rfl, hb, hbld⟩ := hrel
    by_cases hlt : k < n
    · obtain ⟨x, hx⟩ : ∃ x, l[k]? = some x := get_some (by have := HL.out; omega)
      obtain ⟨g, o, rfl, hg, hc, hw⟩ := (hl.below hb hB).int hx
      have hsz := hb.size
      have HX := Lib.hid (show l.take (k + 1) = l.take k ++ [x] from by rw [List.take_add_one, hx]; rfl)
      have HW := Lib.hid (write_any w.heap.size w.heap.size _ x hw wr hbld (by
        rw [Lib.byteCells_length]
        have := enc_le (l.take k)
        rw [List.length_take] at this
        omega) hsz)
      clear hx hw
      go_wp2_with fail
      refine HW.out.mono ?_
      rintro e w2 ⟨rfl, h2, hb2⟩
      go_wp2_with fail
      go_roundw
      case rel => exact ⟨k + 1, by omega, by go_num, hb.trans hb2, by rw [HX.out, enc_snoc]; exact h2⟩
      case measure => simp [intOf]; omega
    · have hkn : l.take k = l := List.take_of_length_le (by have := HL.out; omega)
      rw [hkn] at hbld
      have HS := Lib.hid (Tryz.Builder_String_any w.heap.size w.heap.size (encB l) wr hbld hb.size)
      clear hkn hbld
      go_wp2_with fail
      refine HS.out.mono ?_
      rintro e w2 ⟨rfl, hb2⟩
      go_wp2_with fail
      go_ret
      exact ⟨rfl, hb.trans hb2⟩
end Go.Proofs.YtbddnohbkafagaaGreatDoor
