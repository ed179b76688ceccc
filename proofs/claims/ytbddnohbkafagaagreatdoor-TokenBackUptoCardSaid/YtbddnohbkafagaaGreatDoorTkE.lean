/-
IndexAny of the blanks, whatever bytes the text has.
-/
import Derived.Test.YtbddnohbkafagaaGreatDoorTkR4
import Derived.Test.YtbddnohbkafagaaGreatDoorIdxRune
import Derived.Test.YtbddnohbkafagaaGreatDoorTkS3
import Derived.Test.YtbddnohbkafagaaGreatDoorTkR6
import Derived.Test.YtbddnohbkafagaaGreatDoorTkF
import Derived.Shelf.Strings.IndexAnyAll
namespace Go.Proofs.YtbddnohbkafagaaGreatDoor
open Go.RowKit Go.Cl
attribute [local go_sem ↓] Go.wp_at_zero Go.wp_at_succ
/-- The bytes that a rune beyond ASCII takes are all beyond ASCII. -/
theorem decode_bytes (s : ByteArray) (pos : Nat) (h : pos < s.size) (ha : 128 ≤ (s[pos]'h).toNat) : ∀ j, j < (Utf8.decode s pos).2 → ∀ b, s.data.toList[pos + j]? = some b → 128 ≤ b.toNat := by
  have hn : ¬ (s[pos]'h).toNat < 128 := by omega
  have key : ∀ j b, s.data.toList[pos + j]? = some b → (s.get! (pos + j)) = b := fun j b hb => by
    have h1 := (List.getElem?_eq_some_iff.1 hb).1
    have hlt : pos + j < s.size := by simpa using h1
    have h2 := Lib.data_getElem? s (pos + j) hlt
    rw [hb] at h2
    have h3 := Go.get_at s (pos + j) hlt
    rw [Nat.add_zero] at h3
    rw [h3]
    injection h2.symm
  have key0 : ∀ b, s.data.toList[pos + 0]? = some b → 128 ≤ b.toNat := fun b hb => by
    have := key 0 b hb
    rw [Go.get_at s pos h] at this
    rw [← this]; exact ha
  intro j hj b hb
  have hkb := key j b hb
  simp only [Utf8.decode, Go.get_at s pos h, hn, if_false] at hj
  have j0 : j = 0 ∨ 1 ≤ j := by omega
  rcases j0 with rfl | j1
  · exact key0 b hb
  repeat' split at hj
  all_goals (try simp only at hj)
  all_goals (try omega)
  all_goals (rename_i hc _; simp only [Bool.and_eq_true, decide_eq_true_eq, beq_iff_eq] at hc)
  all_goals (rw [← hkb])
  all_goals (obtain rfl | rfl | rfl : j = 1 ∨ j = 2 ∨ j = 3 := by omega)
  all_goals omega
theorem blanks_zero : ∀ w : World, (zeroValue 114).run Tryz.prog w = .ok (.agg (Array.replicate 256 (.bool false))) w := fun _ => by kernel_rfl
theorem any_low (x : UInt8) : decide (0 ≤ Lib.indexByte wsB.data.toList x) = ([32, 9, 10, 12, 13] : List UInt8).contains x := (Lib.contains_iff_indexByte _ x).symm
set_option maxRecDepth 1000000 in
set_option maxHeartbeats 8000000 in
theorem any_short (s : ByteArray) (w : World) (h8 : s.size ≤ 8) :
    Calls Tryz.prog 54 #[.string s, .string ⟨#[32, 9, 10, 12, 13]⟩] w fun e w' => e = .returned (.int .i64 (Lib.indexAny s.data.toList [32, 9, 10, 12, 13])) ∧ Below w.heap.size w w' := by
  have h8z : decide ((8 : Int) < (s.size : Int)) = false := decide_eq_false (by omega)
  have h8p : ¬ (8 : Int) < (s.size : Int) := by omega
  have HSA := Lib.hid (fun W : World => (show Calls Tryz.prog 78 #[.int .i64 (s.size : Int)] W fun e w' => e = .returned (.bool false) ∧ w' = W from h8z ▸ Tryz.strings_shouldUseASCIISet (s.size : Int) W))
  have HLO := Lib.hid (fun (r : Int) (W : World) => Tryz.strings_IndexRune_ascii wsB r W)
  have HHI := Lib.hid (fun (r : Nat) (h : 128 ≤ r) (W : World) => indexRune_high r h W)
  go_enter Tryz.func54, Tryz.ntmps54
  go_wp2_with (go_at_call 78; refine (HSA.out _).mono ?_; rintro e w' ⟨rfl, hw⟩; rw [hw]; clear hw)
  go_loopg [] s.size (fun g wx => ∃ pos : Nat, s.size ≤ pos + g ∧ wx.heap[w.heap.size]? = some (.stringIter s pos) ∧ Below w.heap.size w wx ∧ Hid (Lib.NoAny s.data.toList [32, 9, 10, 12, 13] pos))
  case atStart => exact ⟨0, by omega, World.iter_heap w s 0, (Below.refl _ _).alloc (Nat.le_refl _) _, Lib.NoAny.zero _ _⟩
  case round =>
    obtain ⟨pos, hpg, hit, hb, HN⟩ := hrel
    by_cases hlt : pos < s.size
    · by_cases hx : (s[pos]'hlt).toNat < 128
      · have hnx : ∀ ty, (Instr.next (.pointer (some ⟨w.heap.size, 0, none⟩)) true ty).run Tryz.prog wr = _ := fun ty => Lib.run_next_ascii_at wr w.heap.size s pos ty hit hlt hx
        have hit2 := Lib.iterAt_heap wr w.heap.size s pos (pos + 1) hit
        have hb2 := Lib.below_iterAt hb (k := w.heap.size) (Nat.le_refl _) s (pos + 1)
        obtain ⟨W, hW⟩ : ∃ W, wr.iterAt w.heap.size s (pos + 1) = W := ⟨_, rfl⟩
        rw [hW] at hnx hit2 hb2
        obtain ⟨x, hx0⟩ : ∃ x : UInt8, s[pos]'hlt = x := ⟨_, rfl⟩
        have HX : Hid (s.data.toList[pos]? = some x) := by rw [← hx0]; exact Lib.data_getElem? s pos hlt
        rw [hx0] at hnx hx
        clear hit hb hW hx0
        have HR := Lib.hid (fun U : World => HLO.out (x.toNat : Int) U (by omega) (by omega))
        have hback : ((x.toNat : Int)).toNat.toUInt8 = x := by simp
        have hcon := any_low x
        rw [hback] at HR
        clear hback
        obtain ⟨z, hz⟩ : ∃ z, Lib.indexByte wsB.data.toList x = z := ⟨_, rfl⟩
        rw [hz] at hcon HR
        clear hz
        cases hin : ([32, 9, 10, 12, 13] : List UInt8).contains x with
        | false =>
          rw [hin] at hcon
          have hz0 : ¬ (0 : Int) ≤ z := of_decide_eq_false hcon
          have HN2 := Lib.hid (HN.out.succ HX.out hin)
          clear hcon hin
          have hws : wsB = ⟨#[32, 9, 10, 12, 13]⟩ := rfl
          rw [hws] at HR
          clear hws
          go_wp2_with (go_at_call 77; refine (HR.out _).mono ?_; rintro e w' ⟨rfl, hw⟩; rw [hw]; clear hw)
          go_roundg (gk - 1)
          case measure => omega
          case rel => exact ⟨pos + 1, by omega, hit2, hb2, HN2⟩
        | true =>
          rw [hin] at hcon
          have hz0 : (0 : Int) ≤ z := of_decide_eq_true hcon
          have HV := Lib.hid (Lib.indexAny_hit HN.out HX.out hin)
          clear hcon hin
          have hws : wsB = ⟨#[32, 9, 10, 12, 13]⟩ := rfl
          rw [hws] at HR
          clear hws
          go_wp2_with (go_at_call 77; refine (HR.out _).mono ?_; rintro e w' ⟨rfl, hw⟩; rw [hw]; clear hw)
          go_ret
          exact ⟨by rw [HV.out]; rfl, hb2⟩
      · have hx2 : 128 ≤ (s[pos]'hlt).toNat := by omega
        obtain ⟨hd1, hd2⟩ := Go.decode_high s pos hlt hx2
        have hdb := decode_bytes s pos hlt hx2
        have hnx : ∀ ty, (Instr.next (.pointer (some ⟨w.heap.size, 0, none⟩)) true ty).run Tryz.prog wr = _ := fun ty => Lib.run_next_any_at wr w.heap.size s pos ty hit hlt
        obtain ⟨R, hR⟩ : ∃ R, (Utf8.decode s pos).1 = R := ⟨_, rfl⟩
        obtain ⟨K, hK⟩ : ∃ K, (Utf8.decode s pos).2 = K := ⟨_, rfl⟩
        rw [hR, hK] at hnx
        rw [hR] at hd1
        rw [hK] at hd2 hdb
        clear hR hK hx hx2
        have hit2 := Lib.iterAt_heap wr w.heap.size s pos (pos + K) hit
        have hb2 := Lib.below_iterAt hb (k := w.heap.size) (Nat.le_refl _) s (pos + K)
        obtain ⟨W, hW⟩ : ∃ W, wr.iterAt w.heap.size s (pos + K) = W := ⟨_, rfl⟩
        rw [hW] at hnx hit2 hb2
        clear hit hb hW
        have HN2 : Hid (Lib.NoAny s.data.toList [32, 9, 10, 12, 13] (pos + K)) := fun j b hj hb => by
          by_cases hjp : j < pos
          · exact HN.out j b hjp hb
          · have h1 := hdb (j - pos) (by omega) b (by rw [show pos + (j - pos) = j by omega]; exact hb)
            have h2 : isBl b = false := by
              unfold isBl
              simp only [List.contains_cons, List.contains_nil, Bool.or_false, Bool.or_eq_false_iff, beq_eq_false_iff_ne]
              refine ⟨?_, ?_, ?_, ?_, ?_⟩ <;> rintro rfl <;> exact absurd h1 (by decide)
            exact h2
        clear hdb
        have HR := Lib.hid (fun U : World => HHI.out R hd1 U)
        have hws : wsB = ⟨#[32, 9, 10, 12, 13]⟩ := rfl
        rw [hws] at HR
        clear hws
        go_wp2_with (go_at_call 77; refine (HR.out _).mono ?_; rintro e w' ⟨rfl, hb3⟩; have HB3 := Lib.hid (hb2.trans (hb3.mono hb2.size)); have hit3 := (hb3.block w.heap.size (Array.getElem?_eq_some_iff.1 hit2).1).trans hit2; clear hb3)
        go_roundg (gk - 1)
        case measure => omega
        case rel => exact ⟨pos + K, by omega, hit3, HB3.out, HN2⟩
    · have hnx : ∀ ty, (Instr.next (.pointer (some ⟨w.heap.size, 0, none⟩)) true ty).run Tryz.prog wr = _ := fun ty => Lib.run_next_end_at wr w.heap.size s pos ty hit hlt
      have HV := Lib.hid (Lib.indexAny_none (s := s.data.toList) (chars := [32, 9, 10, 12, 13]) fun j b hj hb => HN.out j b (by rw [← Lib.size_eq] at hj; omega) hb)
      clear hit
      go_wp2_with fail
      go_ret
      exact ⟨by rw [HV.out]; rfl, hb⟩
theorem any_ok (w0 : World) (X : Nat) : AnyOk w0 X := by
  intro u _ s hs
  by_cases h8 : s.size ≤ 8
  · exact any_short s u h8
  · refine (Tryz.strings_IndexAny_long blanks_zero s ⟨#[32, 9, 10, 12, 13]⟩ u (by decide) (by omega) (by omega) (by decide) ?_).mono fun e w' h => ⟨h.1, by rw [h.2]; exact ((Below.refl _ _).alloc (Nat.le_refl _) _).alloc (by simp) _⟩
    intro j b hb
    have := List.mem_of_getElem? hb
    have h2 : ∀ x ∈ ([32, 9, 10, 12, 13] : List UInt8), x.toNat < 128 := by decide
    exact h2 b this
end Go.Proofs.YtbddnohbkafagaaGreatDoor

/-
Tokens: what the statements lean on: some; Read's tokens as a slice.
-/
namespace Go.Proofs.YtbddnohbkafagaaGreatDoor
open Go.RowKit Go.Cl
attribute [local go_sem ↓] Go.wp_at_zero Go.wp_at_succ
theorem tkSome_any (s : ByteArray) (n : Nat) (w : World) (hn : n ≤ 1000000) :
    Calls Tryz.prog 11 #[.string s, .int .i64 n] w fun e w' => (∃ t : ByteArray, e = .returned (.string t) ∧ t.size ≤ n) ∧ w = w' := by
  obtain ⟨k, hk, hk1, hk2, _⟩ := min_nat s.size n (by omega)
  have hkn : k ≤ n := by omega
  go_enter Tryz.func11, Tryz.ntmps11
  go_wp2_with fail
  go_ret
  exact ⟨⟨_, rfl, by simp; omega⟩, rfl⟩
theorem chain_len {l : List Pl} : ∀ {hi : Nat}, ChainP hi l → l.length ≤ hi := by
  induction l with
  | nil => intro hi _; exact Nat.zero_le _
  | cons x l ih =>
    intro hi h
    have := ih h.2.2
    have h1 := h.1
    have h2 := h.2.1
    rw [List.length_cons]
    omega
/-- The tokens that Read tells, as a slice. -/
theorem ra_sl {w w' : World} {X : Nat} {s : ByteArray} {r : List UInt8} {E : Int} {v : Value} {n : Nat} {toks : List TkP} (h : Ra w w' X s r E v n toks) (hl : toks.length ≤ 1000000) : ∃ A c, v = .slice A n c ∧ Sl tTok w' (lt w'.heap.size) A n c toks := by
  obtain ⟨A, c, rfl⟩ := Cl.Own.form h.own
  have hf := h.few
  refine ⟨A, c, rfl, (Cl.Own.sl (Cl.Own.more h.own fun b hb => hb.2.1) (by decide) (by show n * 88 ≤ _; omega)).more fun b hb => by rcases hb with hb | hb; exact hb; exact hb.2⟩
/-- Read: what it tells of texts of up to 4000 bytes. -/
theorem tkRead_sl (w : World) (s : ByteArray) (hs : s.size ≤ 4000) (m : Int) (hm : maxLenAt w m) (hT : FoldTabs w) :
    Calls Tryz.prog 9 #[.string s] w fun e w' => ∃ A n c, e = .returned (.tuple #[.slice A n c, .int .i64 0]) ∧ Below w.heap.size w w' ∧ Sl tTok w' (lt w'.heap.size) A n c ((readF s.data.toList).1.map (plOf s)) := by
  refine (tkRead_ok w s hs ⟨m, hm⟩ (fold_ok w w.heap.size (Nat.le_refl _) hT) (any_ok w w.heap.size)).mono ?_
  rintro e w' ⟨r, v, n, rfl, h⟩
  have hc := chain_len (places_law s.data.toList).1
  have hsz := Lib.size_eq s
  obtain ⟨A, c, rfl, h2⟩ := ra_sl h (by rw [List.length_map]; omega)
  exact ⟨A, n, c, rfl, h.low, h2⟩
theorem tkSafe_sl (w : World) (s : ByteArray) (hs : s.size ≤ 4000) (m : Int) (hm : maxLenAt w m) (hT : FoldTabs w) :
    Calls Tryz.prog 12 #[.string s] w fun e w' => e = .returned (.tuple #[.int .i64 (endOf s 0 (readF s.data.toList).2), .int .i64 0]) ∧ Below w.heap.size w w' :=
  tkSafe_ok w s hs ⟨m, hm⟩ (fold_ok w w.heap.size (Nat.le_refl _) hT) (any_ok w w.heap.size)
/-- One token of a slice: its cells. -/
theorem tok_get {w : World} {D : Nat → Prop} {A : Option Addr} {n c : Nat} {xs : List TkP} (h : Sl tTok w D A n c xs) {j : Nat} {x : TkP} (hx : xs[j]? = some x) :
    ∃ b o A2 n2 c2, A = some ⟨b, o, none⟩ ∧ w.cell? ⟨b, o + j * 7, none⟩ = some (.int .i64 x.1.kind) ∧ w.cell? ⟨b, o + j * 7 + 1, none⟩ = some (.string x.1.name) ∧ w.cell? ⟨b, o + j * 7 + 2, none⟩ = some (.slice A2 n2 c2) ∧ w.cell? ⟨b, o + j * 7 + 3, none⟩ = some (.string x.1.text) ∧ w.cell? ⟨b, o + j * 7 + 4, none⟩ = some (.bool x.1.self) ∧ w.cell? ⟨b, o + j * 7 + 5, none⟩ = some (.int .i64 x.2.1) ∧ w.cell? ⟨b, o + j * 7 + 6, none⟩ = some (.int .i64 x.2.2) ∧ Sl tDA w D A2 n2 c2 x.1.attrs := by
  obtain ⟨b, o, cs, e, hD, hrep, hc⟩ := h.get hx
  obtain ⟨A2, n2, c2, rfl, hat⟩ := tok_cells hrep
  exact ⟨b, o, A2, n2, c2, e, hc 0 _ rfl, hc 1 _ rfl, hc 2 _ rfl, hc 3 _ rfl, hc 4 _ rfl, hc 5 _ rfl, hc 6 _ rfl, hat.attrs⟩
end Go.Proofs.YtbddnohbkafagaaGreatDoor
