/-
serial.quoted.
-/
import Derived.Test.YtfgmfmkibjfknaaDoorSerBytes
import Derived.Laws.BitsAllLaws
namespace Go.Proofs.YtfgmfmkibjfknaaDoor
open Go.RowKit Go.Cl
attribute [local go_sem ↓] Go.wp_at_zero Go.wp_at_succ

abbrev hexS : ByteArray := (⟨#[48, 49, 50, 51, 52, 53, 54, 55, 56, 57, 97, 98, 99, 100, 101, 102]⟩ : ByteArray)
/-- A byte as it is quoted. -/
def qByte (b : UInt8) : List UInt8 :=
  if b.toNat < 32 ∨ 126 < b.toNat ∨ b = 34 ∨ b = 92 then [92, hexS.data.toList.getD (b.toNat / 16) 0, hexS.data.toList.getD (b.toNat % 16) 0] else [b]
def quoteL (l : List UInt8) : List UInt8 := 34 :: l.flatMap qByte ++ [34]
theorem hex_at (m : Nat) (h : m < hexS.size) : hexS[m] = hexS.data.toList.getD m 0 := by
  have h2 : m < hexS.data.toList.length := h
  rw [List.getD_eq_getElem?_getD, List.getElem?_eq_getElem h2]
  rfl
theorem cell_q (w : World) (b c : UInt8) : ∀ j u, (Lib.byteCells [92, b, c])[j]? = some u → (w.alloc (.cells #[.int .u8 92, .int .u8 b.toNat, .int .u8 c.toNat] 5)).drew.cell? ⟨w.heap.size, 0 + j, none⟩ = some u := fun j u hu =>
  cell_new w [.int .u8 92, .int .u8 b.toNat, .int .u8 c.toNat] 5 j u hu
theorem and15 (b : UInt8) : bits .and .u8 (b.toNat : Int) 15 = (b.toNat : Int) % 16 := by
  have h := b.toNat_lt
  have h1 := u8_and_nat b.toNat 15 (by omega) (by omega)
  have h2 : b.toNat &&& 15 = b.toNat % 16 := Nat.and_two_pow_sub_one_eq_mod b.toNat 4
  rw [h2] at h1
  simpa using h1
theorem qByte_hex (b : UInt8) (hq : b.toNat < 32 ∨ 126 < b.toNat ∨ b = 34 ∨ b = 92) (p1 : ((b.toNat : Int) / 16).toNat < hexS.size) (p2 : (bits .and .u8 (b.toNat : Int) 15).toNat < hexS.size) : qByte b = [92, hexS[((b.toNat : Int) / 16).toNat], hexS[(bits .and .u8 (b.toNat : Int) 15).toNat]] := by
  unfold qByte
  rw [if_pos hq, hex_at _ p1, hex_at _ p2, and15, show ((b.toNat : Int) / 16).toNat = b.toNat / 16 from by omega, show ((b.toNat : Int) % 16).toNat = b.toNat % 16 from by omega]
theorem qByte_len (b : UInt8) : (qByte b).length ≤ 3 := by
  unfold qByte
  split <;> simp
theorem qByte_34 (b : UInt8) (h : b.toNat = 34) : qByte b = [92, 50, 50] := by
  rw [UInt8.toNat_inj.1 (show b.toNat = (34 : UInt8).toNat from h)]
  decide
theorem qByte_92 (b : UInt8) (h : b.toNat = 92) : qByte b = [92, 53, 99] := by
  rw [UInt8.toNat_inj.1 (show b.toNat = (92 : UInt8).toNat from h)]
  decide
theorem q_take {xs : List UInt8} {k : Nat} (h : k < xs.length) {l : List UInt8} (hl : l = 34 :: (xs.take k).flatMap qByte) : l ++ qByte xs[k] = 34 :: (xs.take (k + 1)).flatMap qByte := by
  rw [List.take_add_one, List.getElem?_eq_getElem h, hl, List.flatMap_append]
  simp
set_option maxRecDepth 100000 in
set_option maxHeartbeats 8000000 in
theorem quoted_any (s : ByteArray) (w : World) (hs : s.size ≤ 1000000000) :
    Calls Tryd.prog 125 #[.string s] w fun e w' => e = .returned (.string ⟨(quoteL s.data.toList).toArray⟩) ∧ Below w.heap.size w w' := by
  have hlen : s.data.toList.length = s.size := by simp
  have HLEN := Lib.hid hlen
  clear hlen
  go_enter Tryd.func125, Tryd.ntmps125
  go_wp2_with fail
  go_loopw [3, 9] (fun v i wr => ∃ (k : Nat) (l : List UInt8), k ≤ s.size ∧ i = .int .i64 (k : Int) ∧ Hid (l = 34 :: (s.data.toList.take k).flatMap qByte) ∧ Hid (l.length ≤ 1 + 3 * k) ∧ OwnB wr w.heap.size v l ∧ Below w.heap.size w wr) (fun _ i _ => s.size - (intOf i).toNat)
  case atStart => exact ⟨0, [34], Nat.zero_le _, rfl, Lib.hid rfl, Lib.hid (Nat.le_refl _), own_byte_new w 34 _ (Nat.le_refl _) (by decide), (Below.refl _ _).alloc (Nat.le_refl _) _⟩
  case round =>
    obtain ⟨k, l, hk, rfl, HL, HLL, hown, hb⟩ := hrel
    have hz := hb.size
    have hll : l.length ≤ 3000000001 := by have := HLL.out; omega
    by_cases hlt : k < s.size
    · have HKL : Hid (k < s.data.toList.length) := by have := HLEN.out; show k < _; omega
      have HQN := Lib.hid (show l ++ qByte s[k] = 34 :: (s.data.toList.take (k + 1)).flatMap qByte from q_take HKL.out HL.out)
      have HQL : Hid ((l ++ qByte s[k]).length ≤ 1 + 3 * (k + 1)) := by have := HLL.out; have := qByte_len s[k]; show _ ≤ _; rw [List.length_append]; omega
      have hlt8 := s[k].toNat_lt
      by_cases hq : s[k].toNat < 32 ∨ 126 < s[k].toNat ∨ s[k] = 34 ∨ s[k] = 92
      · have va := and15 s[k]
        have p1 : ((s[k].toNat : Int) / 16).toNat < hexS.size := by show _ < 16; omega
        have p2 : (bits .and .u8 (s[k].toNat : Int) 15).toNat < hexS.size := by rw [va]; show _ < 16; omega
        have HQ := Lib.hid (qByte_hex s[k] hq p1 p2)
        have i1 : (0 : Int) ≤ (s[k].toNat : Int) / 16 := by omega
        have i2 : (s[k].toNat : Int) / 16 < 16 := by omega
        have i3 : (0 : Int) ≤ bits .and .u8 (s[k].toNat : Int) 15 := by omega
        have i4 : bits .and .u8 (s[k].toNat : Int) 15 < 16 := by omega
        clear va
        have HC : Hid (s[k].toNat < 32 ∨ (¬ s[k].toNat < 32 ∧ 126 < s[k].toNat) ∨ (34 ≤ s[k].toNat ∧ s[k].toNat ≤ 34 ∧ ((s[k].toNat : Int) == 34) = true) ∨ (92 ≤ s[k].toNat ∧ s[k].toNat ≤ 92 ∧ ((s[k].toNat : Int) == 34) = false ∧ ((s[k].toNat : Int) == 92) = true)) := by
          have e34 : s[k] = 34 → s[k].toNat = 34 := fun h => by rw [h]; rfl
          have e92 : s[k] = 92 → s[k].toNat = 92 := fun h => by rw [h]; rfl
          show _ ∨ _
          simp only [beq_iff_eq, beq_eq_false_iff_ne]
          rcases hq with h | h | h | h
          · exact Or.inl (by omega)
          · by_cases h0 : s[k].toNat < 32
            · exact Or.inl h0
            · exact Or.inr (Or.inl ⟨h0, h⟩)
          · exact Or.inr (Or.inr (Or.inl (by have := e34 h; omega)))
          · exact Or.inr (Or.inr (Or.inr (by have := e92 h; omega)))
        clear hq
        rcases HC.out with c1 | ⟨c1, c2⟩ | ⟨c1, c2, c3⟩ | ⟨c1, c2, c3, c4⟩
        · clear HC
          go_wp2_with fail
          go_region_held3 (fun _ => True) (trivial) ((refine step_apB _ rfl (.tmp 29) (.tmp 36) 97 rfl elemB (v := u3) rfl (OwnB.alloc hown _).drew (ys := [92, hexS[((s[k].toNat : Int) / 16).toNat]'p1, hexS[(bits .and .u8 (s[k].toNat : Int) 15).toNat]'p2]) rfl rfl (cell_q wr _ _) (by simp only [List.length_cons, List.length_nil]; omega) (by show _ ≤ (wr.alloc _).heap.size; rw [World.size_alloc]; omega) ?_; intro v9 w9 hown9 hbl9))
          all_goals
            have hb9 : Below w.heap.size w w9 := (((hb.alloc hz _).drew)).trans hbl9
            rw [← HQ.out] at hown9
            clear hbl9
            go_wp2_with fail
            go_roundw
            case rel => exact ⟨k + 1, _, by omega, by go_num, Lib.hid HQN.out, HQL, hown9, hb9⟩
            case measure => simp [intOf]; omega
        · clear HC
          go_wp2_with fail
          go_region_held3 (fun _ => True) (trivial) ((refine step_apB _ rfl (.tmp 29) (.tmp 36) 97 rfl elemB (v := u3) rfl (OwnB.alloc hown _).drew (ys := [92, hexS[((s[k].toNat : Int) / 16).toNat]'p1, hexS[(bits .and .u8 (s[k].toNat : Int) 15).toNat]'p2]) rfl rfl (cell_q wr _ _) (by simp only [List.length_cons, List.length_nil]; omega) (by show _ ≤ (wr.alloc _).heap.size; rw [World.size_alloc]; omega) ?_; intro v9 w9 hown9 hbl9))
          all_goals
            have hb9 : Below w.heap.size w w9 := (((hb.alloc hz _).drew)).trans hbl9
            rw [← HQ.out] at hown9
            clear hbl9
            go_wp2_with fail
            go_roundw
            case rel => exact ⟨k + 1, _, by omega, by go_num, Lib.hid HQN.out, HQL, hown9, hb9⟩
            case measure => simp [intOf]; omega
        · clear HC
          have HQ2 := Lib.hid (qByte_34 s[k] (by omega))
          clear HQ
          go_wp2_with fail
          go_region_held3 (fun _ => True) (trivial) ((refine step_apB _ rfl (.tmp 29) (.tmp 36) 97 rfl elemB (v := u3) rfl (OwnB.alloc hown _).drew (ys := [92, 50, 50]) rfl rfl (cell_q wr 50 50) (by simp only [List.length_cons, List.length_nil]; omega) (by show _ ≤ (wr.alloc _).heap.size; rw [World.size_alloc]; omega) ?_; intro v9 w9 hown9 hbl9))
          all_goals
            have hb9 : Below w.heap.size w w9 := (((hb.alloc hz _).drew)).trans hbl9
            rw [← HQ2.out] at hown9
            clear hbl9
            go_wp2_with fail
            go_roundw
            case rel => exact ⟨k + 1, _, by omega, by go_num, Lib.hid HQN.out, HQL, hown9, hb9⟩
            case measure => simp [intOf]; omega
        · clear HC
          go_wp2_with (at_builtin; exfalso; rename_i h0; exact absurd (h0.2.symm.trans c4) (by decide))
          go_region_held3 (fun _ => True) (trivial) ((refine step_apB _ rfl (.tmp 29) (.tmp 36) 97 rfl elemB (v := u3) rfl (OwnB.alloc hown _).drew (ys := [92, hexS[((s[k].toNat : Int) / 16).toNat]'p1, hexS[(bits .and .u8 (s[k].toNat : Int) 15).toNat]'p2]) rfl rfl (cell_q wr _ _) (by simp only [List.length_cons, List.length_nil]; omega) (by show _ ≤ (wr.alloc _).heap.size; rw [World.size_alloc]; omega) ?_; intro v9 w9 hown9 hbl9))
          all_goals
            have hb9 : Below w.heap.size w w9 := (((hb.alloc hz _).drew)).trans hbl9
            rw [← HQ.out] at hown9
            clear hbl9
            go_wp2_with fail
            go_roundw
            case rel => exact ⟨k + 1, _, by omega, by go_num, Lib.hid HQN.out, HQL, hown9, hb9⟩
            case measure => simp [intOf]; omega
      · have HQ := Lib.hid (show qByte s[k] = [s[k]] from if_neg hq)
        have c1 : ¬ s[k].toNat < 32 := fun h => hq (Or.inl h)
        have c2 : ¬ 126 < s[k].toNat := fun h => hq (Or.inr (Or.inl h))
        have c5 : ¬ s[k].toNat = 34 := fun h => hq (Or.inr (Or.inr (Or.inl (UInt8.toNat_inj.1 h))))
        have c6 : ¬ s[k].toNat = 92 := fun h => hq (Or.inr (Or.inr (Or.inr (UInt8.toNat_inj.1 h))))
        have c3 : ((s[k].toNat : Int) == 34) = false := beq_eq_false_iff_ne.2 fun h => hq (Or.inr (Or.inr (Or.inl (UInt8.toNat_inj.1 (show s[k].toNat = 34 from by omega)))))
        have c4 : ((s[k].toNat : Int) == 92) = false := beq_eq_false_iff_ne.2 fun h => hq (Or.inr (Or.inr (Or.inr (UInt8.toNat_inj.1 (show s[k].toNat = 92 from by omega)))))
        clear hq
        go_wp2_with (at_builtin; refine list_apB _ rfl (.tmp 38) (.tmp 40) 97 rfl elemB (v := u3) rfl (OwnB.alloc hown _) (ys := [s[k]]) rfl rfl (cell_new wr [.int .u8 s[k].toNat] _) (by simp only [List.length_cons, List.length_nil]; omega) (by rw [World.size_alloc]; omega) ?_; intro v9 w9 hown9 hbl9)
        · exfalso
          rename_i h1
          simp only [beq_iff_eq] at h1
          omega
        have hb9 : Below w.heap.size w w9 := ((hb.alloc hz _)).trans hbl9
        rw [← HQ.out] at hown9
        clear hbl9
        go_roundw
        case rel => exact ⟨k + 1, _, by omega, by go_num, Lib.hid HQN.out, HQL, hown9, hb9⟩
        case measure => simp [intOf]; omega
    · have HE := Lib.hid (show l ++ [34] = quoteL s.data.toList from by
        rw [HL.out, List.take_of_length_le (by have := HLEN.out; omega)]
        rfl)
      go_wp2_with (at_builtin; refine list_apB _ rfl (.tmp 43) (.tmp 44) 97 rfl elemB (v := u3) rfl (OwnB.alloc hown _) (ys := [34]) rfl rfl (cell_new wr [.int .u8 34] _) (by simp only [List.length_cons, List.length_nil]; omega) (by rw [World.size_alloc]; omega) ?_; intro v9 w9 hown9 hbl9; have hcv := strB hown9)
      have hb9 : Below w.heap.size w w9 := ((hb.alloc hz _)).trans hbl9
      go_ret
      exact ⟨by rw [← HE.out]; rfl, hb9⟩
end Go.Proofs.YtfgmfmkibjfknaaDoor
