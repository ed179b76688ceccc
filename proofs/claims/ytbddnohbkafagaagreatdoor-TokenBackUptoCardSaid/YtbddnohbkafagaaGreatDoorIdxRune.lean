/-
Is a rune a blank: strings.ContainsRune of the blanks, at every rune.
-/
import Derived.Test.YtbddnohbkafagaaGreatDoorBase
import Derived.Test.YtbddnohbkafagaaGreatDoorShelf
import Derived.Lib.OthersKept
import Derived.Deep.LoopGhost
import Derived.Deep.QuietTactic
import Derived.BigQuiet
import Derived.Outline
import Derived.Deep.DrawnRows
import Derived.Shelf.Strings.FuncGrows
namespace Go.Proofs.YtbddnohbkafagaaGreatDoor
open Go.RowKit Go.Cl
attribute [local go_sem ↓] Go.wp_at_zero Go.wp_at_succ

def wsB : ByteArray := (⟨#[32, 9, 10, 12, 13]⟩ : ByteArray)
theorem ws_size : wsB.size = 5 := by decide
theorem ws_at : ∀ i : Fin 5, wsB[i.val]'(by have := i.isLt; show i.val < 5; omega) = ([32, 9, 10, 12, 13] : List UInt8)[i.val]'(by have := i.isLt; show i.val < 5; omega) := by decide
theorem ws_low (pos : Nat) (h : pos < wsB.size) : (wsB[pos]'h).toNat < 128 := by
  have h5 : pos < 5 := h
  have h1 := ws_at ⟨pos, h5⟩
  simp only at h1
  rw [h1]
  have : ∀ i : Fin 5, (([32, 9, 10, 12, 13] : List UInt8)[i.val]'(by have := i.isLt; show i.val < 5; omega)).toNat < 128 := by decide
  exact this ⟨pos, h5⟩
/-- A byte beyond ASCII is none of the blanks. -/
theorem ws_none (b : UInt8) (hb : 128 ≤ b.toNat) (k : Nat) : Lib.indexByte (wsB.data.toList.drop k) b = -1 := by
  have h : ∀ l : List UInt8, (∀ x ∈ l, x.toNat < 128) → Lib.indexByte l b = -1 := fun l hl => by
    induction l with
    | nil => rfl
    | cons a r ih =>
      have ha := hl a (List.mem_cons_self ..)
      have e : (a == b) = false := by
        rw [beq_eq_false_iff_ne]
        rintro rfl
        omega
      rw [Lib.indexByte, e, ih (fun x hx => hl x (List.mem_cons_of_mem _ hx))]
      rfl
  refine h _ fun x hx => ?_
  have : ∀ x ∈ wsB.data.toList, x.toNat < 128 := by decide
  exact this x (List.mem_of_mem_drop hx)
theorem ba_size (s : ByteArray) : s.size = s.data.toList.length := Lib.size_eq s
/-- A rune beyond ASCII, as bytes: two to four of them, all beyond ASCII. -/
theorem enc_high (r : Nat) (h : 128 ≤ r) : 2 ≤ (Utf8.encode (r : Int)).size ∧ (Utf8.encode (r : Int)).size ≤ 4 ∧ ∀ b ∈ (Utf8.encode (r : Int)).data.toList, 128 ≤ b.toNat := by
  have small : ∀ n, n < 256 → 128 ≤ n → 128 ≤ (UInt8.ofNat n).toNat := fun n h1 h2 => by rw [UInt8.toNat_ofNat', Nat.mod_eq_of_lt h1]; exact h2
  have key : ∀ l : List UInt8, (Utf8.encode (r : Int)).data.toList = l → 2 ≤ l.length → l.length ≤ 4 → (∀ b ∈ l, 128 ≤ b.toNat) → 2 ≤ (Utf8.encode (r : Int)).size ∧ (Utf8.encode (r : Int)).size ≤ 4 ∧ ∀ b ∈ (Utf8.encode (r : Int)).data.toList, 128 ≤ b.toNat := fun l e h2 h4 hb => by
    rw [ba_size, e]
    exact ⟨h2, h4, hb⟩
  have c1 : ¬ r < 128 := by omega
  by_cases hv : (55296 ≤ r ∧ r ≤ 57343) ∨ 1114111 < r
  · have v : Utf8.valid (r : Int) = false := by simp [Utf8.valid]; omega
    exact key [239, 191, 189] (by simp [Utf8.encode, v, Utf8.runeError]) (by decide) (by decide) (by decide)
  · have v : Utf8.valid (r : Int) = true := by simp [Utf8.valid]; omega
    by_cases c2 : r < 2048
    · refine key [UInt8.ofNat (192 + r / 64), UInt8.ofNat (128 + r % 64)] (by simp [Utf8.encode, v, c1, c2]) (by simp) (by simp) fun b hb => ?_
      simp only [List.mem_cons, List.not_mem_nil, or_false] at hb
      rcases hb with rfl | rfl <;> exact small _ (by omega) (by omega)
    · by_cases c3 : r < 65536
      · refine key [UInt8.ofNat (224 + r / 4096), UInt8.ofNat (128 + r / 64 % 64), UInt8.ofNat (128 + r % 64)] (by simp [Utf8.encode, v, c1, c2, c3]) (by simp) (by simp) fun b hb => ?_
        simp only [List.mem_cons, List.not_mem_nil, or_false] at hb
        rcases hb with rfl | rfl | rfl <;> exact small _ (by omega) (by omega)
      · refine key [UInt8.ofNat (240 + r / 262144), UInt8.ofNat (128 + r / 4096 % 64), UInt8.ofNat (128 + r / 64 % 64), UInt8.ofNat (128 + r % 64)] (by simp [Utf8.encode, v, c1, c2, c3]) (by simp) (by simp) fun b hb => ?_
        simp only [List.mem_cons, List.not_mem_nil, or_false] at hb
        rcases hb with rfl | rfl | rfl | rfl <;> exact small _ (by omega) (by omega)

set_option maxRecDepth 100000 in
theorem indexRune_bad (w : World) : Calls Tryz.prog 77 #[.string wsB, .int .i32 65533] w fun e w' => e = .returned (.int .i64 (-1)) ∧ Below w.heap.size w w' := by
  go_enter Tryz.func77, Tryz.ntmps77
  go_wp2_with fail
  go_loopg [] 5 (fun gf wr => ∃ pos : Nat, pos + gf = 5 ∧ wr.heap[w.heap.size]? = some (.stringIter wsB pos) ∧ Below w.heap.size w wr)
  case atStart => exact ⟨0, rfl, World.iter_heap w wsB 0, (Below.refl _ _).alloc (Nat.le_refl _) _⟩
  case round =>
    obtain ⟨pos, hp, hit, hb⟩ := hrel
    by_cases hlt : pos < wsB.size
    · have h5 : pos < 5 := hlt
      obtain ⟨g', rfl⟩ : ∃ g', gk = g' + 1 := ⟨gk - 1, by omega⟩
      have hlow := ws_low pos hlt
      have hnx : ∀ ty, (Instr.next (.pointer (some ⟨w.heap.size, 0, none⟩)) true ty).run Tryz.prog wr = _ := fun ty => Lib.run_next_ascii_at wr w.heap.size wsB pos ty hit hlt hlow
      have hit2 := Lib.iterAt_heap wr w.heap.size wsB pos (pos + 1) hit
      have hb2 := Lib.below_iterAt hb (k := w.heap.size) (Nat.le_refl _) wsB (pos + 1)
      obtain ⟨W, hW⟩ : ∃ W, wr.iterAt w.heap.size wsB (pos + 1) = W := ⟨_, rfl⟩
      rw [hW] at hnx hit2 hb2
      generalize (wsB[pos]'hlt).toNat = k at *
      have hk : ((k : Int) == 65533) = false := beq_eq_false_iff_ne.2 (by omega)
      clear hit hb hW hlt
      go_wp2_with fail
      go_roundg g'
      case measure => omega
      case rel => exact ⟨pos + 1, by omega, hit2, hb2⟩
    · have hnx : ∀ ty, (Instr.next (.pointer (some ⟨w.heap.size, 0, none⟩)) true ty).run Tryz.prog wr = _ := fun ty => Lib.run_next_end_at wr w.heap.size wsB pos ty hit hlt
      clear hit
      go_wp2_with fail
      go_ret
      exact ⟨rfl, hb⟩
set_option maxRecDepth 100000 in
theorem indexRune_high (r : Nat) (h : 128 ≤ r) (w : World) : Calls Tryz.prog 77 #[.string wsB, .int .i32 (r : Int)] w fun e w' => e = .returned (.int .i64 (-1)) ∧ Below w.heap.size w w' := by
  have h1 : decide ((r : Int) < 128) = false := by simp; omega
  have h0 : decide ((0 : Int) ≤ (r : Int)) = true := by simp
  by_cases he : r = 65533
  · subst he
    exact indexRune_bad w
  · have h2 : ((r : Int) == 65533) = false := beq_eq_false_iff_ne.2 (by omega)
    obtain ⟨v, hv⟩ : ∃ v, Lib.validRune (r : Int) = v := ⟨_, rfl⟩
    have HV := Lib.hid (Tryz.utf8_ValidRune (r : Int) w)
    rw [hv] at HV
    clear hv
    cases v with
    | false =>
      go_enter Tryz.func77, Tryz.ntmps77
      go_wp2_with (go_at_call 96; refine HV.out.mono ?_; rintro e w1 ⟨rfl, rfl⟩)
      go_ret
      exact ⟨rfl, Below.refl _ _⟩
    | true =>
      obtain ⟨hs1, hs2, hs3⟩ := enc_high r h
      go_enter Tryz.func77, Tryz.ntmps77
      go_wp2_with (go_at_call 96; refine HV.out.mono ?_; rintro e w1 ⟨rfl, rfl⟩)
      go_step3
      go_wp2_with fail
      generalize hrs : Utf8.encode (r : Int) = rs at *
      clear hrs
      obtain ⟨last, hl1, hl3, hsz⟩ : ∃ last : Nat, 1 ≤ last ∧ last ≤ 3 ∧ rs.size = last + 1 := ⟨rs.size - 1, by omega, by omega, by omega⟩
      have hz : (rs.size : Int) - 1 = (last : Int) := by omega
      rw [hz]
      have hlt : last < rs.size := by omega
      have hb : 128 ≤ (rs[last]'hlt).toNat := hs3 _ (by rw [show (rs[last]'hlt) = rs.data.toList[last]'(by simpa using hlt) from rfl]; exact List.getElem_mem _)
      have j0 : (0 : Int) ≤ (last : Int) := by omega
      have j1 : (last : Int) < (wsB.size : Int) := by show (last : Int) < 5; omega
      have j2 : (last : Int) < (rs.size : Int) := by omega
      clear hs1 hs2 hs3
      have hw5 : last < wsB.size := by show last < 5; omega
      have hlow := ws_low last hw5
      have hne : (((wsB[last]'hw5).toNat : Int) == ((rs[last]'hlt).toNat : Int)) = false := beq_eq_false_iff_ne.2 (by omega)
      have hne2 : (((wsB[last]'hw5).toNat : Int) != ((rs[last]'hlt).toNat : Int)) = true := by rw [bne, hne]; rfl
      have hix : Lib.indexByte (wsB.extract (last + 1) wsB.size).data.toList (rs[last]'hlt) = -1 := by
        rw [Lib.extract_to_end]
        exact ws_none _ hb _
      have k1 : IntKind.i64.wrap ((last : Int) + 1) = (last : Int) + 1 := IntWalk.i64_in _ (by omega)
      have k2 : (0 : Int) ≤ (last : Int) + 1 := by omega
      have k3 : (last : Int) + 1 ≤ (wsB.size : Int) := by show (last : Int) + 1 ≤ 5; omega
      have r1 : ∀ W : World, (Instr.index 9 (.string wsB) (.int .i64 (last : Int))).run Tryz.prog W = .ok (.int .u8 ((wsB[last]'hw5).toNat : Int)) W := fun W => by rw [run_index_string (P := Tryz.prog) _ _ _ _ _ Tryz.underlying9, dif_pos ⟨j0, j1⟩]; rfl
      have r2 : ∀ W : World, (Instr.index 9 (.string rs) (.int .i64 (last : Int))).run Tryz.prog W = .ok (.int .u8 ((rs[last]'hlt).toNat : Int)) W := fun W => by rw [run_index_string (P := Tryz.prog) _ _ _ _ _ Tryz.underlying9, dif_pos ⟨j0, j2⟩]; rfl
      have r3 : ∀ W : World, (Instr.slice 9 (.string wsB) (some (.int .i64 ((last : Int) + 1))) none none).run Tryz.prog W = .ok (.string (wsB.extract (last + 1) wsB.size)) W := fun W => run_slice_string_l (P := Tryz.prog) (w := W) 9 wsB Tryz.underlying9 .i64 ((last : Int) + 1) k2 k3
      refine wp_loop_rounds 1 ?_
      rw [rounds_succ]
      go_wp2_with fail
      go_step3
      go_wp2_with fail
      go_quiet (fail)
      have hb1 : Below w1.heap.size w1 (w1.drewN nq) := below_drewNg w1 nq
      generalize w1.drewN nq = w2 at *
      go_wp2_with fail
      have HIX : Hid (∀ W : World, Calls Tryz.prog 95 #[.string (wsB.extract (last + 1) wsB.size), .int .u8 ((rs[last]'hlt).toNat : Int)] W fun e w' => e = .returned (.int .i64 (-1)) ∧ w' = W) := fun W => by
        have h := Tryz.strings_IndexByte (wsB.extract (last + 1) wsB.size) ((rs[last]'hlt).toNat : Int) W
        rw [show ((rs[last]'hlt).toNat : Int).toNat.toUInt8 = rs[last]'hlt from by rw [Int.toNat_natCast]; exact UInt8.ofNat_toNat, hix] at h
        exact h
      go_quiet ((go_at_call 95; exact Calls.quiet_of_same (HIX.out _)))
      go_wp2_with fail
      rw [Exit.noGoto_ret]
      go_wp2_with fail
      rw [Exit.noGoto_ret]
      go_ret
      exact ⟨rfl, hb1.trans ((below_drewNg w2 _).mono hb1.size)⟩
/-- Is a rune a blank? -/
def isWs (r : Nat) : Bool := r == 32 || r == 9 || r == 10 || r == 12 || r == 13
theorem ws_low_is : ∀ r : Fin 128, decide (0 ≤ Lib.indexByte wsB.data.toList ((r.val : Int).toNat.toUInt8)) = isWs r.val := by decide +kernel
theorem wsRune_any (r : Nat) (w : World) : Calls Tryz.prog 94 #[.string wsB, .int .i32 (r : Int)] w fun e w' => e = .returned (.bool (isWs r)) ∧ Below w.heap.size w w' := by
  by_cases h : r < 128
  · have h1 := Tryz.strings_ContainsRune_ascii wsB (r : Int) w (by omega) (by omega)
    rw [ws_low_is ⟨r, h⟩] at h1
    exact h1.mono fun e w' hh => ⟨hh.1, by rw [hh.2]; exact Below.refl _ _⟩
  · have hf : isWs r = false := by
      unfold isWs
      simp only [Bool.or_eq_false_iff, beq_eq_false_iff_ne]
      omega
    have HI := Lib.hid (indexRune_high r (by omega) w)
    rw [hf]
    clear h
    go_enter Tryz.func94, Tryz.ntmps94
    go_wp2_with (go_at_call 77; refine HI.out.mono ?_; rintro e w1 ⟨rfl, hb⟩)
    go_ret
    exact ⟨rfl, hb⟩
end Go.Proofs.YtbddnohbkafagaaGreatDoor
