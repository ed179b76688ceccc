/-
Case folding: what the library's tables say of ASCII, and of the two signs beyond that fold to it; SimpleFold there.
-/
import Derived.Test.YtbddnohbkafagaaGreatDoorTkR1
import Derived.Test.YtbddnohbkafagaaGreatDoorShelf
import Derived.Test.YtbddnohbkafagaaGreatDoorTkR3
import Derived.Lib.LaidU8
import Derived.Lib.LaidCase
import Derived.ScopeJumps
import Derived.Shelf.Strings.Fold
namespace Go.Proofs.YtbddnohbkafagaaGreatDoor
open Go.RowKit Go.Cl
attribute [local go_sem ↓] Go.wp_at_zero Go.wp_at_succ
set_option maxRecDepth 100000
def foldT : List Nat := [0, 1, 2, 3, 4, 5, 6, 7, 8, 9, 10, 11, 12, 13, 14, 15, 16, 17, 18, 19, 20, 21, 22, 23, 24, 25, 26, 27, 28, 29, 30, 31, 32, 33, 34, 35, 36, 37, 38, 39, 40, 41, 42, 43, 44, 45, 46, 47, 48, 49, 50, 51, 52, 53, 54, 55, 56, 57, 58, 59, 60, 61, 62, 63, 64, 97, 98, 99, 100, 101, 102, 103, 104, 105, 106, 107, 108, 109, 110, 111, 112, 113, 114, 115, 116, 117, 118, 119, 120, 121, 122, 91, 92, 93, 94, 95, 96, 65, 66, 67, 68, 69, 70, 71, 72, 73, 74, 8490, 76, 77, 78, 79, 80, 81, 82, 383, 84, 85, 86, 87, 88, 89, 90, 123, 124, 125, 126, 127]
def orbT : List (Nat × Nat) := [(75, 107), (83, 115), (107, 8490), (115, 383), (181, 924), (197, 229), (223, 7838), (229, 8491), (304, 304), (305, 305), (383, 83), (452, 453), (453, 454), (454, 452), (455, 456), (456, 457), (457, 455), (458, 459), (459, 460), (460, 458), (497, 498), (498, 499), (499, 497), (837, 921), (912, 8147), (914, 946), (917, 949), (920, 952), (921, 953), (922, 954), (924, 956), (928, 960), (929, 961), (931, 962), (934, 966), (937, 969), (944, 8163), (946, 976), (949, 1013), (952, 977), (953, 8126), (954, 1008), (956, 181), (960, 982), (961, 1009), (962, 963), (963, 931), (966, 981), (969, 8486), (976, 914), (977, 1012), (981, 934), (982, 928), (1008, 922), (1009, 929), (1012, 920), (1013, 917), (1042, 1074), (1044, 1076), (1054, 1086), (1057, 1089), (1058, 1090), (1066, 1098), (1074, 7296), (1076, 7297), (1086, 7298), (1089, 7299), (1090, 7300), (1098, 7302), (1122, 1123), (1123, 7303), (7296, 1042), (7297, 1044), (7298, 1054), (7299, 1057), (7300, 7301), (7301, 1058), (7302, 1066), (7303, 1122), (7304, 42570), (7776, 7777), (7777, 7835), (7835, 7776), (7838, 223), (8126, 837), (8147, 912), (8163, 944), (8486, 937), (8490, 75), (8491, 197), (42570, 42571), (42571, 7304), (64261, 64262), (64262, 64261)]
theorem foldT_len : foldT.length = 128 := by decide
theorem orbT_len : orbT.length = 94 := by decide
def orbAt (i : Nat) : Nat × Nat := orbT.getD i (0, 0)
def foldAt (i : Nat) : Nat := foldT.getD i 0
/-- The two tables lie in memory. -/
structure FoldTabs (w : World) : Prop where
  ascii : ∀ i, i < 128 → w.cell? ⟨1, i, none⟩ = some (.int .u16 (foldAt i : Nat))
  orbit : ∃ R oR cap, w.cell? ⟨2, 0, none⟩ = some (.slice (some ⟨R, oR, none⟩) 94 cap) ∧ ∀ i, i < 94 → w.cell? ⟨R, oR + i * 2, none⟩ = some (.int .u16 ((orbAt i).1 : Nat)) ∧ w.cell? ⟨R, oR + i * 2 + 1, none⟩ = some (.int .u16 ((orbAt i).2 : Nat))
theorem FoldTabs.next {w w' : World} {X : Nat} (h : FoldTabs w) (hX : w.heap.size ≤ X) (hb : Below X w w') : FoldTabs w' := by
  have hb2 := hb.mono hX
  refine ⟨fun i hi => cell_be (h.ascii i hi) hb2, ?_⟩
  obtain ⟨R, oR, cap, h1, h2⟩ := h.orbit
  exact ⟨R, oR, cap, cell_be h1 hb2, fun i hi => ⟨cell_be (h2 i hi).1 hb2, cell_be (h2 i hi).2 hb2⟩⟩
theorem foldAt_lt (r : Nat) (h : r < 128) : foldAt r < 65536 := by
  have : ∀ i : Fin 128, foldAt i.val < 65536 := by decide +kernel
  exact this ⟨r, h⟩
theorem orb_lt (i : Nat) (h : i < 94) : (orbAt i).1 < 65536 ∧ (orbAt i).2 < 65536 := by
  have : ∀ i : Fin 94, (orbAt i.val).1 < 65536 ∧ (orbAt i.val).2 < 65536 := by decide +kernel
  exact this ⟨i, h⟩
set_option maxRecDepth 100000 in
theorem simpleFold_low (r : Nat) (hr : r < 128) (w : World) (hT : FoldTabs w) :
    Calls Tryz.prog 49 #[.int .i32 (r : Int)] w fun e w' => e = .returned (.int .i32 (foldAt r : Nat)) ∧ w' = w := by
  have c0 := hT.ascii r hr
  have hl := foldAt_lt r hr
  clear hT
  generalize foldAt r = v at *
  have k1 : IntKind.i32.wrap (v : Int) = (v : Int) := IntWalk.i32_in _ (by omega)
  go_enter Tryz.func49, Tryz.ntmps49
  go_wp2_with fail
  go_ret
  exact ⟨rfl, rfl⟩
set_option maxRecDepth 100000 in
set_option maxHeartbeats 4000000 in
theorem simpleFold_orb (r p : Nat) (hp : p < 94) (hr : 128 ≤ r) (hr2 : r < 65536) (hlo : ∀ i, i < 94 → ((orbAt i).1 < r ↔ i < p)) (heq : (orbAt p).1 = r) (w : World) (hT : FoldTabs w) :
    Calls Tryz.prog 49 #[.int .i32 (r : Int)] w fun e w' => e = .returned (.int .i32 ((orbAt p).2 : Nat)) ∧ w' = w := by
  obtain ⟨R, oR, cap, c0, hc⟩ := hT.orbit
  have HC := Lib.hid hc
  have HLO := Lib.hid hlo
  have HEQ := Lib.hid heq
  have hpl := orb_lt p hp
  clear hT hc hlo heq
  go_enter Tryz.func49, Tryz.ntmps49
  go_wp2_with fail
  go_loopw [3, 4] (fun s3 s4 wr => ∃ lo hi : Nat, s3 = .int .i64 lo ∧ s4 = .int .i64 hi ∧ lo ≤ hi ∧ hi ≤ 94 ∧ w = wr ∧ Hid (lo ≤ p ∧ p ≤ hi)) (fun s3 s4 _ => (intOf s4).toNat - (intOf s3).toNat)
  case atStart => exact ⟨0, 94, rfl, rfl, Nat.zero_le _, Nat.le_refl _, rfl, Lib.hid ⟨Nat.zero_le _, by omega⟩⟩
  case round =>
    obtain ⟨lo, hi, rfl, rfl, hlh, hin, rfl, HI⟩ := hrel
    by_cases hlt : lo < hi
    · have hm : (lo + hi) / 2 < 94 := by omega
      obtain ⟨c1, c2⟩ := HC.out _ hm
      obtain ⟨l1, l2⟩ := orb_lt _ hm
      have h1 := HLO.out _ hm
      obtain ⟨y, hy⟩ : ∃ y, (orbAt ((lo + hi) / 2)).1 = y := ⟨_, rfl⟩
      rw [hy] at h1 c1 l1
      clear hy c2 l2
      have k1 : IntKind.i32.wrap (y : Int) = (y : Int) := IntWalk.i32_in _ (by omega)
      by_cases hyx : y < r
      · have HI2 : Hid ((lo + hi) / 2 + 1 ≤ p ∧ p ≤ hi) := ⟨h1.1 hyx, HI.out.2⟩
        clear h1
        go_wp2_with fail
        go_roundw
        case rel => exact ⟨(lo + hi) / 2 + 1, hi, by rw [show ((lo : Int) + (hi : Int)) / 2 + 1 = (((lo + hi) / 2 + 1 : Nat) : Int) by omega], rfl, by omega, hin, by first | rfl | trivial, HI2⟩
        case measure => simp [intOf]; omega
      · have HI2 : Hid (lo ≤ p ∧ p ≤ (lo + hi) / 2) := ⟨HI.out.1, Nat.le_of_not_lt fun k => hyx (h1.2 k)⟩
        clear h1
        go_wp2_with fail
        go_roundw
        case rel => exact ⟨lo, (lo + hi) / 2, rfl, by rw [show ((lo : Int) + (hi : Int)) / 2 = (((lo + hi) / 2 : Nat) : Int) by omega], by omega, by omega, by first | rfl | trivial, HI2⟩
        case measure => simp [intOf]; omega
    · obtain rfl : hi = lo := by omega
      obtain rfl : hi = p := by have := HI.out; omega
      obtain ⟨c1, c2⟩ := HC.out _ hp
      rw [HEQ.out] at c1
      obtain ⟨z, hz⟩ : ∃ z, (orbAt hi).2 = z := ⟨_, rfl⟩
      have HZ := Lib.hid hz
      rw [hz] at c2 hpl
      clear hz
      have k1 : IntKind.i32.wrap (r : Int) = (r : Int) := IntWalk.i32_in _ (by omega)
      have k2 : IntKind.i32.wrap (z : Int) = (z : Int) := IntWalk.i32_in _ (by omega)
      go_wp2_with fail
      go_ret
      exact ⟨by rw [HZ.out]; rfl, rfl⟩
theorem fold_383 (w : World) (hT : FoldTabs w) : Calls Tryz.prog 49 #[.int .i32 383] w fun e w' => e = .returned (.int .i32 83) ∧ w' = w :=
  simpleFold_orb 383 10 (by decide) (by decide) (by decide) (fun i hi => (by decide +kernel : ∀ i : Fin 94, ((orbAt i.val).1 < 383 ↔ i.val < 10)) ⟨i, hi⟩) (by decide +kernel) w hT
theorem fold_8490 (w : World) (hT : FoldTabs w) : Calls Tryz.prog 49 #[.int .i32 8490] w fun e w' => e = .returned (.int .i32 75) ∧ w' = w :=
  simpleFold_orb 8490 88 (by decide) (by decide) (by decide) (fun i hi => (by decide +kernel : ∀ i : Fin 94, ((orbAt i.val).1 < 8490 ↔ i.val < 88)) ⟨i, hi⟩) (by decide +kernel) w hT
end Go.Proofs.YtbddnohbkafagaaGreatDoor

/-
EqualFold against a text of ASCII that is no shorter, whatever bytes the other one has.
-/
namespace Go.Proofs.YtbddnohbkafagaaGreatDoor
open Go.RowKit Go.Cl
attribute [local go_sem ↓] Go.wp_at_zero Go.wp_at_succ
theorem decode_wide (s : ByteArray) (pos : Nat) (h : pos < s.size) (ha : 128 ≤ (s[pos]'h).toNat) : (Utf8.decode s pos).1 = 65533 ∨ (2 ≤ (Utf8.decode s pos).2 ∧ pos + (Utf8.decode s pos).2 ≤ s.size) := by
  have hn : ¬ (s[pos]'h).toNat < 128 := by omega
  simp only [Utf8.decode, Go.get_at s pos h, hn, if_false]
  repeat' split
  all_goals simp_all [Utf8.runeError]
  all_goals omega
/-- SimpleFold, where it is known. -/
def nxF (r : Nat) : Nat := if r < 128 then foldAt r else if r = 383 then 83 else 75
def domF (r : Nat) : Prop := r < 128 ∨ r = 383 ∨ r = 8490
theorem simpleFold_dom (r : Nat) (h : domF r) (w : World) (hT : FoldTabs w) : Calls Tryz.prog 49 #[.int .i32 (r : Int)] w fun e w' => e = .returned (.int .i32 (nxF r : Nat)) ∧ w' = w := by
  rcases h with h | rfl | rfl
  · have := simpleFold_low r h w hT
    rw [show nxF r = foldAt r from if_pos h]
    exact this
  · exact fold_383 w hT
  · exact fold_8490 w hT
theorem nx_dom (y : Nat) (h : y < 128) : domF (nxF y) ∧ domF (nxF (nxF y)) ∧ (nxF y = y ∨ nxF (nxF y) = y ∨ nxF (nxF (nxF y)) = y) := by
  have : ∀ i : Fin 128, (nxF i.val < 128 ∨ nxF i.val = 383 ∨ nxF i.val = 8490) ∧ (nxF (nxF i.val) < 128 ∨ nxF (nxF i.val) = 383 ∨ nxF (nxF i.val) = 8490) ∧ (nxF i.val = i.val ∨ nxF (nxF i.val) = i.val ∨ nxF (nxF (nxF i.val)) = i.val) := by decide +kernel
  exact this ⟨y, h⟩
/-- What SimpleFold says one time behind the other. -/
def chF (y : Nat) : Nat → Nat → Prop
  | 0, r => r = nxF y
  | 1, r => r = nxF (nxF y) ∧ nxF y ≠ y
  | _, r => r = y
theorem ch_dom {y r : Nat} (h : y < 128) : ∀ {k : Nat}, k ≤ 2 → chF y k r → domF r
  | 0, _, hc => by rw [show r = nxF y from hc]; exact (nx_dom y h).1
  | 1, _, hc => by rw [show r = nxF (nxF y) from hc.1]; exact (nx_dom y h).2.1
  | 2, _, hc => by rw [show r = y from hc]; exact .inl h
theorem ch_next {y r : Nat} (h : y < 128) : ∀ {k : Nat}, k ≤ 2 → chF y k r → r ≠ y → k < 2 ∧ chF y (k + 1) (nxF r)
  | 0, _, hc, hr => by
    obtain rfl : r = nxF y := hc
    exact ⟨by omega, rfl, hr⟩
  | 1, _, hc, hr => by
    obtain ⟨rfl, h1⟩ : r = nxF (nxF y) ∧ nxF y ≠ y := hc
    refine ⟨by omega, ?_⟩
    rcases (nx_dom y h).2.2 with h2 | h2 | h2
    · exact absurd h2 h1
    · exact absurd h2 hr
    · exact h2
  | 2, _, hc, hr => absurd (show r = y from hc) hr
theorem fold_neq {s t : List UInt8} {i : Nat} {x y : UInt8} (hx : s[i]? = some x) (hy : t[i]? = some y) (h : Lib.foldEq x y = false) : Lib.equalFold s t = false := by
  induction i generalizing s t with
  | zero =>
    cases s with
    | nil => simp at hx
    | cons a s =>
      cases t with
      | nil => simp at hy
      | cons b t =>
        simp at hx hy
        subst hx hy
        exact Lib.equalFold_no _ _ _ _ h
  | succ i ih =>
    cases s with
    | nil => simp at hx
    | cons a s =>
      cases t with
      | nil => simp at hy
      | cons b t =>
        simp only [List.getElem?_cons_succ] at hx hy
        have := ih hx hy
        show (Lib.foldEq a b && Lib.equalFold s t) = false
        rw [this, Bool.and_false]
set_option maxRecDepth 1000000 in
set_option maxHeartbeats 8000000 in
theorem fold_wide (s t : ByteArray) (w : World) (hsz : s.size ≤ t.size) (htz : t.size ≤ 1000000) (hna : ∃ k : Nat, ∃ x : UInt8, s.data.toList[k]? = some x ∧ 128 ≤ x.toNat) (hta : ∀ (j : Nat) b, t.data.toList[j]? = some b → b.toNat < 128) (hT : FoldTabs w) :
    Calls Tryz.prog 39 #[.string s, .string t] w fun e w' => e = .returned (.bool (Lib.equalFold s.data.toList t.data.toList)) ∧ Below w.heap.size w w' := by
  have HTA := Lib.hid hta
  have HNA := Lib.hid hna
  have HT := Lib.hid hT
  clear hna hta hT
  have hmin : min (s.size : Int) (t.size : Int) = (s.size : Int) := by omega
  go_enter Tryz.func39, Tryz.ntmps39
  go_wp2_with fail
  refine wp_scope_jumps 0 (fun a' w' => w' = w ∧ ∃ (i : Nat) (u4 u6 u7 u8 u14 u15 u16 u17 u18 u19 u20 u21 u22 u23 u24 u25 u26 u27 u28 u29 u30 u31 u32 u33 u34 u35 u36 u37 u38 u39 u40 u41 u42 u43 u44 u45 u46 u47 u48 u49 u50 u51 u52 u53 u54 : Value), a' = { tmps := #[.string s, .string t, undef, undef, u4, .int .i64 (i : Int), u6, u7, u8, undef, undef, undef, undef, undef, u14, u15, u16, u17, u18, u19, u20, u21, u22, u23, u24, u25, u26, u27, u28, u29, u30, u31, u32, u33, u34, u35, u36, u37, u38, u39, u40, u41, u42, u43, u44, u45, u46, u47, u48, u49, u50, u51, u52, u53, u54, undef, undef, undef, undef, undef, undef, undef, undef, undef, undef, undef, undef, undef, undef, undef, undef, undef, undef, undef, undef, undef, undef, undef, undef, undef, undef, undef, undef, undef, undef, undef, undef, undef, undef, undef, undef, undef, undef, undef, undef, undef, undef, undef, undef, undef, undef, undef, undef, undef, undef, undef, undef, undef, undef, undef, undef, undef, undef, undef, undef, undef, undef, undef, undef, undef, undef, undef, undef], defers := [] } ∧ i < s.size ∧ Hid ((∃ x, s.data.toList[i]? = some x ∧ 128 ≤ x.toNat) ∧ Lib.equalFold s.data.toList t.data.toList = false)) (fun _ _ => 0) rfl ?_ ?_
  · go_wp2_with fail
    go_loopg [5] s.size (fun g s5 wx => w = wx ∧ ∃ i : Nat, i + g = s.size ∧ s5 = .int .i64 i ∧ Lib.equalFold (s.data.toList.drop i) (t.data.toList.drop i) = Lib.equalFold s.data.toList t.data.toList ∧ ∀ k, k < i → ∀ b, s.data.toList[k]? = some b → b.toNat < 128)
    case atStart => exact ⟨rfl, 0, by omega, rfl, rfl, fun k hk => absurd hk (by omega)⟩
    case round =>
      obtain ⟨rfl, i, hig, rfl, hinv, hlow⟩ := hrel
      have HI := Lib.hid hinv
      have HLO := Lib.hid hlow
      clear hinv hlow
      cases gk with
      | zero =>
        obtain rfl : i = s.size := by omega
        exfalso
        obtain ⟨k, x, hx, h1⟩ := HNA.out
        have := HLO.out k (by have := (List.getElem?_eq_some_iff.1 hx).1; simpa using this) x hx
        omega
      | succ g =>
        have hisz : (i : Int) < (s.size : Int) := by omega
        have hitz : (i : Int) < (t.size : Int) := by omega
        obtain ⟨x, hx⟩ : ∃ x : UInt8, s[i]'(by omega) = x := ⟨_, rfl⟩
        obtain ⟨y, hy⟩ : ∃ y : UInt8, t[i]'(by omega) = y := ⟨_, rfl⟩
        have hxl : s.data.toList[i]? = some x := by rw [← hx]; exact Lib.data_getElem? s i (by omega)
        have hyl : t.data.toList[i]? = some y := by rw [← hy]; exact Lib.data_getElem? t i (by omega)
        have hy128 : y.toNat < 128 := HTA.out i y hyl
        by_cases hx128 : x.toNat < 128
        · have hor : bits .or .u8 (x.toNat : Int) (y.toNat : Int) = ((x.toNat ||| y.toNat : Nat) : Int) := u8_or_nat _ _ (by omega) (by omega)
          have hor128 : ¬ ((128 : Int) ≤ ((x.toNat ||| y.toNat : Nat) : Int)) := by have := Nat.or_lt_two_pow (n := 7) hx128 hy128; omega
          have Hx := Lib.hid (show s.data.toList[i]? = some x ∧ t.data.toList[i]? = some y from ⟨hxl, hyl⟩)
          have HLO2 : Hid (∀ k, k < i + 1 → ∀ b, s.data.toList[k]? = some b → b.toNat < 128) := fun k hk b hb => by
            by_cases hki : k < i
            · exact HLO.out k hki b hb
            · obtain rfl : k = i := by omega
              rw [Hx.out.1] at hb
              cases hb
              exact hx128
          clear hxl hyl
          go_wp2_with fail
          all_goals (try simp only [beq_iff_eq, beq_eq_false_iff_ne, ne_eq] at *)
          all_goals first
            | (go_roundg g
               case measure => omega
               case rel => exact ⟨rfl, i + 1, by omega, by first | rfl | simp, by rw [← HI.out, Lib.drop_at Hx.out.1, Lib.drop_at Hx.out.2, Lib.equalFold_yes _ _ _ _ (decide_eq_true (by omega))], HLO2.out⟩)
            | (try simp only [Exit.jump]
               go_ret
               refine ⟨?_, Below.refl _ _⟩
               rw [← HI.out, Lib.drop_at Hx.out.1, Lib.drop_at Hx.out.2, Lib.equalFold_no _ _ _ _ (decide_eq_false (by omega))]
               rfl)
        · have hor : bits .or .u8 (x.toNat : Int) (y.toNat : Int) = ((x.toNat ||| y.toNat : Nat) : Int) := u8_or_nat _ _ (by have := x.toNat_lt; omega) (by omega)
          have hor128 : (128 : Int) ≤ ((x.toNat ||| y.toNat : Nat) : Int) := by have := @Nat.left_le_or x.toNat y.toNat; omega
          have HF : Hid ((∃ x, s.data.toList[i]? = some x ∧ 128 ≤ x.toNat) ∧ Lib.equalFold s.data.toList t.data.toList = false) := ⟨⟨x, hxl, by omega⟩, fold_neq hxl hyl (decide_eq_false (by omega))⟩
          clear hxl hyl
          go_wp2_with fail
          go_step3
          exact ⟨rfl, rfl, i, _, _, _, _, _, _, _, _, _, _, _, _, _, _, _, _, _, _, _, _, _, _, _, _, _, _, _, _, _, _, _, _, _, _, _, _, _, _, _, _, _, _, _, _, _, rfl, by omega, HF⟩
  · rintro a' w' ⟨rfl, i, u4, u6, u7, u8, u14, u15, u16, u17, u18, u19, u20, u21, u22, u23, u24, u25, u26, u27, u28, u29, u30, u31, u32, u33, u34, u35, u36, u37, u38, u39, u40, u41, u42, u43, u44, u45, u46, u47, u48, u49, u50, u51, u52, u53, u54, rfl, hi, HJ⟩
    have i0 : (0 : Int) ≤ (i : Int) := by omega
    have i1 : (i : Int) ≤ (s.size : Int) := by omega
    have i2 : (i : Int) ≤ (t.size : Int) := by omega
    obtain ⟨s1, hs1⟩ : ∃ s1, s.extract i s.size = s1 := ⟨_, rfl⟩
    obtain ⟨t1, ht1⟩ : ∃ t1, t.extract i t.size = t1 := ⟨_, rfl⟩
    have hs1l : s1.data.toList = s.data.toList.drop i := by rw [← hs1, Lib.extract_to_end]
    have ht1l : t1.data.toList = t.data.toList.drop i := by rw [← ht1, Lib.extract_to_end]
    have hs1z : s1.size = s.size - i := by rw [Lib.size_eq, hs1l, List.length_drop, ← Lib.size_eq]
    have ht1z : t1.size = t.size - i := by rw [Lib.size_eq, ht1l, List.length_drop, ← Lib.size_eq]
    have HTL : Hid (t1.data.toList = t.data.toList.drop i) := ht1l
    have HS0 : Hid (∀ h : 0 < s1.size, 128 ≤ (s1[0]'h).toNat) := fun h => by
      obtain ⟨⟨x, hx, h1⟩, _⟩ := HJ.out
      have h2 : s1.data.toList[0]? = some x := by rw [hs1l, List.getElem?_drop]; exact hx
      rw [Lib.data_getElem? s1 0 h] at h2
      cases h2
      exact h1
    have HF : Hid (Lib.equalFold s.data.toList t.data.toList = false) := HJ.out.2
    clear hs1l ht1l HJ
    go_wp2_with fail
    clear hs1 ht1
    go_loopg [1] s1.size (fun g v1 wx => ∃ (pos q : Nat) (tt : ByteArray), pos + g = s1.size ∧ v1 = .string tt ∧ Hid (tt.data.toList = t.data.toList.drop (i + q)) ∧ Hid (tt.size = t.size - (i + q)) ∧ wx.heap[w'.heap.size]? = some (.stringIter s1 pos) ∧ Below w'.heap.size w' wx ∧ ((pos = 0 ∧ q = 0) ∨ q < pos))
    case atStart => exact ⟨0, 0, t1, by omega, rfl, HTL, Lib.hid (by omega), World.iter_heap w' s1 0, (Below.refl _ _).alloc (Nat.le_refl _) _, .inl ⟨rfl, rfl⟩⟩
    case round =>
      obtain ⟨pos, q, tt, hpg, rfl, HTT, HTZ, hit, hb, hpq⟩ := hrel
      by_cases hlt : pos < s1.size
      · have htpos : 0 < tt.size := by have := HTZ.out; omega
        obtain ⟨y, hy⟩ : ∃ y : UInt8, tt[0]'htpos = y := ⟨_, rfl⟩
        have hyl : tt.data.toList[0]? = some y := by rw [← hy]; exact Lib.data_getElem? tt 0 htpos
        have hy128 : y.toNat < 128 := HTA.out (i + q) y (by rw [← hyl, HTT.out, List.getElem?_drop]; rfl)
        have HDE := Lib.hid (fun W : World => Tryz.utf8_DecodeRuneInString_ascii tt y W hyl hy128)
        obtain ⟨t2, ht2⟩ : ∃ t2, tt.extract 1 tt.size = t2 := ⟨_, rfl⟩
        have ht2l : t2.data.toList = tt.data.toList.drop 1 := by rw [← ht2, Lib.extract_to_end]
        have HT2 : Hid (t2.data.toList = t.data.toList.drop (i + (q + 1))) := by rw [show i + (q + 1) = i + q + 1 by omega, ← List.drop_drop, ← HTT.out]; exact ht2l
        have HT2Z : Hid (t2.size = t.size - (i + (q + 1))) := by show t2.size = _; rw [Lib.size_eq, HT2.out, List.length_drop, ← Lib.size_eq]
        have e0 : ((tt.size : Int) == 0) = false := beq_eq_false_iff_ne.2 (by omega)
        have e1 : ¬ (tt.size : Int) = 0 := by omega
        have e2 : (1 : Int) ≤ (tt.size : Int) := by omega
        clear hy hyl ht2l HTT
        by_cases hx : (s1[pos]'hlt).toNat < 128
        · have hp0 : ¬ pos = 0 := by
            rintro rfl
            have := HS0.out hlt
            omega
          have hnx : ∀ ty, (Instr.next (.pointer (some ⟨w'.heap.size, 0, none⟩)) true ty).run Tryz.prog wr = _ := fun ty => Lib.run_next_ascii_at wr w'.heap.size s1 pos ty hit hlt hx
          have hit2 := Lib.iterAt_heap wr w'.heap.size s1 pos (pos + 1) hit
          have hb2 := Lib.below_iterAt hb (k := w'.heap.size) (Nat.le_refl _) s1 (pos + 1)
          obtain ⟨W, hW⟩ : ∃ W, wr.iterAt w'.heap.size s1 (pos + 1) = W := ⟨_, rfl⟩
          rw [hW] at hnx hit2 hb2
          have hxl := hx
          generalize (s1[pos]'hlt).toNat = x at *
          clear hit hb hW
          go_wp2_with (go_at_call 48; refine (HDE.out _).mono ?_; rintro e w1 ⟨rfl, rfl⟩)
          all_goals (try simp only [beq_iff_eq, beq_eq_false_iff_ne, ne_eq] at *)
          all_goals first
            | (go_roundg (s1.size - (pos + 1))
               case measure => omega
               case rel => exact ⟨pos + 1, q + 1, t2, by omega, rfl, HT2, HT2Z, hit2, hb2, .inr (by omega)⟩)
            | (try simp only [Exit.jump]
               go_ret
               exact ⟨by rw [HF.out]; rfl, hb2⟩)
        · have hx2 : 128 ≤ (s1[pos]'hlt).toNat := by omega
          obtain ⟨hd1, hd2⟩ := Go.decode_high s1 pos hlt hx2
          have hd3 := Go.decode_le s1 pos
          have hd4 := decode_wide s1 pos hlt hx2
          have hnx : ∀ ty, (Instr.next (.pointer (some ⟨w'.heap.size, 0, none⟩)) true ty).run Tryz.prog wr = _ := fun ty => Lib.run_next_any_at wr w'.heap.size s1 pos ty hit hlt
          obtain ⟨R, hR⟩ : ∃ R, (Utf8.decode s1 pos).1 = R := ⟨_, rfl⟩
          obtain ⟨K, hK⟩ : ∃ K, (Utf8.decode s1 pos).2 = K := ⟨_, rfl⟩
          rw [hR, hK] at hd4 hnx
          rw [hR] at hd1 hd3
          rw [hK] at hd2
          clear hR hK hx hx2
          have hit2 := Lib.iterAt_heap wr w'.heap.size s1 pos (pos + K) hit
          have hb2 := Lib.below_iterAt hb (k := w'.heap.size) (Nat.le_refl _) s1 (pos + K)
          obtain ⟨W, hW⟩ : ∃ W, wr.iterAt w'.heap.size s1 (pos + K) = W := ⟨_, rfl⟩
          rw [hW] at hnx hit2 hb2
          clear hit hb hW
          have HTW : Hid (FoldTabs W) := HT.out.next (Nat.le_refl _) hb2
          have HSF := Lib.hid (fun r (h : domF r) => simpleFold_dom r h W HTW.out)
          generalize y.toNat = n at *
          have ne1 : ((n : Int) == (R : Int)) = false := beq_eq_false_iff_ne.2 (by omega)
          have ne2 : ¬ (n : Int) = (R : Int) := by omega
          have lt1 : (n : Int) < (R : Int) := by omega
          have lt2 : ¬ (R : Int) < 128 := by omega
          have HD4 := Lib.hid hd4
          have HRL := Lib.hid (show 128 ≤ R ∧ R ≤ 2147483647 from ⟨hd1, hd3⟩)
          have HPQ := Lib.hid hpq
          have HN := Lib.hid hy128
          clear hd1 hd2 hd3 hd4 hpq hy128
          go_wp2_with (first | (go_at_call 48; refine (HDE.out _).mono ?_; rintro e w1 ⟨rfl, hw1⟩; rw [hw1]; clear hw1) | (go_at_call 49; refine (HSF.out _ (.inl HN.out)).mono ?_; rintro e w2 ⟨rfl, hw2⟩; rw [hw2]; clear hw2))
          go_loopg [13] 2 (fun g v13 wx => W = wx ∧ ∃ r k : Nat, k + g = 2 ∧ v13 = .int .i32 r ∧ Hid (chF n k r))
          case atStart => exact ⟨rfl, _, 0, rfl, rfl, rfl⟩
          case round =>
            obtain ⟨rfl, r, k, hkg, rfl, HC⟩ := hrel
            have hrl : r < 65536 := by
              rcases ch_dom HN.out (by omega) HC.out with h | rfl | rfl <;> omega
            by_cases hry : r = n
            · subst hry
              go_wp2_with fail
              try simp only [Exit.jump]
              go_ret
              exact ⟨by rw [HF.out]; rfl, hb2⟩
            · have f1 : ((r : Int) == (n : Int)) = false := beq_eq_false_iff_ne.2 (by omega)
              have f2 : ¬ (r : Int) = (n : Int) := by omega
              by_cases hrR : r < R
              · have f3 : (r : Int) < (R : Int) := by omega
                obtain ⟨hk2, hc2⟩ := ch_next HN.out (by omega) HC.out hry
                have HC2 := Lib.hid hc2
                have HDM := Lib.hid (ch_dom HN.out (by omega) HC.out)
                clear hc2
                go_wp2_with (go_at_call 49; refine (HSF.out _ HDM.out).mono ?_; rintro e w2 ⟨rfl, hw2⟩; rw [hw2]; clear hw2)
                go_roundg (1 - k)
                case measure => omega
                case rel => exact ⟨by first | rfl | trivial, _, k + 1, by omega, rfl, HC2⟩
              · have f3 : ¬ (r : Int) < (R : Int) := by omega
                by_cases hrq : r = R
                · subst hrq
                  have hdm := ch_dom HN.out (by omega) HC.out
                  have hrr := HRL.out
                  have hdd := HD4.out
                  go_wp2_with fail
                  go_roundg (s1.size - (pos + K))
                  case measure => rcases hdm with h | h | h <;> rcases HPQ.out with ⟨p1, p2⟩ | p1 <;> omega
                  case rel => exact ⟨pos + K, q + 1, t2, by rcases hdm with h | h | h <;> omega, rfl, HT2, HT2Z, hit2, hb2, .inr (by rcases hdm with h | h | h <;> rcases HPQ.out with ⟨p1, p2⟩ | p1 <;> omega)⟩
                · have f4 : ((r : Int) == (R : Int)) = false := beq_eq_false_iff_ne.2 (by omega)
                  have f5 : ¬ (r : Int) = (R : Int) := by omega
                  go_wp2_with fail
                  try simp only [Exit.jump]
                  go_ret
                  exact ⟨by rw [HF.out]; rfl, hb2⟩
      · have hnx : ∀ ty, (Instr.next (.pointer (some ⟨w'.heap.size, 0, none⟩)) true ty).run Tryz.prog wr = _ := fun ty => Lib.run_next_end_at wr w'.heap.size s1 pos ty hit hlt
        have e0 : ((tt.size : Int) == 0) = false := beq_eq_false_iff_ne.2 (by have := HTZ.out; omega)
        have e1 : ¬ (tt.size : Int) = 0 := by have := HTZ.out; omega
        clear hit
        go_wp2_with fail
        try simp only [Exit.jump]
        go_ret
        exact ⟨by rw [HF.out]; rfl, hb⟩
theorem fold_ok (w0 : World) (X : Nat) (hX : w0.heap.size ≤ X) (hT : FoldTabs w0) : FoldOk w0 X := by
  intro u hu s t hst htz hta
  have hta2 : ∀ (j : Nat) b, t.data.toList[j]? = some b → b.toNat < 128 := fun j b hb => hta b (List.mem_of_getElem? hb)
  by_cases ha : ∀ (j : Nat) b, s.data.toList[j]? = some b → b.toNat < 128
  · exact (Tryz.strings_EqualFold s t u (by omega) ha hta2).mono fun e w' h => ⟨h.1, by rw [h.2]; exact Below.refl _ _⟩
  · refine fold_wide s t u hst htz ?_ hta2 (hT.next hX hu)
    have h1 := ha
    simp only [Classical.not_forall] at h1
    obtain ⟨k, x, hx, h2⟩ := h1
    exact ⟨k, x, hx, by omega⟩
end Go.Proofs.YtbddnohbkafagaaGreatDoor

/-
What the listed variables read as: the two tables of case folding lie in memory.
-/
namespace Go.Proofs.YtbddnohbkafagaaGreatDoor
open Go.RowKit Go.Cl
def asciiD : DataW Unit := Lib.tabData .u16 (foldT.map fun n : Nat => (n : Int))
def orbitD : DataW Unit := .slice (orbT.map fun x => .agg ([(x.1 : Int), (x.2 : Int)].map fun z => .lit (.int .u16 z))) []
theorem foldTabs_of {w : World} (h1 : Lib.VarReads Tryz.prog w "unicode.asciiFold" asciiD) (h2 : Lib.VarReads Tryz.prog w "unicode.caseOrbit" orbitD) : FoldTabs w := by
  have n1 : Tryz.prog.globalNamed "unicode.asciiFold" = some 1 := by kernel_rfl
  have n2 : Tryz.prog.globalNamed "unicode.caseOrbit" = some 2 := by kernel_rfl
  have y1 : (Tryz.prog.globals[1]?).map (·.type) = some 99 := by kernel_rfl
  have y2 : (Tryz.prog.globals[2]?).map (·.type) = some 100 := by kernel_rfl
  have c98 : Tryz.prog.cellsOf 98 = 1 := by kernel_rfl
  have c99 : Tryz.prog.cellsOf 99 = 128 := by kernel_rfl
  have c102 : Tryz.prog.cellsOf 102 = 2 := by kernel_rfl
  refine ⟨fun i hi => ?_, ?_⟩
  · obtain ⟨g, t, cs, fuel, p, hg, hty, hvar, hd⟩ := h1
    obtain rfl := Option.some.inj (n1.symm.trans hg)
    obtain rfl := Option.some.inj (y1.symm.trans hty)
    have hcs := Lib.cells_of_tab Tryz.underlying99 Tryz.underlying98 c98 c99 hd
    have := World.var?_cell hg hvar i
    rw [this, ← Array.getElem?_toList, hcs]
    have hl : i < foldT.length := by rw [foldT_len]; exact hi
    simp [foldAt, hl]
  · obtain ⟨g, t, cs, fuel, p, hg, hty, hvar, hd⟩ := h2
    obtain rfl := Option.some.inj (n2.symm.trans hg)
    obtain rfl := Option.some.inj (y2.symm.trans hty)
    rcases DataW.trod_slice Tryz.underlying100 hd with ⟨_, hx'⟩ | ⟨a', len, cap, el, rs, m, rfl, hc0, hx', _, hlc, _, hel, helem, hsp, _⟩
    · cases hx'
    have e0 := congrArg Prod.fst hx'
    simp only [orbitD, DataW.slice.injEq] at e0
    obtain ⟨eE, eR⟩ := e0
    have hlen : len = 94 := by
      have := congrArg List.length eE
      rw [List.length_map, List.length_map, orbT_len] at this
      omega
    subst hlen
    have hrow : ∀ i, i < 94 → ∀ j, j < 2 → w.cell? ((a'.add (i * 2)).add j) = ([.int .u16 ((orbAt i).1 : Int), .int .u16 ((orbAt i).2 : Int)] : List Value)[j]? := by
      intro i hi j hj
      have g1 := helem i hi
      rw [c102] at g1
      obtain ⟨b, hb⟩ : ∃ b, el[i]? = some b := ⟨el[i]'(by omega), List.getElem?_eq_getElem (by omega)⟩
      rw [hb] at g1
      obtain ⟨ce, hce, hte⟩ := Option.bind_eq_some_iff.1 g1
      have hb1 : b.1 = .agg ([((orbAt i).1 : Int), ((orbAt i).2 : Int)].map fun z => .lit (.int .u16 z)) := by
        have := congrArg (·[i]?) eE
        simp only [List.getElem?_map, hb, Option.map_some] at this
        have hi' : i < orbT.length := by rw [orbT_len]; exact hi
        rw [List.getElem?_eq_getElem hi'] at this
        simp only [Option.map_some, Option.some.injEq] at this
        rw [← this]
        simp [orbAt, hi']
      have hcs := Lib.ints_of_struct (k := .u16) (zs := [((orbAt i).1 : Int), ((orbAt i).2 : Int)]) Tryz.underlying102 (fun j f hj => by
        match j, hj with
        | 0, hj => simp at hj; subst hj; exact ⟨Tryz.underlying98, rfl, c98⟩
        | 1, hj => simp at hj; subst hj; exact ⟨Tryz.underlying98, rfl, c98⟩
        | j + 2, hj => simp at hj) (by rw [c102]; rfl) (by rw [← hb1]; exact hte)
      obtain ⟨_, _, hcc⟩ := World.cells?_some hce
      rw [hcc j hj, hcs]
      rfl
    obtain ⟨R, oR, sR⟩ := a'
    obtain rfl : sR = none := by
      have h00 := hrow 0 (by decide) 0 (by decide)
      have : (Addr.add (Addr.add ⟨R, oR, sR⟩ (0 * 2)) 0) = ⟨R, oR, sR⟩ := by simp [Addr.add]
      rw [this] at h00
      exact cell_spot h00
    refine ⟨R, oR, cap, ?_, fun i hi => ?_⟩
    · rw [World.var?_cell hg hvar 0, ← Array.getElem?_toList, hc0]
      rfl
    · have k0 := hrow i hi 0 (by decide)
      have k1 := hrow i hi 1 (by decide)
      rw [Addr.add_lit, Addr.add_lit] at k0 k1
      exact ⟨by simpa using k0, by simpa using k1⟩
end Go.Proofs.YtbddnohbkafagaaGreatDoor
