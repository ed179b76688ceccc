/-
The walks of package open.
-/
import Derived.Test.YtabilpahmmkjkaaProg
import Derived.Test.YtabilpahmmkjkaaKit
import Derived.Test.YtabilpahmmkjkaaShelf
import Derived.WalkSpells
import Derived.Outline
namespace Go.Proofs.Ytabilpahmmkjkaa
open Go.RowKit Go.Cl

def oneB (name list : ByteArray) : Bool := !name.toList.isEmpty && !(decide (0 ≤ Lib.indexByte name.data.toList 32)) && Lib.contains list.data.toList (⟨#[32]⟩ ++ name ++ ⟨#[32]⟩ : ByteArray).data.toList

theorem one_any (name list : ByteArray) (m : Int) (w : World) (hn : name.size ≤ 1152921504606846976) (hs : list.size < 4294967281) (hm : w.cell? ⟨0, 0, none⟩ = some (.int .i64 m)) :
    Calls Try.prog 39 #[.string name, .string list] w fun e w' => e = .returned (.bool (oneB name list)) ∧ w = w' := by
  by_cases h1 : name.toList.isEmpty = true
  · go_enter Try.func39, Try.ntmps39
    go_wp2_with fail
    go_ret
    exact ⟨by simp [oneB, h1], rfl⟩
  · have h1' : name.toList.isEmpty = false := by simpa using h1
    clear h1
    by_cases h2 : decide (0 ≤ Lib.indexByte name.data.toList 32) = true
    · go_enter Try.func39, Try.ntmps39
      go_wp2_with fail
      refine (Try.strings_Contains_one name 32 _).mono ?_
      rintro e w' ⟨rfl, rfl⟩
      rw [h2]
      go_wp2_with fail
      go_ret
      exact ⟨by simp only [oneB, h2]; simp, rfl⟩
    · have h2' : decide (0 ≤ Lib.indexByte name.data.toList 32) = false := by simpa using h2
      clear h2
      go_enter Try.func39, Try.ntmps39
      go_wp2_with fail
      refine (Try.strings_Contains_one name 32 _).mono ?_
      rintro e w' ⟨rfl, rfl⟩
      rw [h2']
      go_wp2_with fail
      refine (Try.strings_Contains list _ m _ hs hm).mono ?_
      rintro e w' ⟨rfl, rfl⟩
      generalize hq : Lib.contains list.data.toList (⟨#[32]⟩ ++ name ++ ⟨#[32]⟩ : ByteArray).data.toList = q
      have HQ := Lib.hid hq
      clear hq
      go_wp2_with fail
      go_ret
      exact ⟨by simp only [oneB, h1', h2', HQ.out]; simp, rfl⟩


def barB (name : ByteArray) (scope : Int) : Bool :=
  if scope = 2 then oneB name (⟨#[32, 99, 97, 112, 116, 105, 111, 110, 32, 104, 116, 109, 108, 32, 111, 98, 106, 101, 99, 116, 32, 116, 97, 98, 108, 101, 32, 116, 100, 32, 116, 101, 109, 112, 108, 97, 116, 101, 32, 116, 104, 32, 111, 108, 32, 117, 108, 32]⟩ : ByteArray)
  else if scope = 3 then oneB name (⟨#[32, 99, 97, 112, 116, 105, 111, 110, 32, 104, 116, 109, 108, 32, 111, 98, 106, 101, 99, 116, 32, 116, 97, 98, 108, 101, 32, 116, 100, 32, 116, 101, 109, 112, 108, 97, 116, 101, 32, 116, 104, 32, 98, 117, 116, 116, 111, 110, 32]⟩ : ByteArray)
  else if scope = 4 then oneB name (⟨#[32, 104, 116, 109, 108, 32, 116, 97, 98, 108, 101, 32, 116, 101, 109, 112, 108, 97, 116, 101, 32]⟩ : ByteArray)
  else if scope = 5 then !(name.toList == (⟨#[111, 112, 116, 103, 114, 111, 117, 112]⟩ : ByteArray).data.toList) && !(name.toList == (⟨#[111, 112, 116, 105, 111, 110]⟩ : ByteArray).data.toList)
  else oneB name (⟨#[32, 99, 97, 112, 116, 105, 111, 110, 32, 104, 116, 109, 108, 32, 111, 98, 106, 101, 99, 116, 32, 116, 97, 98, 108, 101, 32, 116, 100, 32, 116, 101, 109, 112, 108, 97, 116, 101, 32, 116, 104, 32]⟩ : ByteArray)

theorem bar_any (name : ByteArray) (scope : Int) (m : Int) (w : World) (hn : name.size ≤ 1152921504606846976) (hm : w.cell? ⟨0, 0, none⟩ = some (.int .i64 m)) :
    Calls Try.prog 57 #[.string name, .int .i64 scope] w fun e w' => e = .returned (.bool (barB name scope)) ∧ w = w' := by
  by_cases h2 : scope = 2
  · subst h2
    go_enter Try.func57, Try.ntmps57
    go_wp2_with fail
    refine (one_any name _ m _ hn (by decide) hm).mono ?_
    rintro e w' ⟨rfl, rfl⟩
    go_wp2_with fail
    go_ret
    exact ⟨rfl, rfl⟩
  by_cases h3 : scope = 3
  · subst h3
    go_enter Try.func57, Try.ntmps57
    go_wp2_with fail
    refine (one_any name _ m _ hn (by decide) hm).mono ?_
    rintro e w' ⟨rfl, rfl⟩
    go_wp2_with fail
    go_ret
    exact ⟨rfl, rfl⟩
  by_cases h4 : scope = 4
  · subst h4
    go_enter Try.func57, Try.ntmps57
    go_wp2_with fail
    refine (one_any name _ m _ hn (by decide) hm).mono ?_
    rintro e w' ⟨rfl, rfl⟩
    go_wp2_with fail
    go_ret
    exact ⟨rfl, rfl⟩
  by_cases h5 : scope = 5
  · subst h5
    go_enter Try.func57, Try.ntmps57
    clear h2 h3 h4
    go_wp2_with fail
    all_goals
      go_ret
      exact ⟨by simp [barB, *], rfl⟩
  · have e2 : (scope == 2) = false := by simpa using h2
    have e3 : (scope == 3) = false := by simpa using h3
    have e4 : (scope == 4) = false := by simpa using h4
    have e5 : (scope == 5) = false := by simpa using h5
    have hx : barB name scope = oneB name (⟨#[32, 99, 97, 112, 116, 105, 111, 110, 32, 104, 116, 109, 108, 32, 111, 98, 106, 101, 99, 116, 32, 116, 97, 98, 108, 101, 32, 116, 100, 32, 116, 101, 109, 112, 108, 97, 116, 101, 32, 116, 104, 32]⟩ : ByteArray) := by unfold barB; rw [if_neg h2, if_neg h3, if_neg h4, if_neg h5]
    clear h2 h3 h4 h5
    have HX := Lib.hid hx
    clear hx
    go_enter Try.func57, Try.ntmps57
    go_wp2_with fail
    refine (one_any name _ m _ hn (by decide) hm).mono ?_
    rintro e w' ⟨rfl, rfl⟩
    go_wp2_with fail
    go_ret
    exact ⟨retB (by rw [HX.out]), rfl⟩

/-- Has: from the end, the first that is the name, or a bar. -/
def hasB (name : ByteArray) (scope : Int) : List ByteArray → Bool
  | [] => false
  | x :: r => if x.toList == name.toList then true else if barB x scope then false else hasB name scope r

theorem has_any (A : Option Addr) (n c : Nat) (l : List ByteArray) (name : ByteArray) (scope : Int) (m : Int) (w : World) (D : Nat → Prop) (hl : Sl tStr w D A n c l) (hm : w.cell? ⟨0, 0, none⟩ = some (.int .i64 m)) :
    Calls Try.prog 36 #[.slice A n c, .string name, .int .i64 scope] w fun e w' => e = .returned (.bool (hasB name scope l.reverse)) ∧ w = w' := by
  have hn1 : n ≤ 140737488355328 := hl.hb
  have HL := Lib.hid hl.hn
  go_enter Try.func36, Try.ntmps36
  go_wp2
  go_loop [7] (fun i => ∃ k : Nat, k ≤ n ∧ i = .int .i64 ((k : Int) - 1) ∧ hasB name scope l.reverse = hasB name scope (l.take k).reverse) (fun i => (intOf i + 1).toNat)
  case atStart => exact ⟨n, Nat.le_refl _, rfl, by rw [HL.out, List.take_length]⟩
  case round =>
    obtain ⟨k, hk, rfl, hrel⟩ := hrel
    have HR := Lib.hid hrel
    clear hrel
    by_cases h0 : 0 < k
    · obtain ⟨x, hx⟩ : ∃ x, l[k - 1]? = some x := get_some (by have := HL.out; omega)
      obtain ⟨b, o, rfl, hb, hc, hxs⟩ := hl.str hx
      have HE := Lib.hid (take_rev h0 hx)
      by_cases h1 : (x.toList == name.toList) = true
      · go_wp2_with fail
        go_ret
        exact ⟨retB (by rw [HR.out, HE.out, hasB, if_pos h1]), rfl⟩
      · have h1' : (x.toList == name.toList) = false := by simpa using h1
        cases h2 : barB x scope with
        | true =>
          have H2 := Lib.hid h2
          clear h2 h1
          go_wp2_with (go_at_call 57; refine (bar_any x scope m _ hxs hm).mono ?_; rintro e w' ⟨rfl, rfl⟩; rw [H2.out])
          go_ret
          exact ⟨retB (by rw [HR.out, HE.out, hasB, if_neg (by simpa using h1'), if_pos H2.out]), rfl⟩
        | false =>
          have H2 := Lib.hid h2
          clear h2 h1
          go_wp2_with (go_at_call 57; refine (bar_any x scope m _ hxs hm).mono ?_; rintro e w' ⟨rfl, rfl⟩; rw [H2.out])
          go_round
          case rel => exact ⟨k - 1, by omega, by go_num, by rw [HR.out, HE.out, hasB, if_neg (by simpa using h1'), if_neg (by rw [H2.out]; simp)]⟩
          case measure => simp [intOf]; omega
    · go_wp2_with fail
      go_ret
      obtain rfl : k = 0 := by omega
      exact ⟨retB (by rw [HR.out]; rfl), rfl⟩

theorem in_any (A : Option Addr) (n c : Nat) (l : List ByteArray) (name : ByteArray) (scope : Int) (m : Int) (w : World) (D : Nat → Prop) (hl : Sl tStr w D A n c l) (hm : w.cell? ⟨0, 0, none⟩ = some (.int .i64 m))
    (h1 : 1 ≤ scope) (h2 : scope ≤ 5) (h3 : n ≤ 60) :
    Calls Try.prog 15 #[.slice A n c, .string name, .int .i64 scope] w fun e w' => e = .returned (.tuple #[.bool (hasB name scope l.reverse), .int .i64 0]) ∧ w = w' := by
  go_enter Try.func15, Try.ntmps15
  go_wp2_with (go_at_call 36; refine (has_any A n c l name scope m _ D hl hm).mono ?_; rintro e w' ⟨rfl, rfl⟩)
  go_ret2
  exact ⟨rfl, rfl⟩

/-- Ends: from the end, how many are of the implied ones. -/
def endsN (but : ByteArray) : List ByteArray → Nat
  | [] => 0
  | x :: r => if x.toList == but.toList then 0 else if oneB x (⟨#[32, 100, 100, 32, 100, 116, 32, 108, 105, 32, 111, 112, 116, 103, 114, 111, 117, 112, 32, 111, 112, 116, 105, 111, 110, 32, 112, 32]⟩ : ByteArray) then endsN but r + 1 else 0

theorem ends_any (A : Option Addr) (n c : Nat) (l : List ByteArray) (but : ByteArray) (m : Int) (w : World) (D : Nat → Prop) (hl : Sl tStr w D A n c l) (hm : w.cell? ⟨0, 0, none⟩ = some (.int .i64 m)) :
    Calls Try.prog 38 #[.slice A n c, .string but] w fun e w' => e = .returned (.int .i64 (endsN but l.reverse)) ∧ w = w' := by
  have hn1 : n ≤ 140737488355328 := hl.hb
  have HL := Lib.hid hl.hn
  go_enter Try.func38, Try.ntmps38
  go_wp2
  go_loop [4, 5] (fun q i => ∃ k j : Nat, k ≤ n ∧ i = .int .i64 ((k : Int) - 1) ∧ q = .int .i64 (j : Int) ∧ j ≤ n - k ∧ endsN but l.reverse = j + endsN but (l.take k).reverse) (fun _ i => (intOf i + 1).toNat)
  case atStart => exact ⟨n, 0, Nat.le_refl _, rfl, rfl, by omega, by rw [HL.out, List.take_length, Nat.zero_add]⟩
  case round =>
    obtain ⟨k, j, hk, rfl, rfl, hj, hrel⟩ := hrel
    have HR := Lib.hid hrel
    clear hrel
    by_cases h0 : 0 < k
    · obtain ⟨x, hx⟩ : ∃ x, l[k - 1]? = some x := get_some (by have := HL.out; omega)
      obtain ⟨b, o, rfl, hb, hc, hxs⟩ := hl.str hx
      have HE := Lib.hid (take_rev h0 hx)
      by_cases h1 : (x.toList == but.toList) = true
      · have h1n : (x.toList != but.toList) = false := by simpa using h1
        go_wp2_with fail
        go_ret
        exact ⟨retI (by rw [HR.out, HE.out, endsN, if_pos h1]; rfl), rfl⟩
      · have h1' : (x.toList == but.toList) = false := by simpa using h1
        have h1n : (x.toList != but.toList) = true := by simpa using h1
        cases h2 : oneB x (⟨#[32, 100, 100, 32, 100, 116, 32, 108, 105, 32, 111, 112, 116, 103, 114, 111, 117, 112, 32, 111, 112, 116, 105, 111, 110, 32, 112, 32]⟩ : ByteArray) with
        | false =>
          have H2 := Lib.hid h2
          clear h2 h1
          go_wp2_with (go_at_call 39; refine (one_any x _ m _ hxs (by decide) hm).mono ?_; rintro e w' ⟨rfl, rfl⟩; rw [H2.out])
          go_ret
          exact ⟨retI (by rw [HR.out, HE.out, endsN, if_neg (by simpa using h1'), if_neg (by rw [H2.out]; simp)]; rfl), rfl⟩
        | true =>
          have H2 := Lib.hid h2
          clear h2 h1
          go_wp2_with (go_at_call 39; refine (one_any x _ m _ hxs (by decide) hm).mono ?_; rintro e w' ⟨rfl, rfl⟩; rw [H2.out])
          go_round
          case rel => exact ⟨k - 1, j + 1, by omega, by go_num, by go_num, by omega, by rw [HR.out, HE.out, endsN, if_neg (by simpa using h1'), if_pos H2.out]; omega⟩
          case measure => simp [intOf]; omega
    · go_wp2_with fail
      go_ret
      obtain rfl : k = 0 := by omega
      exact ⟨retI (by rw [HR.out]; simp [endsN]), rfl⟩

theorem implied_any (A : Option Addr) (n c : Nat) (l : List ByteArray) (but : ByteArray) (m : Int) (w : World) (D : Nat → Prop) (hl : Sl tStr w D A n c l) (hm : w.cell? ⟨0, 0, none⟩ = some (.int .i64 m)) (h3 : n ≤ 60) :
    Calls Try.prog 17 #[.slice A n c, .string but] w fun e w' => e = .returned (.tuple #[.int .i64 (endsN but l.reverse), .int .i64 0]) ∧ w = w' := by
  go_enter Try.func17, Try.ntmps17
  go_wp2_with (go_at_call 38; refine (ends_any A n c l but m _ D hl hm).mono ?_; rintro e w' ⟨rfl, rfl⟩)
  go_ret2
  exact ⟨rfl, rfl⟩

def specialB (name : ByteArray) : Bool := oneB name (⟨#[32, 97, 100, 100, 114, 101, 115, 115, 32, 97, 114, 116, 105, 99, 108, 101, 32, 97, 115, 105, 100, 101, 32, 98, 108, 111, 99, 107, 113, 117, 111, 116, 101, 32, 98, 111, 100, 121, 32, 98, 114, 32, 98, 117, 116, 116, 111, 110, 32, 99, 97, 112, 116, 105, 111, 110, 32, 99, 111, 108, 32, 99, 111, 108, 103, 114, 111, 117, 112, 32, 100, 100, 32, 100, 101, 116, 97, 105, 108, 115, 32, 100, 105, 114, 32, 100, 105, 118, 32, 100, 108, 32, 100, 116, 32, 102, 105, 101, 108, 100, 115, 101, 116, 32, 102, 105, 103, 99, 97, 112, 116, 105, 111, 110, 32, 102, 105, 103, 117, 114, 101, 32, 102, 111, 111, 116, 101, 114, 32, 102, 111, 114, 109, 32, 104, 49, 32, 104, 50, 32, 104, 51, 32, 104, 52, 32, 104, 53, 32, 104, 54, 32, 104, 101, 97, 100, 32, 104, 101, 97, 100, 101, 114, 32, 104, 114, 32, 104, 116, 109, 108, 32, 105, 109, 103, 32, 105, 110, 112, 117, 116, 32, 108, 105, 32, 108, 105, 110, 107, 32, 109, 97, 105, 110, 32, 109, 101, 110, 117, 32, 109, 101, 116, 97, 32, 110, 97, 118, 32, 111, 98, 106, 101, 99, 116, 32, 111, 108, 32, 112, 32, 112, 114, 101, 32, 115, 99, 114, 105, 112, 116, 32, 115, 101, 97, 114, 99, 104, 32, 115, 101, 99, 116, 105, 111, 110, 32, 115, 101, 108, 101, 99, 116, 32, 115, 116, 121, 108, 101, 32, 115, 117, 109, 109, 97, 114, 121, 32, 116, 97, 98, 108, 101, 32, 116, 98, 111, 100, 121, 32, 116, 100, 32, 116, 101, 109, 112, 108, 97, 116, 101, 32, 116, 101, 120, 116, 97, 114, 101, 97, 32, 116, 102, 111, 111, 116, 32, 116, 104, 32, 116, 104, 101, 97, 100, 32, 116, 105, 116, 108, 101, 32, 116, 114, 32, 117, 108, 32]⟩ : ByteArray)
set_option maxRecDepth 100000 in
theorem special_any (name : ByteArray) (m : Int) (w : World) (hn : name.size ≤ 1152921504606846976) (hm : w.cell? ⟨0, 0, none⟩ = some (.int .i64 m)) :
    Calls Try.prog 37 #[.string name] w fun e w' => e = .returned (.bool (specialB name)) ∧ w = w' := by
  go_enter Try.func37, Try.ntmps37
  go_wp2_with fail
  refine (one_any name _ m _ hn (by decide) hm).mono ?_
  rintro e w' ⟨rfl, rfl⟩
  go_wp2_with fail
  go_ret
  exact ⟨rfl, rfl⟩
def formattingB (name : ByteArray) : Bool := oneB name (⟨#[32, 97, 32, 98, 32, 98, 105, 103, 32, 99, 111, 100, 101, 32, 101, 109, 32, 102, 111, 110, 116, 32, 105, 32, 110, 111, 98, 114, 32, 115, 32, 115, 109, 97, 108, 108, 32, 115, 116, 114, 105, 107, 101, 32, 115, 116, 114, 111, 110, 103, 32, 116, 116, 32, 117, 32]⟩ : ByteArray)
theorem formatting_any (name : ByteArray) (m : Int) (w : World) (hn : name.size ≤ 1152921504606846976) (hm : w.cell? ⟨0, 0, none⟩ = some (.int .i64 m)) :
    Calls Try.prog 18 #[.string name] w fun e w' => e = .returned (.bool (formattingB name)) ∧ w = w' := by
  go_enter Try.func18, Try.ntmps18
  go_wp2_with fail
  refine (one_any name _ m _ hn (by decide) hm).mono ?_
  rintro e w' ⟨rfl, rfl⟩
  go_wp2_with fail
  go_ret
  exact ⟨rfl, rfl⟩

theorem two_bytes {s : ByteArray} (h : s.size = 2) : ∃ a b : UInt8, s = ⟨#[a, b]⟩ := by
  obtain ⟨⟨l⟩⟩ := s
  match l, h with
  | [a, b], _ => exact ⟨a, b, rfl⟩
def headingB (name : ByteArray) : Bool := match name.data.toList with
  | [a, b] => decide ((a.toNat : Int) = 104) && decide (49 ≤ (b.toNat : Int)) && decide ((b.toNat : Int) ≤ 54)
  | _ => false
theorem heading_any (name : ByteArray) (w : World) (hn : name.size ≤ 1152921504606846976) :
    Calls Try.prog 19 #[.string name] w fun e w' => e = .returned (.bool (headingB name)) ∧ w = w' := by
  by_cases h : name.size = 2
  · obtain ⟨a, b, rfl⟩ := two_bytes h
    clear h
    go_enter Try.func19, Try.ntmps19
    go_wp2_with fail
    · go_ret
      have h1 : (a.toNat : Int) = 104 := by assumption
      have h2 : 49 ≤ (b.toNat : Int) := by assumption
      exact ⟨retB (show decide ((b.toNat : Int) ≤ 54) = (decide ((a.toNat : Int) = 104) && decide (49 ≤ (b.toNat : Int)) && decide ((b.toNat : Int) ≤ 54)) by rw [decide_eq_true h1, decide_eq_true h2]; rfl), rfl⟩
    · go_ret
      have h2 : (b.toNat : Int) < 49 := by assumption
      exact ⟨retB (show false = (decide ((a.toNat : Int) = 104) && decide (49 ≤ (b.toNat : Int)) && decide ((b.toNat : Int) ≤ 54)) by rw [decide_eq_false (show ¬ 49 ≤ (b.toNat : Int) by omega)]; simp), rfl⟩
    · go_ret
      have h1 : ¬ (a.toNat : Int) = 104 := by assumption
      exact ⟨retB (show false = (decide ((a.toNat : Int) = 104) && decide (49 ≤ (b.toNat : Int)) && decide ((b.toNat : Int) ≤ 54)) by rw [decide_eq_false h1]; rfl), rfl⟩
  · have h' : ((name.size : Int) == 2) = false := by simpa using fun e => h (by omega)
    go_enter Try.func19, Try.ntmps19
    go_wp2_with fail
    go_ret
    refine ⟨retB ?_, rfl⟩
    unfold headingB
    split
    · rename_i e
      exact absurd (by rw [ByteArray.size, ← Array.length_toList, e]; rfl) h
    · rfl

end Go.Proofs.Ytabilpahmmkjkaa
