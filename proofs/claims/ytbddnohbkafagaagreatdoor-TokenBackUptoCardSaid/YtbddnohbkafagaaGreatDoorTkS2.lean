/-
Escape at longer texts.
-/
import Derived.Test.YtbddnohbkafagaaGreatDoorTkS1
import Derived.Test.YtbddnohbkafagaaGreatDoorTkF
import Derived.Lib.ReplaceLaws
import Derived.WalkSpells
namespace Go.Proofs.YtbddnohbkafagaaGreatDoor
open Go.RowKit Go.Cl
abbrev maxLenAt (w : World) (m : Int) : Prop := w.cell? ⟨0, 0, none⟩ = some (.int .i64 m)
theorem replace_any (s old new : ByteArray) (w : World) (m : Int) (hm : maxLenAt w m) (hs : s.size ≤ 300000000) (h1 : 1 ≤ old.size) (hn : new.size ≤ 6) :
    Calls Tryz.prog 42 #[.string s, .string old, .string new] w fun e w' => e = .returned (.string ⟨(Lib.replaceAll s.data.toList old.data.toList new.data.toList).toArray⟩) ∧ Below w.heap.size w w' := by
  refine Tryz.strings_ReplaceAll s old new m w (by omega) hm h1 ?_
  have h2 := Lib.countB_mul_le old h1 s.size s (Nat.le_refl _)
  have h3 : Lib.countB s old ≤ Lib.countB s old * old.size := Nat.le_mul_of_pos_right _ h1
  have h4 : Lib.countB s old * new.size ≤ Lib.countB s old * 6 := Nat.mul_le_mul_left _ hn
  omega
theorem rep_one' {c : UInt8} {s : ByteArray} {new : List UInt8} (hon : ([c] == new) = false) : Lib.replaceAll s.data.toList (ByteArray.mk #[c]).data.toList new = subst1 c new s.data.toList := rep_one c new hon _

set_option maxRecDepth 100000 in
theorem escape_big (s : ByteArray) (attr : Bool) (w : World) (m : Int) (hm : maxLenAt w m) (hs : s.size ≤ 1048576) :
    Calls Tryz.prog 29 #[.string s, .bool attr] w fun e w' => e = .returned (.string ⟨(escL attr s.data.toList).toArray⟩) ∧ Below w.heap.size w w' := by
  have H1 := Lib.hid (replace_any s ⟨#[38]⟩ ⟨#[38, 97, 109, 112, 59]⟩ w m hm (by omega) (by decide) (by decide))
  rw [rep_one' (by decide)] at H1
  have hs1 : (subst1 38 ampN s.data.toList).length ≤ 6291456 := by
    have := (sub_len 38 (new := ampN) (by decide) (by decide) s.data.toList).1
    have h : s.data.toList.length = s.size := by simp
    omega
  obtain ⟨s1, hd1⟩ : ∃ s1 : ByteArray, s1 = ⟨(subst1 38 ampN s.data.toList).toArray⟩ := ⟨_, rfl⟩
  have hl1 : s1.size ≤ 6291456 := by rw [hd1]; exact hs1
  have hs2 := rep2_len s1.data.toList
  obtain ⟨s2, hd2⟩ : ∃ s2 : ByteArray, s2 = ⟨(rep2 s1.data.toList).toArray⟩ := ⟨_, rfl⟩
  have hl2 : s2.size ≤ 37748736 := by
    rw [hd2]
    have h : s1.data.toList.length = s1.size := by simp
    show (rep2 s1.data.toList).length ≤ _
    omega
  have H2 := Lib.hid (fun W (h : maxLenAt W m) => replace_any s1 ⟨#[194, 160]⟩ ⟨#[38, 110, 98, 115, 112, 59]⟩ W m h (by omega) (by decide) (by decide))
  have HE : Hid (escL attr s.data.toList = lastS attr s2.data.toList) := by rw [hd2, hd1]; rfl
  rw [show (ByteArray.mk (Lib.replaceAll s1.data.toList (ByteArray.mk #[194, 160]).data.toList (ByteArray.mk #[38, 110, 98, 115, 112, 59]).data.toList).toArray) = s2 from by rw [hd2]; rfl] at H2
  rw [show (ByteArray.mk (subst1 38 (ByteArray.mk #[38, 97, 109, 112, 59]).data.toList s.data.toList).toArray) = s1 from by rw [hd1]; rfl] at H1
  clear hs1 hs2 hd1 hd2
  cases attr with
  | true =>
    have H3 := Lib.hid (fun W (h : maxLenAt W m) => replace_any s2 ⟨#[34]⟩ ⟨#[38, 113, 117, 111, 116, 59]⟩ W m h (by omega) (by decide) (by decide))
    rw [rep_one' (by decide)] at H3
    go_enter Tryz.func29, Tryz.ntmps29
    go_wp2_with fail
    refine H1.out.mono ?_
    rintro e w1 ⟨rfl, hb1⟩
    have HB1 := Lib.hid hb1
    go_wp2_with fail
    refine (H2.out _ (cell_be hm HB1.out)).mono ?_
    rintro e w2 ⟨rfl, hb2⟩
    have HB2 := Lib.hid (HB1.out.trans (hb2.mono HB1.out.size))
    clear hb2 hb1
    go_wp2_with fail
    refine (H3.out _ (cell_be hm HB2.out)).mono ?_
    rintro e w3 ⟨rfl, hb3⟩
    have HB3 := Lib.hid (HB2.out.trans (hb3.mono HB2.out.size))
    go_wp2_with fail
    go_ret
    exact ⟨by rw [HE.out]; rfl, HB3.out⟩
  | false =>
    have H3 := Lib.hid (fun W (h : maxLenAt W m) => replace_any s2 ⟨#[60]⟩ ⟨#[38, 108, 116, 59]⟩ W m h (by omega) (by decide) (by decide))
    rw [rep_one' (by decide)] at H3
    obtain ⟨s3, hd3⟩ : ∃ s3 : ByteArray, s3 = ⟨(subst1 60 ltN s2.data.toList).toArray⟩ := ⟨_, rfl⟩
    have hl3 : s3.size ≤ 226492416 := by
      rw [hd3]
      have := (sub_len 60 (new := ltN) (by decide) (by decide) s2.data.toList).1
      have h : s2.data.toList.length = s2.size := by simp
      show (subst1 60 ltN s2.data.toList).length ≤ _
      omega
    have H4 := Lib.hid (fun W (h : maxLenAt W m) => replace_any s3 ⟨#[62]⟩ ⟨#[38, 103, 116, 59]⟩ W m h (by omega) (by decide) (by decide))
    rw [rep_one' (by decide)] at H4
    rw [show (ByteArray.mk (subst1 60 (ByteArray.mk #[38, 108, 116, 59]).data.toList s2.data.toList).toArray) = s3 from by rw [hd3]; rfl] at H3
    have HE2 : Hid (lastS false s2.data.toList = subst1 62 gtN s3.data.toList) := by rw [hd3]; rfl
    clear hd3
    go_enter Tryz.func29, Tryz.ntmps29
    go_wp2_with fail
    refine H1.out.mono ?_
    rintro e w1 ⟨rfl, hb1⟩
    have HB1 := Lib.hid hb1
    go_wp2_with fail
    refine (H2.out _ (cell_be hm HB1.out)).mono ?_
    rintro e w2 ⟨rfl, hb2⟩
    have HB2 := Lib.hid (HB1.out.trans (hb2.mono HB1.out.size))
    clear hb2 hb1
    go_wp2_with fail
    refine (H3.out _ (cell_be hm HB2.out)).mono ?_
    rintro e w3 ⟨rfl, hb3⟩
    have HB3 := Lib.hid (HB2.out.trans (hb3.mono HB2.out.size))
    clear hb3
    go_wp2_with fail
    refine (H4.out _ (cell_be hm HB3.out)).mono ?_
    rintro e w4 ⟨rfl, hb4⟩
    have HB4 := Lib.hid (HB3.out.trans (hb4.mono HB3.out.size))
    go_wp2_with fail
    go_ret
    exact ⟨by rw [HE.out, HE2.out]; rfl, HB4.out⟩

theorem esc_len (attr : Bool) (s : List UInt8) : (escL attr s).length ≤ 1296 * s.length := by
  have h1 := (sub_len 38 (new := ampN) (by decide) (by decide) s).1
  have h2 := rep2_len (subst1 38 ampN s)
  unfold escL
  generalize rep2 (subst1 38 ampN s) = t at *
  cases attr
  · show (subst1 62 gtN (subst1 60 ltN t)).length ≤ _
    have h3 := (sub_len 60 (new := ltN) (by decide) (by decide) t).1
    have h4 := (sub_len 62 (new := gtN) (by decide) (by decide) (subst1 60 ltN t)).1
    omega
  · show (subst1 34 quN t).length ≤ _
    have h3 := (sub_len 34 (new := quN) (by decide) (by decide) t).1
    omega
end Go.Proofs.YtbddnohbkafagaaGreatDoor

/-
The shower's start.
-/
namespace Go.Proofs.YtbddnohbkafagaaGreatDoor
open Go.RowKit Go.Cl
attribute [local go_sem ↓] Go.wp_at_zero Go.wp_at_succ
/-- How much attributes weigh. -/
def attW (l : List DAttr) : Nat := (l.map fun a => a.1.size + a.2.size + 1).sum
theorem attW_len (l : List DAttr) : l.length ≤ attW l := by
  induction l with
  | nil => exact Nat.le_refl _
  | cons a l ih =>
    show l.length + 1 ≤ (a.1.size + a.2.size + 1) + attW l
    omega
theorem attW_mem {l : List DAttr} {a : DAttr} (h : a ∈ l) : a.1.size + a.2.size + 1 ≤ attW l := by
  induction l with
  | nil => cases h
  | cons b l ih =>
    show _ ≤ (b.1.size + b.2.size + 1) + attW l
    rcases List.mem_cons.1 h with rfl | h
    · omega
    · have := ih h
      omega
theorem attrS_len (a : DAttr) : (attrS a).length ≤ 1300 * (a.1.size + a.2.size + 1) := by
  have h1 := esc_len true a.2.data.toList
  have h2 := Lib.size_eq a.1
  have h3 := Lib.size_eq a.2
  unfold attrS
  simp only [List.length_append, List.length_cons, List.length_nil]
  omega
theorem attrs_len (l : List DAttr) (k : Nat) : ((l.take k).flatMap attrS).length ≤ 1300 * attW l := by
  induction l generalizing k with
  | nil => simp [attW]
  | cons a l ih =>
    cases k with
    | zero => simp
    | succ k =>
      have h1 := ih k
      have h2 := attrS_len a
      rw [List.take_succ_cons, List.flatMap_cons, List.length_append]
      show _ ≤ 1300 * ((a.1.size + a.2.size + 1) + attW l)
      omega
theorem app_list (a b : ByteArray) : (a ++ b).data.toList = a.data.toList ++ b.data.toList := by simp
theorem app_size (a b : ByteArray) : (a ++ b).size = a.size + b.size := by simp
set_option maxRecDepth 100000 in
set_option maxHeartbeats 4000000 in
theorem tkStart_any (x : TkP) (A : Option Addr) (n c : Nat) (w : World) (B : Nat) (hB : B ≤ w.heap.size) (hx : Sl tDA w (lt B) A n c x.1.attrs) (hsz : attW x.1.attrs ≤ 1048576) (hnm : x.1.name.size ≤ 1048576) (m : Int) (hm : maxLenAt w m) :
    Calls Tryz.prog 28 #[.agg (tokC x.1.kind x.1.name (.slice A n c) x.1.text x.1.self x.2.1 x.2.2)] w fun e w' => e = .returned (.string (bs (startS x.1))) ∧ Below w.heap.size w w' := by
  obtain ⟨⟨k, nm, at_, tx, sf⟩, f, t⟩ := x
  dsimp only at hx hsz hnm ⊢
  have HX := Lib.hid hx
  have HSZ := Lib.hid hsz
  have HM := Lib.hid hm
  have hal := attW_len at_
  have hn4 : n ≤ 4000000 := by have := hx.hn; omega
  have HN := Lib.hid hx.hn
  clear hal hx hsz hm
  obtain ⟨w1, hw1⟩ : ∃ w1, w1 = w.alloc (.cells (tokC k nm (.slice A n c) tx sf f t) 32) := ⟨_, rfl⟩
  have HX1 := Lib.hid (show w1.heap[w.heap.size]? = some (.cells (tokC k nm (.slice A n c) tx sf f t) 32 (0, 0)) from by rw [hw1]; exact heap_alloc_new w _)
  have HB1 := Lib.hid (show Below w.heap.size w w1 from by rw [hw1]; exact tal (Below.refl _ _) _)
  go_enter Tryz.func28, Tryz.ntmps28
  go_upto_region 1 with fail
  rw [← hw1]
  clear hw1
  have x1 := cell_blk (i := 1) HX1.out rfl
  have x2 := cell_blk (i := 2) HX1.out rfl
  go_wp2_with fail
  go_loopw [3, 12] (fun v i wr => ∃ (j : Nat) (out : ByteArray), j ≤ n ∧ i = .int .i64 (j : Int) ∧ v = .string out ∧ Below w1.heap.size w1 wr ∧ Hid (out.data.toList = [60] ++ nm.data.toList ++ (at_.take j).flatMap attrS)) (fun _ i _ => n - (intOf i).toNat)
  case atStart => exact ⟨0, _, Nat.zero_le _, rfl, rfl, Below.refl _ _, by show _ = _; rw [app_list]; simp⟩
  case round =>
    obtain ⟨j, out, hj, rfl, rfl, hb, HO⟩ := hrel
    have hos : out.size ≤ 2000000000 := by
      have h1 := Lib.size_eq out
      have h2 := attrs_len at_ j
      have h3 := Lib.size_eq nm
      have h4 := HSZ.out
      rw [HO.out, List.length_append, List.length_append] at h1
      simp only [List.length_cons, List.length_nil] at h1
      omega
    by_cases hlt : j < n
    · obtain ⟨a, ha⟩ : ∃ a, at_[j]? = some a := get_some (by have := HN.out; omega)
      obtain ⟨b, o, rfl, hD, c1, c2, z1, z2⟩ := da_cells ((HX.out.below (HB1.out.trans (hb.mono HB1.out.size)) hB)) ha
      have hmem := attW_mem (List.mem_of_getElem? ha)
      have HTK : Hid ((at_.take (j + 1)).flatMap attrS = (at_.take j).flatMap attrS ++ attrS a) := by
        show _ = _
        rw [List.take_add_one, ha]
        simp
      obtain ⟨a1, a2⟩ := a
      dsimp only at c1 c2 z1 z2 hmem
      have ha1 : a1.size ≤ 1048576 := by have := HSZ.out; omega
      have ha2 : a2.size ≤ 1048576 := by have := HSZ.out; omega
      have hb1 : Below w1.heap.size w1 (wr.alloc (.cells #[.string a1, .string a2] 55)) := hb.trans ((tal (Below.refl _ _) _).mono hb.size)
      have HES := Lib.hid (fun (W : World) (hW : Below w1.heap.size w1 W) => escape_big a2 true W m (cell_be HM.out (HB1.out.trans (hW.mono HB1.out.size))) ha2)
      obtain ⟨eS, heS⟩ : ∃ eS : ByteArray, (⟨(escL true a2.data.toList).toArray⟩ : ByteArray) = eS := ⟨_, rfl⟩
      rw [heS] at HES
      have hel : eS.size ≤ 2000000000 := by
        have h1 := esc_len true a2.data.toList
        have h2 := Lib.size_eq a2
        rw [← heS]
        show (escL true a2.data.toList).length ≤ _
        omega
      have HEL : Hid (eS.data.toList = escL true a2.data.toList) := by rw [← heS]; rfl
      clear heS ha hmem hD z1 z2
      go_upto_region 5 with fail
      obtain ⟨w5, hw5⟩ : ∃ w5, w5 = wr.alloc (.cells #[.string a1, .string a2] 55) := ⟨_, rfl⟩
      have HX5 := Lib.hid (show w5.heap[wr.heap.size]? = some (.cells #[.string a1, .string a2] 55 (0, 0)) from by rw [hw5]; exact heap_alloc_new wr _)
      rw [← hw5] at hb1 ⊢
      have HB5 := Lib.hid hb1
      clear hw5 c1 c2 hb1
      have y0 := cell_blk (i := 0) HX5.out rfl
      have y1 := cell_blk (i := 1) HX5.out rfl
      have HW5 : Hid (∀ W, Below w5.heap.size w5 W → Below w1.heap.size w1 W) := fun W h => HB5.out.trans (h.mono HB5.out.size)
      go_region_with (go_at_call 29; refine (HES.out _ (by first | exact HB5.out | exact HW5.out _ (tdrew _) | exact HW5.out _ (tst (tdrew _) (tdrew _)))).mono ?_; rintro e w9 ⟨rfl, hb9⟩; have hb8 : Below w5.heap.size w5 w9 := (by first | exact hb9 | exact tst (tdrew _) hb9 | exact tst (tst (tdrew _) (tdrew _)) hb9); have y0 := cell_be (cell_blk (i := 0) HX5.out rfl) hb8; have HB9 := Lib.hid (HW5.out _ hb8); clear hb8 hb9)
      all_goals
        go_wp2_with fail
        go_roundw
        case rel => exact ⟨j + 1, _, by omega, by first | rfl | (congr 1; omega), rfl, by first | exact HB9.out | exact tst HB9.out (tdrew _) | exact tst (tst HB9.out (tdrew _)) (tdrew _), by show _ = _; rw [HTK.out, ← List.append_assoc, ← HO.out]; simp only [app_list, HEL.out]; simp [attrS]⟩
        case measure => simp [intOf]; omega
    · obtain rfl : j = n := by omega
      have HR : Hid (startS ⟨k, nm, at_, tx, sf⟩ = out.data.toList ++ (if sf then [47] else []) ++ [62]) := by
        show _ = _
        rw [HO.out, HN.out, List.take_length]
        rfl
      have x4 := cell_be (cell_blk (i := 4) HX1.out rfl) hb
      cases sf
      all_goals
        go_wp2_with fail
        go_ret
        exact ⟨by rw [HR.out]; exact congrArg (fun z => Ending.returned (Value.string z)) (bs_of (by simp)), HB1.out.trans (hb.mono HB1.out.size)⟩
end Go.Proofs.YtbddnohbkafagaaGreatDoor

/-
Tokens: the reader's closes, at longer texts.
-/
namespace Go.Proofs.YtbddnohbkafagaaGreatDoor
open Go.RowKit Go.Cl
attribute [local go_sem ↓] Go.wp_at_zero Go.wp_at_succ
set_option maxRecDepth 100000 in
set_option maxHeartbeats 4000000 in
theorem tkCloses_big (X : Nat) (s : ByteArray) (a0 a : Nat) (r : List UInt8) (nm : ByteArray) (E : Int) (O : Value) (w : World) (hs : s.size ≤ 4000000) (hc : Rc w X s a0 E O) (ha : a ≤ s.size) (hr : s.data.toList.drop a = r) (hn : nm.size ≤ 1000)
    (hF : ∀ x : ByteArray, x.size = nm.size → Calls Tryz.prog 39 #[.string x, .string nm] w fun e w' => e = .returned (.bool (Lib.equalFold x.data.toList nm.data.toList)) ∧ Below w.heap.size w w') :
    Calls Tryz.prog 26 #[.pointer (some ⟨X, 0, none⟩), .int .i64 (a : Int), .string nm] w fun e w' => e = .returned (.bool (closesF nm.data.toList r)) ∧ Below w.heap.size w w' := by
  have hdl := drop_len ha hr
  have hnl : nm.data.toList.length = nm.size := by simp
  have c0 := hc.c0
  have HC := Lib.hid hc
  have i0 : (0 : Int) ≤ (a : Int) := by omega
  have i1 : (a : Int) ≤ (s.size : Int) := by omega
  have w1 : IntKind.i64.wrap ((a : Int) + 2) = (a : Int) + 2 := IntWalk.i64_in _ (by omega)
  have w2 : IntKind.i64.wrap ((a : Int) + 2 + (nm.size : Int)) = (a : Int) + 2 + (nm.size : Int) := IntWalk.i64_in _ (by omega)
  have hcl : closesF nm.data.toList r = (decide (2 + nm.data.toList.length < r.length) && (r.take 2 == [60, 47]) && Lib.equalFold ((r.drop 2).take nm.data.toList.length) nm.data.toList && (match r[2 + nm.data.toList.length]? with | some b => blankB b || b == 47 || b == 62 | none => false)) := rfl
  by_cases h1 : 2 + nm.size < r.length
  · have g1 : (a : Int) + 2 + (nm.size : Int) < (s.size : Int) := by omega
    have g1' : decide ((a : Int) + 2 + (nm.size : Int) < (s.size : Int)) = true := decide_eq_true g1
    have j1 : (a : Int) + 2 ≤ (s.size : Int) := by omega
    have j2 : (a : Int) ≤ (a : Int) + 2 := by omega
    have j3 : (0 : Int) ≤ (a : Int) + 2 := by omega
    have j4 : (a : Int) + 2 ≤ (a : Int) + 2 + (nm.size : Int) := by omega
    have j5 : (a : Int) + 2 + (nm.size : Int) ≤ (s.size : Int) := by omega
    have j6 : (0 : Int) ≤ (a : Int) + 2 + (nm.size : Int) := by omega
    have n1 : ((a : Int) + 2).toNat = a + 2 := by omega
    have n2 : ((a : Int) + 2 + (nm.size : Int)).toNat = a + 2 + nm.size := by omega
    obtain ⟨pS, hpS⟩ : ∃ pS, s.extract a (a + 2) = pS := ⟨_, rfl⟩
    have hp : pS.toList = r.take 2 := by rw [← hpS, ByteArray.toList_eq, ext_list, hr, show a + 2 - a = 2 by omega]
    by_cases h2 : r.take 2 = [60, 47]
    · have t1 : (pS.toList == [60, 47]) = true := by rw [hp, h2]; rfl
      obtain ⟨fS, hfS⟩ : ∃ fS, s.extract (a + 2) (a + 2 + nm.size) = fS := ⟨_, rfl⟩
      have hf : fS.data.toList = (r.drop 2).take nm.data.toList.length := by rw [← hfS, ext_list, ← List.drop_drop, hr, hnl, show a + 2 + nm.size - (a + 2) = nm.size by omega]
      have hfz : fS.size = nm.size := by
        have : fS.size = fS.data.toList.length := by simp
        rw [this, hf, List.length_take, List.length_drop]
        omega
      have HEF := Lib.hid (hF fS hfz)
      rw [hf] at HEF
      have hlt : a + 2 + nm.size < s.size := by omega
      have hg : r[2 + nm.data.toList.length]? = some s[a + 2 + nm.size] := by
        rw [← hr, List.getElem?_drop, hnl, show a + (2 + nm.size) = a + 2 + nm.size by omega, Array.getElem?_toList]
        exact Array.getElem?_eq_getElem _
      rw [hg] at hcl
      dsimp only at hcl
      cases hef : Lib.equalFold ((r.drop 2).take nm.data.toList.length) nm.data.toList with
      | false =>
        have HV := Lib.hid (show closesF nm.data.toList r = false from by rw [hcl, hef]; simp)
        rw [hef] at HEF
        clear hef hg hf hfz hp h2 h1 hcl hF hdl hnl hr ha hn hc
        go_enter Tryz.func26, Tryz.ntmps26
        go_wp2_with ((go_at_call 39; refine HEF.out.mono ?_; rintro e w9 ⟨rfl, hb9⟩; have HB9 := Lib.hid hb9; have c0 := cell_be HC.out.c0 hb9; clear hb9))
        go_ret
        exact ⟨by first | (rw [HV.out]; rfl) | (simp only [HV.out]; rfl), HB9.out⟩
      | true =>
        rw [hef] at HEF
        have hcl2 : closesF nm.data.toList r = (blankB s[a + 2 + nm.size] || s[a + 2 + nm.size] == 47 || s[a + 2 + nm.size] == 62) := by rw [hcl, hef, h2, hnl, decide_eq_true h1]; simp
        have HBL := Lib.hid (fun u : World => blank_any s[a + 2 + nm.size] u)
        have HCL := Lib.hid hcl2
        clear hef hg hf hfz hp h2 h1 hcl hF hdl hnl hr ha hn hc hcl2
        cases hb : blankB s[a + 2 + nm.size] with
        | true =>
          have HV := Lib.hid (show closesF nm.data.toList r = true from by rw [HCL.out, hb]; rfl)
          rw [hb] at HBL
          clear hb
          go_enter Tryz.func26, Tryz.ntmps26
          go_wp2_with (first | (go_at_call 39; refine HEF.out.mono ?_; rintro e w9 ⟨rfl, hb9⟩; have HB9 := Lib.hid hb9; have c0 := cell_be HC.out.c0 hb9; clear hb9) | (go_at_call 40; refine (HBL.out _).mono ?_; rintro e w8 ⟨rfl, rfl⟩))
          go_ret
          exact ⟨by first | (rw [HV.out]; rfl) | (simp only [HV.out]; rfl), HB9.out⟩
        | false =>
          rw [hb] at HBL
          by_cases h47 : s[a + 2 + nm.size] = 47
          · have HV := Lib.hid (show closesF nm.data.toList r = true from by rw [HCL.out, hb, h47]; rfl)
            have e47 : ((s[a + 2 + nm.size].toNat : Int) == 47) = true := by rw [h47]; rfl
            have p247 : 47 ≤ s[a + 2 + nm.size].toNat := by rw [h47]; decide
            have p347 : s[a + 2 + nm.size].toNat ≤ 47 := by rw [h47]; decide
            clear hb h47
            go_enter Tryz.func26, Tryz.ntmps26
            go_wp2_with (first | (go_at_call 39; refine HEF.out.mono ?_; rintro e w9 ⟨rfl, hb9⟩; have HB9 := Lib.hid hb9; have c0 := cell_be HC.out.c0 hb9; clear hb9) | (go_at_call 40; refine (HBL.out _).mono ?_; rintro e w8 ⟨rfl, rfl⟩))
            go_ret
            exact ⟨by first | (rw [HV.out]; rfl) | (simp only [HV.out]; rfl), HB9.out⟩
          by_cases h62 : s[a + 2 + nm.size] = 62
          · have HV := Lib.hid (show closesF nm.data.toList r = true from by rw [HCL.out, hb, h62]; rfl)
            have e47 : ((s[a + 2 + nm.size].toNat : Int) == 47) = false := by rw [h62]; rfl
            have p47 : ¬ s[a + 2 + nm.size].toNat = 47 := by rw [h62]; decide
            clear h47
            have e62 : ((s[a + 2 + nm.size].toNat : Int) == 62) = true := by rw [h62]; rfl
            have p262 : 62 ≤ s[a + 2 + nm.size].toNat := by rw [h62]; decide
            have p362 : s[a + 2 + nm.size].toNat ≤ 62 := by rw [h62]; decide
            clear hb h62
            go_enter Tryz.func26, Tryz.ntmps26
            go_wp2_with (first | (go_at_call 39; refine HEF.out.mono ?_; rintro e w9 ⟨rfl, hb9⟩; have HB9 := Lib.hid hb9; have c0 := cell_be HC.out.c0 hb9; clear hb9) | (go_at_call 40; refine (HBL.out _).mono ?_; rintro e w8 ⟨rfl, rfl⟩))
            go_ret
            exact ⟨by first | (rw [HV.out]; rfl) | (simp only [HV.out]; rfl), HB9.out⟩
          have e47 : ((s[a + 2 + nm.size].toNat : Int) == 47) = false := u8_ne (c := 47) (by decide) h47
          have p47 : ¬ s[a + 2 + nm.size].toNat = 47 := fun e => h47 (UInt8.toNat_inj.1 e)
          have e62 : ((s[a + 2 + nm.size].toNat : Int) == 62) = false := u8_ne (c := 62) (by decide) h62
          have p62 : ¬ s[a + 2 + nm.size].toNat = 62 := fun e => h62 (UInt8.toNat_inj.1 e)
          have HV := Lib.hid (show closesF nm.data.toList r = false from by rw [HCL.out, hb, beq_eq_false_iff_ne.2 h47, beq_eq_false_iff_ne.2 h62]; rfl)
          clear hb h47 h62
          go_enter Tryz.func26, Tryz.ntmps26
          go_wp2_with (first | (go_at_call 39; refine HEF.out.mono ?_; rintro e w9 ⟨rfl, hb9⟩; have HB9 := Lib.hid hb9; have c0 := cell_be HC.out.c0 hb9; clear hb9) | (go_at_call 40; refine (HBL.out _).mono ?_; rintro e w8 ⟨rfl, rfl⟩))
          go_ret
          exact ⟨by first | (rw [HV.out]; rfl) | (simp only [HV.out]; rfl), HB9.out⟩
    · have t1 : (pS.toList == [60, 47]) = false := by rw [hp]; exact beq_eq_false_iff_ne.2 h2
      have HV := Lib.hid (show closesF nm.data.toList r = false from by rw [hcl, beq_eq_false_iff_ne.2 h2]; simp)
      clear hp h2 h1 hcl hF hdl hnl hr ha hn hc
      go_enter Tryz.func26, Tryz.ntmps26
      go_wp2_with fail
      go_ret
      exact ⟨by first | (rw [HV.out]; rfl) | (simp only [HV.out]; rfl), Below.refl _ _⟩
  · have g1 : ¬ (a : Int) + 2 + (nm.size : Int) < (s.size : Int) := by omega
    have g1' : decide ((a : Int) + 2 + (nm.size : Int) < (s.size : Int)) = false := decide_eq_false g1
    have HV := Lib.hid (show closesF nm.data.toList r = false from by rw [hcl, decide_eq_false (by omega)]; rfl)
    clear h1 hcl hF hdl hnl hr ha hn hc
    go_enter Tryz.func26, Tryz.ntmps26
    go_wp2_with fail
    go_ret
    exact ⟨by first | (rw [HV.out]; rfl) | (simp only [HV.out]; rfl), Below.refl _ _⟩
end Go.Proofs.YtbddnohbkafagaaGreatDoor
