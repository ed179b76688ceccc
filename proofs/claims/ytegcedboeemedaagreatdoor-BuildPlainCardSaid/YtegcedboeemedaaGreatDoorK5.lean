/-
Tokens: the reader's next.
-/
import Derived.Test.YtegcedboeemedaaGreatDoorK4
import Derived.Shelf.Strings.IndexAnyAll
import Derived.Deep.QuietTactic
import Derived.BigQuiet
import Derived.RangeFuncNested
import Derived.RangeFuncBound
import Derived.RangeFuncCalls
import Derived.RangeFuncLeaves
import Derived.RangeFuncBox
import Derived.Shelf.Abstract
import Derived.Shelf.RegionOpen
import Derived.WalkKit
import Derived.OwnWalkIn
import Derived.TacticsInMore
import Derived.LoopNIn
import Derived.LoopIn
import Derived.OpenShut
namespace Go.Proofs.YtegcedboeemedaaGreatDoor
open Go.RowKit Go.Cl
attribute [local go_sem ↓] Go.wp_at_zero Go.wp_at_succ
def tkZ : Tk := ⟨0, ⟨#[]⟩, [], ⟨#[]⟩, false⟩
/-- What next tells. -/
def NextPost (X : Nat) (s : ByteArray) (r : List UInt8) (E : Int) (O : Value) (w : World) (e : Ending) (w' : World) : Prop :=
  w.grownBy w' (some X) ∧ match nextF r with
    | none => (∃ kd nm A n c, (kd = 1 ∨ kd = 2) ∧ e = .returned (.tuple #[.agg (tokC kd nm (.slice A n c) ⟨#[]⟩ false 0 0), .bool false])) ∧ Rd w' X s [] E O
    | some (t, en, r2) => (∃ v, e = .returned (.tuple #[.agg (tokC (t.getD tkZ).kind (t.getD tkZ).name v (t.getD tkZ).text (t.getD tkZ).self 0 0), .bool en]) ∧ OwnF tDA w' w.heap.size 141 v (t.getD tkZ).attrs.length (t.getD tkZ).attrs) ∧ Rd w' X s r2 E O
theorem decl_attrs (r : List UInt8) : (declF r).1.attrs = [] := by
  unfold declF
  split
  · split
    · rfl
    · split
      · rfl
      · rfl
  · split
    · rfl
    · rfl
theorem mark_len2 {r : List UInt8} (h : markF r ≠ 0) : 2 ≤ r.length := by
  match r, h with
  | [], h => exact absurd rfl h
  | [_], h => exact absurd rfl h
  | _ :: _ :: _, _ => simp
theorem mark_end {r : List UInt8} (h : markF r = 47) : ∃ b t, r = 60 :: 47 :: b :: t := by
  match r, h with
  | [], h => exact absurd h (by decide)
  | [_], h => exact absurd h (by simp [markF])
  | c :: b :: t, h =>
    rw [mark_cons] at h
    split at h
    · exact absurd h (by decide)
    · rename_i hc
      split at h
      · exact absurd h (by decide)
      · split at h
        · rename_i hb
          subst h
          exact absurd hb (by decide)
        · split at h
          · rename_i hb
            obtain ⟨rfl, ht⟩ := hb
            cases t with
            | nil => exact absurd rfl ht
            | cons d t2 =>
              have : c = 60 := Decidable.not_not.1 hc
              exact ⟨d, t2, by rw [this]⟩
          · exact absurd h (by decide)
set_option maxRecDepth 100000 in
set_option maxHeartbeats 8000000 in
theorem tkNext_any (w0 w : World) (X : Nat) (s : ByteArray) (r : List UInt8) (E : Int) (O : Value) (hs : s.size ≤ 1000000) (h : Rd w X s r E O) (hlow : Below X w0 w) (hmk : markF r = 33 ∨ markF r = 63 ∨ markF r = 97 ∨ markF r = 47) (hF : FoldOk w0 X) (hY : AnyOk w0 X) :
    Calls Tryz.prog 66 #[.pointer (some ⟨X, 0, none⟩), .int .u8 ((markF r).toNat : Int)] w (NextPost X s r E O w) := by
  have hG0 := h.mxlt
  have h2 : 2 ≤ r.length := mark_len2 (by rcases hmk with h | h | h | h <;> (rw [h]; decide))
  obtain ⟨a, haz, hr, hc0⟩ := rd_at h
  have hX : X < w.heap.size := hc0.lt
  have HTX : Hid (X < w.heap.size) := hX
  obtain ⟨w1, hw1⟩ : ∃ w1, w1 = w.alloc (.cells (tokC 0 ⟨#[]⟩ (.slice none 0 0) ⟨#[]⟩ false 0 0) 76) := ⟨_, rfl⟩
  have z1 : w1.heap.size = w.heap.size + 1 := by rw [hw1]; exact World.size_alloc w _
  have hb1 : Below w.heap.size w w1 := by rw [hw1]; exact tal (Below.refl _ _) _
  have HX1 := Lib.hid (show w1.heap[w.heap.size]? = some (.cells (tokC 0 ⟨#[]⟩ (.slice none 0 0) ⟨#[]⟩ false 0 0) 76 (0, 0)) from by rw [hw1]; exact heap_alloc_new w _)
  have HB1 := Lib.hid hb1
  have HR1 := Lib.hid (h.next hb1)
  have HC1 := Lib.hid (hc0.next hb1)
  have HL1 := Lib.hid (hlow.trans (hb1.mono (Nat.le_of_lt hX)))
  have HZ1 := Lib.hid z1
  have HAZ := Lib.hid haz
  have HDR := Lib.hid hr
  have HFO := Lib.hid hF
  have HYO := Lib.hid hY
  have H2 := Lib.hid h2
  have c0 := HC1.out.c0
  have c1 := HC1.out.c1
  have f1 := HC1.out.fr 1
  have i0 : (0 : Int) ≤ (a : Int) := by omega
  have i1 : (a : Int) ≤ (s.size : Int) := by omega
  have i2 : (a : Int) + 2 ≤ (s.size : Int) := by omega
  have HCM := Lib.hid (fun (r' : List UInt8) (u : World) (h : Rd u X s r' E O) => (show Calls Tryz.prog 106 #[.pointer (some ⟨X, 0, none⟩), .string ⟨#[62]⟩] u fun e w' => e = .returned (.tuple #[.agg (tokC 4 ⟨#[]⟩ (.slice none 0 0) (bs (Lib.cut r' [62]).1) false 0 0), .bool (Lib.cut r' [62]).2.2]) ∧ u.grownBy w' (some X) ∧ Rd w' X s (Lib.cut r' [62]).2.1 E O from tkComment_any X s r' ⟨#[62]⟩ E O u hs (by decide) h))
  have HST := Lib.hid (fun (k : Nat) (hk : k ≤ 2) => Rd.step (w := w1) (n := (a : Int) + k) (b := a + k) (by omega) (by have := HAZ.out; have := H2.out; omega) (by rw [← List.drop_drop, HDR.out]) HC1.out HR1.out.mx)
  clear h hlow hF hY haz hr hc0 hX hb1 h2 z1
  rcases hmk with hk | hk | hk | hk
  · rw [hk]
    change Calls Tryz.prog _ #[.pointer (some ⟨X, 0, none⟩), .int .u8 33] w _
    have hn : nextF r = some (some (declF r).1, (declF r).2) := by unfold nextF; rw [if_pos hk]
    have hat := decl_attrs r
    have hde := tkDecl_any w0 w1 X s r E O hs HR1.out HL1.out H2.out HFO.out HYO.out
    generalize declF r = dd at hn hat hde
    obtain ⟨⟨tk, tn, ta, tx, ts⟩, en, r2⟩ := dd
    subst hat
    have HDE := Lib.hid hde
    have HN := Lib.hid hn
    clear hde hn hk
    go_enter Tryz.func66, Tryz.ntmps66
    go_upto_region 1 with fail
    rw [← hw1]
    clear hw1
    go_wp2_with (go_at_call 105; refine HDE.out.mono ?_; rintro e w5 ⟨rfl, hg15, hr5⟩; have hZ5 := (hg15.block w.heap.size (Array.getElem?_eq_some_iff.1 HX1.out).1 (by have := HTX.out; simp; omega)).trans HX1.out; have HZ5 := Lib.hid hZ5; have HG5 := Lib.hid ((grown_below HB1.out (some X)).trans hg15); have HR5 := Lib.hid hr5; have d0 := cell_blk (i := 0) hZ5 rfl; have d1 := cell_blk (i := 1) hZ5 rfl; have d2 := cell_blk (i := 2) hZ5 rfl; have d3 := cell_blk (i := 3) hZ5 rfl; have d4 := cell_blk (i := 4) hZ5 rfl; have d5 := cell_blk (i := 5) hZ5 rfl; have d6 := cell_blk (i := 6) hZ5 rfl; have fd0 := free_blk (i := 0) hZ5; have fd1 := free_blk (i := 1) hZ5; have fd2 := free_blk (i := 2) hZ5; have fd3 := free_blk (i := 3) hZ5; have fd4 := free_blk (i := 4) hZ5; have fd5 := free_blk (i := 5) hZ5; have fd6 := free_blk (i := 6) hZ5; clear hZ5 hr5 hg15)
    have hF := put7_blk (c0 := .int .i64 tk) (c1 := .string tn) (c2 := .slice none 0 0) (c3 := .string tx) (c4 := .bool ts) (c5 := .int .i64 0) (c6 := .int .i64 0) HZ5.out
    have cF0 := cell_blk (i := 0) hF rfl
    have cF1 := cell_blk (i := 1) hF rfl
    have cF2 := cell_blk (i := 2) hF rfl
    have cF3 := cell_blk (i := 3) hF rfl
    have cF4 := cell_blk (i := 4) hF rfl
    have cF5 := cell_blk (i := 5) hF rfl
    have cF6 := cell_blk (i := 6) hF rfl
    have hX0 := HTX.out
    have hRF := put7_rd (c0 := .int .i64 tk) (c1 := .string tn) (c2 := .slice none 0 0) (c3 := .string tx) (c4 := .bool ts) (c5 := .int .i64 0) (c6 := .int .i64 0) HR5.out (show X ≠ w.heap.size by omega) (show w.heap.size ≠ 0 by omega)
    refine bodyPost_ret (v := .tuple #[.agg #[.int .i64 tk, .string tn, .slice none 0 0, .string tx, .bool ts, .int .i64 0, .int .i64 0], .bool en]) ?_ rfl ⟨put7_grown HG5.out (Nat.le_refl _), by rw [HN.out]; exact ⟨⟨.slice none 0 0, rfl, OwnF.nil _ _ _⟩, hRF⟩⟩
    clear hF hRF
    simp [results, Tryz.results66, go_sem, cF0, cF1, cF2, cF3, cF4, cF5, cF6]
  · rw [hk]
    change Calls Tryz.prog _ #[.pointer (some ⟨X, 0, none⟩), .int .u8 63] w _
    have hn : nextF r = some (some (tkC (Lib.cut (r.drop 1) [62]).1), (Lib.cut (r.drop 1) [62]).2.2, (Lib.cut (r.drop 1) [62]).2.1) := by unfold nextF; rw [if_neg (by rw [hk]; decide), if_pos hk]; rfl
    have hcm := HCM.out (r.drop 1)
    clear HCM
    generalize Lib.cut (r.drop 1) [62] = ct at hn hcm
    obtain ⟨k1, k2, k3⟩ := ct
    have HN := Lib.hid (show nextF r = some (some ⟨4, ⟨#[]⟩, [], bs k1, false⟩, k3, k2) from hn)
    have HCM := Lib.hid hcm
    clear hn hcm
    have HST := Lib.hid (show Rd (w1.setCell ⟨X, 1, none⟩ (.int .i64 ((a : Int) + 1))) X s (r.drop 1) E O ∧ w1.grownBy (w1.setCell ⟨X, 1, none⟩ (.int .i64 ((a : Int) + 1))) (some X) from HST.out 1 (by decide))
    clear hk
    go_enter Tryz.func66, Tryz.ntmps66
    go_upto_region 1 with fail
    rw [← hw1]
    clear hw1
    go_wp2_with (go_at_call 106; refine (HCM.out  _ HST.out.1).mono ?_; rintro e w5 ⟨rfl, hg5, hr5⟩; have hg15 := HST.out.2.trans hg5; have hZ5 := (hg15.block w.heap.size (Array.getElem?_eq_some_iff.1 HX1.out).1 (by have := HTX.out; simp; omega)).trans HX1.out; have HZ5 := Lib.hid hZ5; have HG5 := Lib.hid ((grown_below HB1.out (some X)).trans hg15); have HR5 := Lib.hid hr5; have d0 := cell_blk (i := 0) hZ5 rfl; have d1 := cell_blk (i := 1) hZ5 rfl; have d2 := cell_blk (i := 2) hZ5 rfl; have d3 := cell_blk (i := 3) hZ5 rfl; have d4 := cell_blk (i := 4) hZ5 rfl; have d5 := cell_blk (i := 5) hZ5 rfl; have d6 := cell_blk (i := 6) hZ5 rfl; have fd0 := free_blk (i := 0) hZ5; have fd1 := free_blk (i := 1) hZ5; have fd2 := free_blk (i := 2) hZ5; have fd3 := free_blk (i := 3) hZ5; have fd4 := free_blk (i := 4) hZ5; have fd5 := free_blk (i := 5) hZ5; have fd6 := free_blk (i := 6) hZ5; clear hZ5 hg5 hr5 hg15)
    have hF := put7_blk (c0 := .int .i64 4) (c1 := .string ⟨#[]⟩) (c2 := .slice none 0 0) (c3 := .string (bs k1)) (c4 := .bool false) (c5 := .int .i64 0) (c6 := .int .i64 0) HZ5.out
    have cF0 := cell_blk (i := 0) hF rfl
    have cF1 := cell_blk (i := 1) hF rfl
    have cF2 := cell_blk (i := 2) hF rfl
    have cF3 := cell_blk (i := 3) hF rfl
    have cF4 := cell_blk (i := 4) hF rfl
    have cF5 := cell_blk (i := 5) hF rfl
    have cF6 := cell_blk (i := 6) hF rfl
    have hX0 := HTX.out
    have hRF := put7_rd (c0 := .int .i64 4) (c1 := .string ⟨#[]⟩) (c2 := .slice none 0 0) (c3 := .string (bs k1)) (c4 := .bool false) (c5 := .int .i64 0) (c6 := .int .i64 0) HR5.out (show X ≠ w.heap.size by omega) (show w.heap.size ≠ 0 by omega)
    refine bodyPost_ret (v := .tuple #[.agg #[.int .i64 4, .string ⟨#[]⟩, .slice none 0 0, .string (bs k1), .bool false, .int .i64 0, .int .i64 0], .bool k3]) ?_ rfl ⟨put7_grown HG5.out (Nat.le_refl _), by rw [HN.out]; exact ⟨⟨.slice none 0 0, rfl, OwnF.nil _ _ _⟩, hRF⟩⟩
    clear hF hRF
    simp [results, Tryz.results66, go_sem, cF0, cF1, cF2, cF3, cF4, cF5, cF6]
  · rw [hk]
    change Calls Tryz.prog _ #[.pointer (some ⟨X, 0, none⟩), .int .u8 97] w _
    have hnx : nextF r = (tagT 1 (r.drop 1)).map fun x => (some x.1, true, x.2) := by unfold nextF; rw [if_neg (by rw [hk]; decide), if_neg (by rw [hk]; decide), if_pos hk]
    have HST := Lib.hid (show Rd (w1.setCell ⟨X, 1, none⟩ (.int .i64 ((a : Int) + 1))) X s (r.drop 1) E O ∧ w1.grownBy (w1.setCell ⟨X, 1, none⟩ (.int .i64 ((a : Int) + 1))) (some X) from HST.out 1 (by decide))
    have htg := fun (u : World) (h : Rd u X s (r.drop 1) E O) => tkTag_any X s (r.drop 1) 1 E O u hs h
    unfold TagPost at htg
    unfold tagT at hnx
    clear hk
    cases hta : tagF [] ((r.drop 1).dropWhile tagB) with
    | none =>
      rw [hta] at htg hnx
      dsimp only at htg
      have HN := Lib.hid (show nextF r = none from hnx)
      have HTG := Lib.hid htg
      clear htg hnx hta
      go_enter Tryz.func66, Tryz.ntmps66
      go_upto_region 1 with fail
      rw [← hw1]
      clear hw1
      go_wp2_with (go_at_call 107; refine (HTG.out _ HST.out.1).mono ?_; rintro e w5 ⟨hg5, ⟨tn, vA, vn, vc, rfl⟩, hr5⟩; have hg15 := HST.out.2.trans hg5; have hZ5 := (hg15.block w.heap.size (Array.getElem?_eq_some_iff.1 HX1.out).1 (by have := HTX.out; simp; omega)).trans HX1.out; have HZ5 := Lib.hid hZ5; have HG5 := Lib.hid ((grown_below HB1.out (some X)).trans hg15); have HR5 := Lib.hid hr5; have d0 := cell_blk (i := 0) hZ5 rfl; have d1 := cell_blk (i := 1) hZ5 rfl; have d2 := cell_blk (i := 2) hZ5 rfl; have d3 := cell_blk (i := 3) hZ5 rfl; have d4 := cell_blk (i := 4) hZ5 rfl; have d5 := cell_blk (i := 5) hZ5 rfl; have d6 := cell_blk (i := 6) hZ5 rfl; have fd0 := free_blk (i := 0) hZ5; have fd1 := free_blk (i := 1) hZ5; have fd2 := free_blk (i := 2) hZ5; have fd3 := free_blk (i := 3) hZ5; have fd4 := free_blk (i := 4) hZ5; have fd5 := free_blk (i := 5) hZ5; have fd6 := free_blk (i := 6) hZ5; clear hZ5 hg5 hr5 hg15)
      have hF := put7_blk (c0 := .int .i64 1) (c1 := .string tn) (c2 := .slice vA vn vc) (c3 := .string ⟨#[]⟩) (c4 := .bool false) (c5 := .int .i64 0) (c6 := .int .i64 0) HZ5.out
      have cF0 := cell_blk (i := 0) hF rfl
      have cF1 := cell_blk (i := 1) hF rfl
      have cF2 := cell_blk (i := 2) hF rfl
      have cF3 := cell_blk (i := 3) hF rfl
      have cF4 := cell_blk (i := 4) hF rfl
      have cF5 := cell_blk (i := 5) hF rfl
      have cF6 := cell_blk (i := 6) hF rfl
      have hX0 := HTX.out
      have hRF := put7_rd (c0 := .int .i64 1) (c1 := .string tn) (c2 := .slice vA vn vc) (c3 := .string ⟨#[]⟩) (c4 := .bool false) (c5 := .int .i64 0) (c6 := .int .i64 0) HR5.out (show X ≠ w.heap.size by omega) (show w.heap.size ≠ 0 by omega)
      refine bodyPost_ret (v := .tuple #[.agg #[.int .i64 1, .string tn, .slice vA vn vc, .string ⟨#[]⟩, .bool false, .int .i64 0, .int .i64 0], .bool false]) ?_ rfl ⟨put7_grown HG5.out (Nat.le_refl _), by rw [HN.out]; exact ⟨⟨1, tn, vA, vn, vc, .inl rfl, rfl⟩, hRF⟩⟩
      clear hF hRF
      simp [results, Tryz.results66, go_sem, cF0, cF1, cF2, cF3, cF4, cF5, cF6]
    | some ta =>
      obtain ⟨acc, self, r2⟩ := ta
      rw [hta] at htg hnx
      dsimp only at htg
      obtain ⟨nm, hnm⟩ : ∃ nm, bs (nameL ((r.drop 1).takeWhile tagB)) = nm := ⟨_, rfl⟩
      rw [hnm] at htg
      have HN := Lib.hid (show nextF r = some (some ⟨1, nm, acc, ⟨#[]⟩, self⟩, true, r2) from by rw [hnx, ← hnm]; rfl)
      have HTG := Lib.hid htg
      clear htg hnx hta hnm
      go_enter Tryz.func66, Tryz.ntmps66
      go_upto_region 1 with fail
      rw [← hw1]
      clear hw1
      go_wp2_with (go_at_call 107; refine (HTG.out _ HST.out.1).mono ?_; rintro e w5 ⟨hg5, v, rfl, ho5, hr5⟩; obtain ⟨vA, vc, rfl⟩ := Cl.Own.form ho5; have hg15 := HST.out.2.trans hg5; have hZ5 := (hg15.block w.heap.size (Array.getElem?_eq_some_iff.1 HX1.out).1 (by have := HTX.out; simp; omega)).trans HX1.out; have HZ5 := Lib.hid hZ5; have HG5 := Lib.hid ((grown_below HB1.out (some X)).trans hg15); have HR5 := Lib.hid hr5; have d0 := cell_blk (i := 0) hZ5 rfl; have d1 := cell_blk (i := 1) hZ5 rfl; have d2 := cell_blk (i := 2) hZ5 rfl; have d3 := cell_blk (i := 3) hZ5 rfl; have d4 := cell_blk (i := 4) hZ5 rfl; have d5 := cell_blk (i := 5) hZ5 rfl; have d6 := cell_blk (i := 6) hZ5 rfl; have fd0 := free_blk (i := 0) hZ5; have fd1 := free_blk (i := 1) hZ5; have fd2 := free_blk (i := 2) hZ5; have fd3 := free_blk (i := 3) hZ5; have fd4 := free_blk (i := 4) hZ5; have fd5 := free_blk (i := 5) hZ5; have fd6 := free_blk (i := 6) hZ5; have HO5 := Lib.hid ho5; clear hZ5 hg5 hr5 hg15 ho5)
      have hF := put7_blk (c0 := .int .i64 1) (c1 := .string nm) (c2 := .slice vA acc.length vc) (c3 := .string ⟨#[]⟩) (c4 := .bool self) (c5 := .int .i64 0) (c6 := .int .i64 0) HZ5.out
      have cF0 := cell_blk (i := 0) hF rfl
      have cF1 := cell_blk (i := 1) hF rfl
      have cF2 := cell_blk (i := 2) hF rfl
      have cF3 := cell_blk (i := 3) hF rfl
      have cF4 := cell_blk (i := 4) hF rfl
      have cF5 := cell_blk (i := 5) hF rfl
      have cF6 := cell_blk (i := 6) hF rfl
      have hX0 := HTX.out
      have hRF := put7_rd (c0 := .int .i64 1) (c1 := .string nm) (c2 := .slice vA acc.length vc) (c3 := .string ⟨#[]⟩) (c4 := .bool self) (c5 := .int .i64 0) (c6 := .int .i64 0) HR5.out (show X ≠ w.heap.size by omega) (show w.heap.size ≠ 0 by omega)
      refine bodyPost_ret (v := .tuple #[.agg #[.int .i64 1, .string nm, .slice vA acc.length vc, .string ⟨#[]⟩, .bool self, .int .i64 0, .int .i64 0], .bool true]) ?_ rfl ⟨put7_grown HG5.out (Nat.le_refl _), by rw [HN.out]; exact ⟨⟨.slice vA acc.length vc, rfl, ((put7_own HO5.out (by have := HZ1.out; show w.heap.size < (World.setCell _ _ _).heap.size; rw [World.size_setCell]; omega)).down (by have := HZ1.out; show w.heap.size ≤ (World.setCell _ _ _).heap.size; rw [World.size_setCell]; omega))⟩, hRF⟩⟩
      clear hF hRF
      simp [results, Tryz.results66, go_sem, cF0, cF1, cF2, cF3, cF4, cF5, cF6]
  · obtain ⟨b, t, hrt⟩ := mark_end hk
    rw [hk]
    change Calls Tryz.prog _ #[.pointer (some ⟨X, 0, none⟩), .int .u8 47] w _
    have hnx : nextF r = if b = 62 then some (none, true, t) else if letterB b then (tagT 2 (b :: t)).map fun x => (some x.1, true, x.2) else some (some (tkC (Lib.cut (b :: t) [62]).1), (Lib.cut (b :: t) [62]).2.2, (Lib.cut (b :: t) [62]).2.1) := by
      unfold nextF
      rw [if_neg (by rw [hk]; decide), if_neg (by rw [hk]; decide), if_neg (by rw [hk]; decide), hrt]
      rfl
    have HST := Lib.hid (show Rd (w1.setCell ⟨X, 1, none⟩ (.int .i64 ((a : Int) + 2))) X s (b :: t) E O ∧ w1.grownBy (w1.setCell ⟨X, 1, none⟩ (.int .i64 ((a : Int) + 2))) (some X) from by have := HST.out 2 (by decide); rw [show r.drop 2 = b :: t by rw [hrt]; rfl] at this; exact this)
    clear hk hrt
    go_enter Tryz.func66, Tryz.ntmps66
    go_upto_region 1 with fail
    rw [← hw1]
    clear hw1
    go_upto_region 10 with fail
    obtain ⟨w2, hw2⟩ : ∃ w2, w2 = w1.setCell ⟨X, 1, none⟩ (.int .i64 ((a : Int) + 2)) := ⟨_, rfl⟩
    rw [← hw2]
    rw [← hw2] at HST
    have hz2 : w2.heap.size = w1.heap.size := by rw [hw2]; exact World.size_setCell _ _ _
    have HZ2 := Lib.hid (show w2.heap.size = w.heap.size + 1 by rw [hz2]; exact HZ1.out)
    clear hw2 hz2 c0 c1 f1 i0 i1 i2
    obtain ⟨a2, haz2, hra2, hc2⟩ := rd_at HST.out.1
    have hm2 := HST.out.1.mx
    obtain ⟨hlt2, hsa2, hr3⟩ := at_head hra2
    have c0 := hc2.c0
    have c1 := hc2.c1
    have f1 := hc2.fr 1
    have j0 : (0 : Int) ≤ (a2 : Int) := by omega
    have j1 : (a2 : Int) < (s.size : Int) := by omega
    have HS6 := Lib.hid fun (k : Nat) => Rd.step (w := w2.drewN k) (n := (a2 : Int) + 1) (b := a2 + 1) (by omega) (by omega) hr3 hc2 hm2
    have HSA := Lib.hid hsa2
    clear haz2 hra2 hc2 hm2 hr3 hsa2
    go_quiet (fail)
    go_upto_region 11 with fail
    by_cases h62 : b = 62
    · rw [if_pos h62] at hnx
      have HN := Lib.hid hnx
      have e62 : ((s[a2].toNat : Int) == 62) = true := by rw [HSA.out, h62]; rfl
      have p62 : 62 ≤ s[a2].toNat := by rw [HSA.out, h62]; decide
      have p63 : s[a2].toNat ≤ 62 := by rw [HSA.out, h62]; decide
      clear hnx h62
      go_upto_region 13 with fail
      have hst := HS6.out nq
      obtain ⟨w5, hw5⟩ : ∃ w5, w5 = (w2.drewN nq).setCell ⟨X, 1, none⟩ (.int .i64 ((a2 : Int) + 1)) := ⟨_, rfl⟩
      rw [← hw5]
      rw [← hw5] at hst
      have hr5 := hst.1
      have hg15 := HST.out.2.trans ((grown_below (tdrewN w2 nq) (some X)).trans hst.2)
      have hZ5 := (hg15.block w.heap.size (Array.getElem?_eq_some_iff.1 HX1.out).1 (by have := HTX.out; simp; omega)).trans HX1.out
      have HZ5 := Lib.hid hZ5
      have HG5 := Lib.hid ((grown_below HB1.out (some X)).trans hg15)
      have HR5 := Lib.hid hr5
      have d0 := cell_blk (i := 0) hZ5 rfl
      have d1 := cell_blk (i := 1) hZ5 rfl
      have d2 := cell_blk (i := 2) hZ5 rfl
      have d3 := cell_blk (i := 3) hZ5 rfl
      have d4 := cell_blk (i := 4) hZ5 rfl
      have d5 := cell_blk (i := 5) hZ5 rfl
      have d6 := cell_blk (i := 6) hZ5 rfl
      have fd0 := free_blk (i := 0) hZ5
      have fd1 := free_blk (i := 1) hZ5
      have fd2 := free_blk (i := 2) hZ5
      have fd3 := free_blk (i := 3) hZ5
      have fd4 := free_blk (i := 4) hZ5
      have fd5 := free_blk (i := 5) hZ5
      have fd6 := free_blk (i := 6) hZ5
      clear hZ5 hr5 hg15 hst hw5 c0 c1 f1
      go_wp2_with fail
      have hF := put7_blk (c0 := .int .i64 0) (c1 := .string ⟨#[]⟩) (c2 := .slice none 0 0) (c3 := .string ⟨#[]⟩) (c4 := .bool false) (c5 := .int .i64 0) (c6 := .int .i64 0) HZ5.out
      have cF0 := cell_blk (i := 0) hF rfl
      have cF1 := cell_blk (i := 1) hF rfl
      have cF2 := cell_blk (i := 2) hF rfl
      have cF3 := cell_blk (i := 3) hF rfl
      have cF4 := cell_blk (i := 4) hF rfl
      have cF5 := cell_blk (i := 5) hF rfl
      have cF6 := cell_blk (i := 6) hF rfl
      have hX0 := HTX.out
      have hRF := put7_rd (c0 := .int .i64 0) (c1 := .string ⟨#[]⟩) (c2 := .slice none 0 0) (c3 := .string ⟨#[]⟩) (c4 := .bool false) (c5 := .int .i64 0) (c6 := .int .i64 0) HR5.out (show X ≠ w.heap.size by omega) (show w.heap.size ≠ 0 by omega)
      refine bodyPost_ret (v := .tuple #[.agg #[.int .i64 0, .string ⟨#[]⟩, .slice none 0 0, .string ⟨#[]⟩, .bool false, .int .i64 0, .int .i64 0], .bool true]) ?_ rfl ⟨put7_grown HG5.out (Nat.le_refl _), by rw [HN.out]; exact ⟨⟨.slice none 0 0, rfl, OwnF.nil _ _ _⟩, hRF⟩⟩
      clear hF hRF
      simp [results, Tryz.results66, go_sem, cF0, cF1, cF2, cF3, cF4, cF5, cF6]
    · rw [if_neg h62] at hnx
      have e62 : ((s[a2].toNat : Int) == 62) = false := by rw [HSA.out]; exact u8_ne (c := 62) (by decide) h62
      have p62 : ¬ s[a2].toNat = 62 := by rw [HSA.out]; exact fun e => h62 (UInt8.toNat_inj.1 e)
      have HLT := Lib.hid (fun u : World => letter_any s[a2] u)
      clear h62
      cases hl : letterB b with
      | false =>
        rw [HSA.out, hl, ← HSA.out] at HLT
        rw [hl, if_neg (by decide)] at hnx
        have hcm := HCM.out (b :: t)
        clear HCM
        generalize Lib.cut (b :: t) [62] = ct at hnx hcm
        obtain ⟨k1, k2, k3⟩ := ct
        have HN := Lib.hid (show nextF r = some (some ⟨4, ⟨#[]⟩, [], bs k1, false⟩, k3, k2) from hnx)
        have HCM := Lib.hid hcm
        clear hnx hcm hl
        go_wp2_with (first | (go_at_call 104; refine (HLT.out _).mono ?_; rintro e w3 ⟨rfl, rfl⟩) | (go_at_call 106; refine (HCM.out  _ (HST.out.1.next (tdrewN w2 _))).mono ?_; rintro e w5 ⟨rfl, hg5, hr5⟩; have hg15 := HST.out.2.trans ((grown_below (tdrewN w2 _) (some X)).trans hg5); have hZ5 := (hg15.block w.heap.size (Array.getElem?_eq_some_iff.1 HX1.out).1 (by have := HTX.out; simp; omega)).trans HX1.out; have HZ5 := Lib.hid hZ5; have HG5 := Lib.hid ((grown_below HB1.out (some X)).trans hg15); have HR5 := Lib.hid hr5; have d0 := cell_blk (i := 0) hZ5 rfl; have d1 := cell_blk (i := 1) hZ5 rfl; have d2 := cell_blk (i := 2) hZ5 rfl; have d3 := cell_blk (i := 3) hZ5 rfl; have d4 := cell_blk (i := 4) hZ5 rfl; have d5 := cell_blk (i := 5) hZ5 rfl; have d6 := cell_blk (i := 6) hZ5 rfl; have fd0 := free_blk (i := 0) hZ5; have fd1 := free_blk (i := 1) hZ5; have fd2 := free_blk (i := 2) hZ5; have fd3 := free_blk (i := 3) hZ5; have fd4 := free_blk (i := 4) hZ5; have fd5 := free_blk (i := 5) hZ5; have fd6 := free_blk (i := 6) hZ5; clear hZ5 hg5 hr5 hg15))
        have hF := put7_blk (c0 := .int .i64 4) (c1 := .string ⟨#[]⟩) (c2 := .slice none 0 0) (c3 := .string (bs k1)) (c4 := .bool false) (c5 := .int .i64 0) (c6 := .int .i64 0) HZ5.out
        have cF0 := cell_blk (i := 0) hF rfl
        have cF1 := cell_blk (i := 1) hF rfl
        have cF2 := cell_blk (i := 2) hF rfl
        have cF3 := cell_blk (i := 3) hF rfl
        have cF4 := cell_blk (i := 4) hF rfl
        have cF5 := cell_blk (i := 5) hF rfl
        have cF6 := cell_blk (i := 6) hF rfl
        have hX0 := HTX.out
        have hRF := put7_rd (c0 := .int .i64 4) (c1 := .string ⟨#[]⟩) (c2 := .slice none 0 0) (c3 := .string (bs k1)) (c4 := .bool false) (c5 := .int .i64 0) (c6 := .int .i64 0) HR5.out (show X ≠ w.heap.size by omega) (show w.heap.size ≠ 0 by omega)
        refine bodyPost_ret (v := .tuple #[.agg #[.int .i64 4, .string ⟨#[]⟩, .slice none 0 0, .string (bs k1), .bool false, .int .i64 0, .int .i64 0], .bool k3]) ?_ rfl ⟨put7_grown HG5.out (Nat.le_refl _), by rw [HN.out]; exact ⟨⟨.slice none 0 0, rfl, OwnF.nil _ _ _⟩, hRF⟩⟩
        clear hF hRF
        simp [results, Tryz.results66, go_sem, cF0, cF1, cF2, cF3, cF4, cF5, cF6]
      | true =>
        rw [HSA.out, hl, ← HSA.out] at HLT
        rw [hl, if_pos rfl] at hnx
        have htg := fun (u : World) (h : Rd u X s (b :: t) E O) => tkTag_any X s (b :: t) 2 E O u hs h
        unfold TagPost at htg
        unfold tagT at hnx
        cases hta : tagF [] ((b :: t).dropWhile tagB) with
        | none =>
          rw [hta] at htg hnx
          dsimp only at htg
          have HN := Lib.hid (show nextF r = none from hnx)
          have HTG := Lib.hid htg
          clear htg hnx hta hl
          go_upto_region 17 with (first | (go_at_call 104; refine (HLT.out _).mono ?_; rintro e w3 ⟨rfl, rfl⟩) | (go_at_call 107; refine (HTG.out _ (HST.out.1.next (tdrewN w2 _))).mono ?_; rintro e w5 ⟨hg5, ⟨tn, vA, vn, vc, rfl⟩, hr5⟩; have hg15 := HST.out.2.trans ((grown_below (tdrewN w2 _) (some X)).trans hg5); have hZ5 := (hg15.block w.heap.size (Array.getElem?_eq_some_iff.1 HX1.out).1 (by have := HTX.out; simp; omega)).trans HX1.out; have HZ5 := Lib.hid hZ5; have HG5 := Lib.hid ((grown_below HB1.out (some X)).trans hg15); have HR5 := Lib.hid hr5; have d0 := cell_blk (i := 0) hZ5 rfl; have d1 := cell_blk (i := 1) hZ5 rfl; have d2 := cell_blk (i := 2) hZ5 rfl; have d3 := cell_blk (i := 3) hZ5 rfl; have d4 := cell_blk (i := 4) hZ5 rfl; have d5 := cell_blk (i := 5) hZ5 rfl; have d6 := cell_blk (i := 6) hZ5 rfl; have fd0 := free_blk (i := 0) hZ5; have fd1 := free_blk (i := 1) hZ5; have fd2 := free_blk (i := 2) hZ5; have fd3 := free_blk (i := 3) hZ5; have fd4 := free_blk (i := 4) hZ5; have fd5 := free_blk (i := 5) hZ5; have fd6 := free_blk (i := 6) hZ5; clear hZ5 hg5 hr5 hg15))
          have hX0 := HTX.out
          have hF6 := put7_blk (c0 := .int .i64 2) (c1 := .string tn) (c2 := .slice vA vn vc) (c3 := .string ⟨#[]⟩) (c4 := .bool false) (c5 := .int .i64 0) (c6 := .int .i64 0) HZ5.out
          have hG6 := put7_grown (c0 := .int .i64 2) (c1 := .string tn) (c2 := .slice vA vn vc) (c3 := .string ⟨#[]⟩) (c4 := .bool false) (c5 := .int .i64 0) (c6 := .int .i64 0) HG5.out (Nat.le_refl _)
          have hR6 := put7_rd (c0 := .int .i64 2) (c1 := .string tn) (c2 := .slice vA vn vc) (c3 := .string ⟨#[]⟩) (c4 := .bool false) (c5 := .int .i64 0) (c6 := .int .i64 0) HR5.out (show X ≠ w.heap.size by omega) (show w.heap.size ≠ 0 by omega)
          clear d0 d1 d2 d3 d4 d5 d6 fd0 fd1 fd2 fd3 fd4 fd5 fd6
          obtain ⟨w6, hw6⟩ : ∃ w6, w6 = put7 w5 w.heap.size (.int .i64 2) (.string tn) (.slice vA vn vc) (.string ⟨#[]⟩) (.bool false) (.int .i64 0) (.int .i64 0) := ⟨_, rfl⟩
          change Code.wp _ _ _ _ (put7 w5 w.heap.size (.int .i64 2) (.string tn) (.slice vA vn vc) (.string ⟨#[]⟩) (.bool false) (.int .i64 0) (.int .i64 0))
          rw [← hw6]
          rw [← hw6] at hF6 hG6 hR6
          have e2 := free_blk (i := 2) hF6
          have e4 := free_blk (i := 4) hF6
          have b2 := cell_blk (i := 2) hF6 rfl
          have b4 := cell_blk (i := 4) hF6 rfl
          have HF6 := Lib.hid hF6
          have HG6 := Lib.hid hG6
          have HR6 := Lib.hid hR6
          clear hF6 hG6 hR6 hw6 hX0
          go_upto_region 18 with fail
          have hX0 := HTX.out
          have hZ5 := set_blk (i := 4) (set_blk (i := 2) HF6.out (.slice none 0 0)) (.bool false)
          have hG7 := grown_at (grown_at HG6.out (Nat.le_refl _) (i := 2) (.slice none 0 0)) (Nat.le_refl _) (i := 4) (.bool false)
          have hR7 := (HR6.out.far (Z := w.heap.size) (i := 2) (by omega) (by omega) (.slice none 0 0)).far (Z := w.heap.size) (i := 4) (by omega) (by omega) (.bool false)
          obtain ⟨w7, hw7⟩ : ∃ w7, w7 = (w6.setCell ⟨w.heap.size, 2, none⟩ (.slice none 0 0)).setCell ⟨w.heap.size, 4, none⟩ (.bool false) := ⟨_, rfl⟩
          rw [← hw7]
          rw [← hw7] at hZ5 hG7 hR7
          change w7.heap[w.heap.size]? = some (.cells #[.int .i64 2, .string tn, .slice none 0 0, .string ⟨#[]⟩, .bool false, .int .i64 0, .int .i64 0] 76 (0, 0)) at hZ5
          have HZ7 := Lib.hid hZ5
          have HG7 := Lib.hid hG7
          have HR7 := Lib.hid hR7
          have d0 := cell_blk (i := 0) hZ5 rfl
          have d1 := cell_blk (i := 1) hZ5 rfl
          have d2 := cell_blk (i := 2) hZ5 rfl
          have d3 := cell_blk (i := 3) hZ5 rfl
          have d4 := cell_blk (i := 4) hZ5 rfl
          have d5 := cell_blk (i := 5) hZ5 rfl
          have d6 := cell_blk (i := 6) hZ5 rfl
          have fd0 := free_blk (i := 0) hZ5
          have fd1 := free_blk (i := 1) hZ5
          have fd2 := free_blk (i := 2) hZ5
          have fd3 := free_blk (i := 3) hZ5
          have fd4 := free_blk (i := 4) hZ5
          have fd5 := free_blk (i := 5) hZ5
          have fd6 := free_blk (i := 6) hZ5
          clear hZ5 hG7 hR7 hw7 hX0 e2 e4 b2 b4
          go_wp2_with fail
          have hF := put7_blk (c0 := .int .i64 2) (c1 := .string tn) (c2 := .slice none 0 0) (c3 := .string ⟨#[]⟩) (c4 := .bool false) (c5 := .int .i64 0) (c6 := .int .i64 0) HZ7.out
          have cF0 := cell_blk (i := 0) hF rfl
          have cF1 := cell_blk (i := 1) hF rfl
          have cF2 := cell_blk (i := 2) hF rfl
          have cF3 := cell_blk (i := 3) hF rfl
          have cF4 := cell_blk (i := 4) hF rfl
          have cF5 := cell_blk (i := 5) hF rfl
          have cF6 := cell_blk (i := 6) hF rfl
          have hX0 := HTX.out
          have hRF := put7_rd (c0 := .int .i64 2) (c1 := .string tn) (c2 := .slice none 0 0) (c3 := .string ⟨#[]⟩) (c4 := .bool false) (c5 := .int .i64 0) (c6 := .int .i64 0) HR7.out (show X ≠ w.heap.size by omega) (show w.heap.size ≠ 0 by omega)
          refine bodyPost_ret (v := .tuple #[.agg #[.int .i64 2, .string tn, .slice none 0 0, .string ⟨#[]⟩, .bool false, .int .i64 0, .int .i64 0], .bool false]) ?_ rfl ⟨put7_grown HG7.out (Nat.le_refl _), by rw [HN.out]; exact ⟨⟨2, tn, none, 0, 0, .inr rfl, rfl⟩, hRF⟩⟩
          clear hF hRF
          simp [results, Tryz.results66, go_sem, cF0, cF1, cF2, cF3, cF4, cF5, cF6]
        | some ta =>
          obtain ⟨acc, self, r2⟩ := ta
          rw [hta] at htg hnx
          dsimp only at htg
          obtain ⟨nm, hnm⟩ : ∃ nm, bs (nameL ((b :: t).takeWhile tagB)) = nm := ⟨_, rfl⟩
          rw [hnm] at htg
          have HN := Lib.hid (show nextF r = some (some ⟨2, nm, [], ⟨#[]⟩, false⟩, true, r2) from by rw [hnx, ← hnm]; rfl)
          have HTG := Lib.hid htg
          clear htg hnx hta hnm hl
          go_upto_region 17 with (first | (go_at_call 104; refine (HLT.out _).mono ?_; rintro e w3 ⟨rfl, rfl⟩) | (go_at_call 107; refine (HTG.out _ (HST.out.1.next (tdrewN w2 _))).mono ?_; rintro e w5 ⟨hg5, v, rfl, ho5, hr5⟩; obtain ⟨vA, vc, rfl⟩ := Cl.Own.form ho5; have hg15 := HST.out.2.trans ((grown_below (tdrewN w2 _) (some X)).trans hg5); have hZ5 := (hg15.block w.heap.size (Array.getElem?_eq_some_iff.1 HX1.out).1 (by have := HTX.out; simp; omega)).trans HX1.out; have HZ5 := Lib.hid hZ5; have HG5 := Lib.hid ((grown_below HB1.out (some X)).trans hg15); have HR5 := Lib.hid hr5; have d0 := cell_blk (i := 0) hZ5 rfl; have d1 := cell_blk (i := 1) hZ5 rfl; have d2 := cell_blk (i := 2) hZ5 rfl; have d3 := cell_blk (i := 3) hZ5 rfl; have d4 := cell_blk (i := 4) hZ5 rfl; have d5 := cell_blk (i := 5) hZ5 rfl; have d6 := cell_blk (i := 6) hZ5 rfl; have fd0 := free_blk (i := 0) hZ5; have fd1 := free_blk (i := 1) hZ5; have fd2 := free_blk (i := 2) hZ5; have fd3 := free_blk (i := 3) hZ5; have fd4 := free_blk (i := 4) hZ5; have fd5 := free_blk (i := 5) hZ5; have fd6 := free_blk (i := 6) hZ5; clear hZ5 hg5 hr5 hg15 ho5))
          have hX0 := HTX.out
          have hF6 := put7_blk (c0 := .int .i64 2) (c1 := .string nm) (c2 := .slice vA acc.length vc) (c3 := .string ⟨#[]⟩) (c4 := .bool self) (c5 := .int .i64 0) (c6 := .int .i64 0) HZ5.out
          have hG6 := put7_grown (c0 := .int .i64 2) (c1 := .string nm) (c2 := .slice vA acc.length vc) (c3 := .string ⟨#[]⟩) (c4 := .bool self) (c5 := .int .i64 0) (c6 := .int .i64 0) HG5.out (Nat.le_refl _)
          have hR6 := put7_rd (c0 := .int .i64 2) (c1 := .string nm) (c2 := .slice vA acc.length vc) (c3 := .string ⟨#[]⟩) (c4 := .bool self) (c5 := .int .i64 0) (c6 := .int .i64 0) HR5.out (show X ≠ w.heap.size by omega) (show w.heap.size ≠ 0 by omega)
          clear d0 d1 d2 d3 d4 d5 d6 fd0 fd1 fd2 fd3 fd4 fd5 fd6
          obtain ⟨w6, hw6⟩ : ∃ w6, w6 = put7 w5 w.heap.size (.int .i64 2) (.string nm) (.slice vA acc.length vc) (.string ⟨#[]⟩) (.bool self) (.int .i64 0) (.int .i64 0) := ⟨_, rfl⟩
          change Code.wp _ _ _ _ (put7 w5 w.heap.size (.int .i64 2) (.string nm) (.slice vA acc.length vc) (.string ⟨#[]⟩) (.bool self) (.int .i64 0) (.int .i64 0))
          rw [← hw6]
          rw [← hw6] at hF6 hG6 hR6
          have e2 := free_blk (i := 2) hF6
          have e4 := free_blk (i := 4) hF6
          have b2 := cell_blk (i := 2) hF6 rfl
          have b4 := cell_blk (i := 4) hF6 rfl
          have HF6 := Lib.hid hF6
          have HG6 := Lib.hid hG6
          have HR6 := Lib.hid hR6
          clear hF6 hG6 hR6 hw6 hX0
          go_upto_region 18 with fail
          have hX0 := HTX.out
          have hZ5 := set_blk (i := 4) (set_blk (i := 2) HF6.out (.slice none 0 0)) (.bool false)
          have hG7 := grown_at (grown_at HG6.out (Nat.le_refl _) (i := 2) (.slice none 0 0)) (Nat.le_refl _) (i := 4) (.bool false)
          have hR7 := (HR6.out.far (Z := w.heap.size) (i := 2) (by omega) (by omega) (.slice none 0 0)).far (Z := w.heap.size) (i := 4) (by omega) (by omega) (.bool false)
          obtain ⟨w7, hw7⟩ : ∃ w7, w7 = (w6.setCell ⟨w.heap.size, 2, none⟩ (.slice none 0 0)).setCell ⟨w.heap.size, 4, none⟩ (.bool false) := ⟨_, rfl⟩
          rw [← hw7]
          rw [← hw7] at hZ5 hG7 hR7
          change w7.heap[w.heap.size]? = some (.cells #[.int .i64 2, .string nm, .slice none 0 0, .string ⟨#[]⟩, .bool false, .int .i64 0, .int .i64 0] 76 (0, 0)) at hZ5
          have HZ7 := Lib.hid hZ5
          have HG7 := Lib.hid hG7
          have HR7 := Lib.hid hR7
          have d0 := cell_blk (i := 0) hZ5 rfl
          have d1 := cell_blk (i := 1) hZ5 rfl
          have d2 := cell_blk (i := 2) hZ5 rfl
          have d3 := cell_blk (i := 3) hZ5 rfl
          have d4 := cell_blk (i := 4) hZ5 rfl
          have d5 := cell_blk (i := 5) hZ5 rfl
          have d6 := cell_blk (i := 6) hZ5 rfl
          have fd0 := free_blk (i := 0) hZ5
          have fd1 := free_blk (i := 1) hZ5
          have fd2 := free_blk (i := 2) hZ5
          have fd3 := free_blk (i := 3) hZ5
          have fd4 := free_blk (i := 4) hZ5
          have fd5 := free_blk (i := 5) hZ5
          have fd6 := free_blk (i := 6) hZ5
          clear hZ5 hG7 hR7 hw7 hX0 e2 e4 b2 b4
          go_wp2_with fail
          have hF := put7_blk (c0 := .int .i64 2) (c1 := .string nm) (c2 := .slice none 0 0) (c3 := .string ⟨#[]⟩) (c4 := .bool false) (c5 := .int .i64 0) (c6 := .int .i64 0) HZ7.out
          have cF0 := cell_blk (i := 0) hF rfl
          have cF1 := cell_blk (i := 1) hF rfl
          have cF2 := cell_blk (i := 2) hF rfl
          have cF3 := cell_blk (i := 3) hF rfl
          have cF4 := cell_blk (i := 4) hF rfl
          have cF5 := cell_blk (i := 5) hF rfl
          have cF6 := cell_blk (i := 6) hF rfl
          have hX0 := HTX.out
          have hRF := put7_rd (c0 := .int .i64 2) (c1 := .string nm) (c2 := .slice none 0 0) (c3 := .string ⟨#[]⟩) (c4 := .bool false) (c5 := .int .i64 0) (c6 := .int .i64 0) HR7.out (show X ≠ w.heap.size by omega) (show w.heap.size ≠ 0 by omega)
          refine bodyPost_ret (v := .tuple #[.agg #[.int .i64 2, .string nm, .slice none 0 0, .string ⟨#[]⟩, .bool false, .int .i64 0, .int .i64 0], .bool true]) ?_ rfl ⟨put7_grown HG7.out (Nat.le_refl _), by rw [HN.out]; exact ⟨⟨.slice none 0 0, rfl, OwnF.nil _ _ _⟩, hRF⟩⟩
          clear hF hRF
          simp [results, Tryz.results66, go_sem, cF0, cF1, cF2, cF3, cF4, cF5, cF6]
end Go.Proofs.YtegcedboeemedaaGreatDoor

/-
Tokens: what read needs of the plain law.
-/
namespace Go.Proofs.YtegcedboeemedaaGreatDoor
open Go.RowKit Go.Cl
theorem mark_cases {r : List UInt8} (h : markF r ≠ 0) : markF r = 33 ∨ markF r = 63 ∨ markF r = 97 ∨ markF r = 47 := by
  match r, h with
  | [], h => exact absurd rfl h
  | [_], h => exact absurd rfl h
  | c :: b :: t, h =>
    rw [mark_cons] at h ⊢
    split at h
    · exact absurd rfl h
    · rename_i hc
      rw [if_neg hc]
      split at h
      · rename_i hl
        rw [if_pos hl]
        exact .inr (.inr (.inl rfl))
      · rename_i hl
        rw [if_neg hl]
        split at h
        · rename_i hb
          rw [if_pos hb]
          rcases hb with hb | hb
          · exact .inl hb
          · exact .inr (.inl hb)
        · rename_i hb
          rw [if_neg hb]
          split at h
          · rename_i hd
            rw [if_pos hd]
            exact .inr (.inr (.inr hd.1))
          · exact absurd rfl h
/-- Where the last token that has an end of its own ended. -/
def endOf (s : ByteArray) (E : Int) : Option Nat → Int
  | none => E
  | some k => ((s.size - k : Nat) : Int)
theorem end_or (s : ByteArray) (E : Int) (a b : Option Nat) : endOf s E (a.or b) = endOf s (endOf s E b) a := by
  cases a with
  | none => rfl
  | some k => rfl
theorem tagT_small {k : Int} {r : List UInt8} {x : Tk × List UInt8} (h : tagT k r = some x) : x.1.kind = k ∧ x.1.name.size ≤ 40 ∧ x.1.text = ⟨#[]⟩ := by
  unfold tagT at h
  cases ht : tagF [] (r.dropWhile tagB) with
  | none => rw [ht] at h; exact absurd h (by simp)
  | some y =>
    rw [ht] at h
    have h2 := Option.some.inj h
    subst h2
    dsimp only
    split
    · rename_i hk
      exact ⟨hk.symm, nameL_len _, rfl⟩
    · exact ⟨rfl, nameL_len _, rfl⟩
theorem com_small (mark r : List UInt8) : (comF mark r).1.kind = 4 ∧ (comF mark r).1.name.size ≤ 40 ∧ (comF mark r).1.text.size ≤ r.length :=
  ⟨rfl, Nat.zero_le _, tcut_fst r mark⟩
theorem decl_small (r : List UInt8) : ((declF r).1.kind = 4 ∨ (declF r).1.kind = 5) ∧ (declF r).1.name.size ≤ 40 ∧ (declF r).1.text.size ≤ r.length := by
  unfold declF
  split
  · split
    · exact ⟨.inl rfl, Nat.zero_le _, Nat.zero_le _⟩
    · split
      · exact ⟨.inl rfl, Nat.zero_le _, Nat.zero_le _⟩
      · have h := com_small [45, 45, 62] (r.drop 4)
        rw [List.length_drop] at h
        exact ⟨.inl h.1, h.2.1, by omega⟩
  · split
    · exact ⟨.inr rfl, nameL_len _, Nat.zero_le _⟩
    · have h := com_small [62] (r.drop 2)
      rw [List.length_drop] at h
      exact ⟨.inl h.1, h.2.1, by omega⟩
/-- A token of markup is small. -/
theorem next_small {r : List UInt8} {t : Tk} {en : Bool} {r2 : List UInt8} (h : nextF r = some (some t, en, r2)) : (t.kind = 1 ∨ t.kind = 2 ∨ t.kind = 4 ∨ t.kind = 5) ∧ t.name.size ≤ 40 ∧ t.text.size ≤ r.length ∧ (en = false → t.kind = 4 ∨ t.kind = 5) := by
  unfold nextF at h
  split at h
  · have h2 := Option.some.inj h
    injection h2 with h3 h4
    injection h3 with h3
    subst h3
    have h5 := decl_small r
    exact ⟨by rcases h5.1 with h | h <;> simp [h], h5.2.1, h5.2.2, fun _ => h5.1⟩
  · split at h
    · have h2 := Option.some.inj h
      injection h2 with h3 h4
      injection h3 with h3
      subst h3
      have h5 := com_small [62] (r.drop 1)
      rw [List.length_drop] at h5
      exact ⟨.inr (.inr (.inl h5.1)), h5.2.1, by omega, fun _ => .inl h5.1⟩
    · split at h
      · cases ht : tagT 1 (r.drop 1) with
        | none => rw [ht] at h; exact absurd h (by simp)
        | some x =>
          rw [ht] at h
          have h2 := Option.some.inj h
          injection h2 with h3 h4
          injection h3 with h3
          injection h4 with h4 h6
          subst h3
          subst h4
          have h5 := tagT_small ht
          exact ⟨.inl h5.1, h5.2.1, by rw [h5.2.2]; exact Nat.zero_le _, fun h => by cases h⟩
      · cases hd : r.drop 2 with
        | nil => rw [hd] at h; exact absurd h (by simp)
        | cons b q =>
          have hl : (b :: q).length ≤ r.length := by rw [← hd, List.length_drop]; omega
          rw [hd] at h
          dsimp only at h
          split at h
          · have h2 := Option.some.inj h
            injection h2 with h3 h4
            exact absurd h3 (by simp)
          · split at h
            · cases ht : tagT 2 (b :: q) with
              | none => rw [ht] at h; exact absurd h (by simp)
              | some x =>
                rw [ht] at h
                have h2 := Option.some.inj h
                injection h2 with h3 h4
                injection h3 with h3
                injection h4 with h4 h6
                subst h3
                subst h4
                have h5 := tagT_small ht
                exact ⟨.inr (.inl h5.1), h5.2.1, by rw [h5.2.2]; exact Nat.zero_le _, fun h => by cases h⟩
            · have h2 := Option.some.inj h
              injection h2 with h3 h4
              injection h3 with h3
              subst h3
              have h5 := com_small [62] (b :: q)
              exact ⟨.inr (.inr (.inl h5.1)), h5.2.1, by omega, fun _ => .inl h5.1⟩
theorem addA_len (acc : List DAttr) (a : DAttr) : (addA acc a).length ≤ acc.length + 1 := by
  unfold addA
  split
  · omega
  · simp
theorem tagF_few {acc : List DAttr} {r : List UInt8} {x : List DAttr × Bool × List UInt8} (h : tagF acc r = some x) : x.1.length ≤ acc.length + r.length := by
  induction hn : r.length using Nat.strongRecOn generalizing acc r with
  | ind n ih =>
    subst hn
    rw [tagF_step] at h
    have h1 := dropW_le skipB r
    cases hd : r.dropWhile skipB with
    | nil => rw [hd] at h; cases h
    | cons b t =>
      rw [hd] at h h1
      rw [List.length_cons] at h1
      dsimp only at h
      split at h
      · cases h; dsimp only; omega
      · have h2 := attr_le b t
        have h3 := ih _ (by omega) h rfl
        have h4 := addA_len acc (attrF b t).1
        omega
theorem tagT_few {k : Int} {r : List UInt8} {x : Tk × List UInt8} (h : tagT k r = some x) : x.1.attrs.length ≤ r.length := by
  unfold tagT at h
  cases ht : tagF [] (r.dropWhile tagB) with
  | none => rw [ht] at h; cases h
  | some y =>
    rw [ht] at h
    cases h
    have h1 := tagF_few ht
    have h2 := dropW_le tagB r
    dsimp only
    split
    · rw [List.length_nil] at h1
      dsimp only
      omega
    · exact Nat.zero_le _
theorem next_few {r : List UInt8} {t : Tk} {en : Bool} {r2 : List UInt8} (h : nextF r = some (some t, en, r2)) : t.attrs.length ≤ r.length := by
  unfold nextF at h
  split at h
  · have h2 := Option.some.inj h
    injection h2 with h3 h4
    injection h3 with h3
    subst h3
    rw [decl_attrs]
    exact Nat.zero_le _
  · split at h
    · have h2 := Option.some.inj h
      injection h2 with h3 h4
      injection h3 with h3
      subst h3
      exact Nat.zero_le _
    · split at h
      · cases ht : tagT 1 (r.drop 1) with
        | none => rw [ht] at h; exact absurd h (by simp)
        | some x =>
          rw [ht] at h
          have h2 := Option.some.inj h
          injection h2 with h3 h4
          injection h3 with h3
          subst h3
          have h5 := tagT_few ht
          rw [List.length_drop] at h5
          omega
      · cases hd : r.drop 2 with
        | nil => rw [hd] at h; exact absurd h (by simp)
        | cons b q =>
          have hl : (b :: q).length ≤ r.length := by rw [← hd, List.length_drop]; omega
          rw [hd] at h
          dsimp only at h
          split at h
          · have h2 := Option.some.inj h
            injection h2 with h3 h4
            exact absurd h3 (by simp)
          · split at h
            · cases ht : tagT 2 (b :: q) with
              | none => rw [ht] at h; exact absurd h (by simp)
              | some x =>
                rw [ht] at h
                have h2 := Option.some.inj h
                injection h2 with h3 h4
                injection h3 with h3
                subst h3
                have h5 := tagT_few ht
                omega
            · have h2 := Option.some.inj h
              injection h2 with h3 h4
              injection h3 with h3
              subst h3
              exact Nat.zero_le _
/-- The name of a raw text is short and ASCII. -/
theorem rawN_small {l : List UInt8} (h : 0 < rawN l) : l.length ≤ 1000 ∧ ∀ b ∈ l, b.toNat < 128 := by
  unfold rawN at h
  split at h
  · rename_i h1
    rcases h1 with h1 | h1 <;> (subst h1; exact ⟨by decide, by decide⟩)
  · split at h
    · rename_i h1
      rcases h1 with h1 | h1 <;> (subst h1; exact ⟨by decide, by decide⟩)
    · exact absurd h (by decide)
/-- A list that was made above the reader's tokens leads away from them. -/
theorem own_fresh {w : World} {X base : Nat} {v va : Value} {n : Nat} {xs : List DAttr} (h : OwnF tDA w base 141 va n xs) (hX : X < base) (hv : ∀ g, v.ownBlock = some g → g < base) (hn : n * 32 ≤ 140737488355328) : ∃ A c, va = .slice A n c ∧ Sl tDA w (fresh X w v) A n c xs := by
  obtain ⟨A, c, rfl⟩ := Cl.Own.form h
  exact ⟨A, c, rfl, (Cl.Own.sl h (by decide) hn).more fun b hb => hb.elim False.elim fun hb => ⟨by omega, hb.2, fun e => by have := hv b e.symm; omega⟩⟩
theorem put_few (x : List UInt8) (y : ByteArray) (a b : Nat) : (putT x y a b).length ≤ x.length := by
  unfold putT
  split
  · exact Nat.zero_le _
  · rename_i h
    cases x with
    | nil => exact absurd rfl h
    | cons c t => simp
theorem text_few (r : List UInt8) (y : ByteArray) (a b : Nat) : (putT (textF r).1 y a b).length + (textF r).2.length ≤ r.length := by
  have h1 := put_few (textF r).1 y a b
  have h2 := congrArg List.length (text_split r)
  rw [List.length_append] at h2
  omega
theorem raw_few (nm r : List UInt8) (y : ByteArray) (a b : Nat) : (putT (rawF nm r).1 y a b).length + (rawF nm r).2.length ≤ r.length := by
  have h1 := put_few (rawF nm r).1 y a b
  have h2 := congrArg List.length (raw_split nm r)
  rw [List.length_append] at h2
  omega
end Go.Proofs.YtegcedboeemedaaGreatDoor

/-
Tokens: read.
-/
namespace Go.Proofs.YtegcedboeemedaaGreatDoor
open Go.RowKit Go.Cl
attribute [local go_sem ↓] Go.wp_at_zero Go.wp_at_succ
theorem after_plainR {t : Option Tk} (r : List UInt8) (h : rawN (rawOf t) = 0) : afterF t r = (putT (textF r).1 (bs (entT (textF r).1)) r.length (textF r).2.length, (textF r).2) := by
  unfold afterF
  rw [if_neg (by omega)]
theorem after_raw {tn : ByteArray} {ta : List DAttr} {tx : ByteArray} {ts : Bool} (r : List UInt8) (h : 0 < rawN tn.data.toList) : afterF (some ⟨1, tn, ta, tx, ts⟩) r = (putT (rawF tn.data.toList r).1 (bs (rawTx tn.data.toList (rawF tn.data.toList r).1)) r.length (rawF tn.data.toList r).2.length ++ putT (textF (rawF tn.data.toList r).2).1 (bs (entT (textF (rawF tn.data.toList r).2).1)) (rawF tn.data.toList r).2.length (textF (rawF tn.data.toList r).2).2.length, (textF (rawF tn.data.toList r).2).2) := by
  unfold afterF rawTx
  exact if_pos h
theorem sl_fresh {w w' : World} {X : Nat} {v : Value} {A : Option Addr} {n c : Nat} {xs : List DAttr} (h : Sl tDA w (fresh X w v) A n c xs) (hb : Below w.heap.size w w') : Sl tDA w' (fresh X w' v) A n c xs :=
  (h.keep fun p hp => World.cell?_of_block (hb.block p.block hp.2.1)).more fun _ hk => ⟨hk.1, Nat.lt_of_lt_of_le hk.2.1 hb.size, hk.2.2⟩
theorem Ra.fin {w0 w : World} {X : Nat} {s : ByteArray} {r : List UInt8} {E : Int} {v : Value} {n : Nat} {toks : List TkP} (h : Ra w0 w X s r E v n toks) (m : Int) : Ra w0 (w.setCell ⟨X, 2, none⟩ (.int .i64 m)) X s r m v n toks := by
  obtain ⟨⟨a, ha, hr, hc⟩, hm⟩ := h.rd
  exact h.go (grown_set w X 2 _) ⟨⟨a, ha, hr, set_blk (i := 2) hc _⟩, mx_grown hm (hc.ne0 hm) (grown_set w X 2 _)⟩
set_option maxRecDepth 100000 in
set_option maxHeartbeats 8000000 in
theorem tkRead_any (w : World) (s : ByteArray) (hs : s.size ≤ 1000000) (hm0 : ∃ m : Int, w.cell? ⟨0, 0, none⟩ = some (.int .i64 m)) (hF : FoldOk w w.heap.size) (hY : AnyOk w w.heap.size) :
    Calls Tryz.prog 32 #[.string s] w fun e w' => e = .returned (.pointer (some ⟨w.heap.size, 0, none⟩)) ∧ ∃ r v n, Ra w w' w.heap.size s r (endOf s 0 (readF s.data.toList).2) v n ((readF s.data.toList).1.map (plOf s)) := by
  obtain ⟨X, hX⟩ : ∃ X, X = w.heap.size := ⟨_, rfl⟩
  rw [← hX] at hF hY
  rw [← hX]
  obtain ⟨l, hl⟩ : ∃ l, s.data.toList = l := ⟨_, rfl⟩
  rw [hl]
  have hlz : l.length = s.size := by rw [← hl]; simp
  obtain ⟨w1, hw1⟩ : ∃ w1, w1 = w.alloc (.cells #[.string s, .int .i64 0, .int .i64 0, .slice none 0 0] 58) := ⟨_, rfl⟩
  have hb1 : Below w.heap.size w w1 := by rw [hw1]; exact tal (Below.refl _ _) _
  have hc1 : Rc w1 X s 0 0 (.slice none 0 0) := by rw [hw1, hX]; exact heap_alloc_new w _
  have HA1 := Lib.hid (show Ra w w1 X s l 0 (.slice none 0 0) 0 [] from ⟨⟨⟨0, Nat.zero_le _, hl, hc1⟩, mx_next hm0 hb1⟩, hX ▸ hb1, Cl.Own.nil _ _ _ _, rfl, by obtain ⟨m0, hm⟩ := hm0; have := World.block_lt_of_cell? w ⟨0, 0, none⟩ hm; dsimp only at this; omega⟩)
  have HFO := Lib.hid hF
  have HYO := Lib.hid hY
  have HLZ := Lib.hid hlz
  have HT0 := Lib.hid (tkText_any w w1 X s l 0 (.slice none 0 0) 0 [] hs HA1.out (by omega))
  clear hF hY hlz hm0 hb1 hc1
  go_enter Tryz.func32, Tryz.ntmps32
  go_upto_region 2 with fail
  rw [← hw1, ← hX]
  clear hw1 hX
  go_upto_region 3 with (go_at_call 64; refine HT0.out.mono ?_; rintro e w2 ⟨rfl, v2, n2, hA2⟩; have HA2 := Lib.hid hA2; clear hA2)
  go_loopw [] (fun wr => ∃ r E v n toks, Hid (Ra w wr X s r E v n toks) ∧ Hid (toks.length + r.length ≤ s.size) ∧ Hid (r = [] ∨ markF r ≠ 0) ∧ Hid ((readF l).1.map (plOf s) = toks ++ (readM r).1.map (plOf s)) ∧ Hid (endOf s 0 (readF l).2 = endOf s E (readM r).2)) (fun wr => s.size - atOf wr X)
  case atStart =>
    exact ⟨_, _, _, _, _, HA2, Lib.hid (by have h1 := text_few l (bs (entT (textF l).1)) l.length (textF l).2.length; have h2 := HLZ.out; rw [List.nil_append, List.length_map]; omega), Lib.hid (text_mark l), Lib.hid (by unfold readF; dsimp only; rw [List.map_append, List.nil_append]), Lib.hid rfl⟩
  case round =>
    obtain ⟨r, E, v, n, toks, HA, HFW, HM, HT, HE⟩ := hrel
    have HLF := Lib.hid HA.out.rd.left
    obtain ⟨a, haz, hra, hca⟩ := rd_at HA.out.rd
    have c0 := hca.c0
    have c1 := hca.c1
    by_cases hr0 : r = []
    · have g1 : ¬ (a : Int) < (s.size : Int) := by rw [hr0, List.length_nil] at haz; omega
      have g1' : decide ((a : Int) < (s.size : Int)) = false := decide_eq_false g1
      have HT2 := Lib.hid (show (readF l).1.map (plOf s) = toks from by rw [HT.out, hr0, readM_nil]; simp)
      have HE2 := Lib.hid (show endOf s 0 (readF l).2 = E from by rw [HE.out, hr0, readM_nil]; rfl)
      clear hr0 haz hra hca
      go_wp2_with fail
      go_ret
      exact ⟨rfl, r, v, n, by rw [HT2.out, HE2.out]; exact HA.out⟩
    · have hmk : markF r ≠ 0 := HM.out.resolve_left hr0
      obtain ⟨c, q, hrc⟩ : ∃ c q, r = c :: q := by cases r with | nil => exact absurd rfl hr0 | cons c q => exact ⟨c, q, rfl⟩
      have j0 : (0 : Int) ≤ (a : Int) := by omega
      have j1 : (a : Int) < (s.size : Int) := by rw [hrc, List.length_cons] at haz; omega
      have j1' : decide ((a : Int) < (s.size : Int)) = true := decide_eq_true j1
      have hmc := tkMarkup_any X s a a c q E v wr hs hca (hrc ▸ hra)
      rw [← hrc] at hmc
      have hnx := tkNext_any w wr X s r E v hs HA.out.rd HA.out.low (mark_cases hmk) HFO.out HYO.out
      have hst := readM_step hmk
      have HNL := Lib.hid (fun x (h : nextF r = some x) => next_le hmk h)
      have haf : a = s.size - r.length := by omega
      have HAF := Lib.hid haf
      have HAZ := Lib.hid haz
      generalize markF r = mk at hmc hnx
      have HMC := Lib.hid hmc
      unfold NextPost at hnx
      clear hmc hmk hr0 hrc hra hca haf haz HM
      cases hn : nextF r with
      | none =>
        rw [hn] at hnx hst
        dsimp only at hnx hst
        have HNX := Lib.hid hnx
        have HT2 := Lib.hid (show (readF l).1.map (plOf s) = toks from by rw [HT.out, hst]; simp)
        have HE2 := Lib.hid (show endOf s 0 (readF l).2 = E from by rw [HE.out, hst]; rfl)
        clear hnx hst hn HT HE
        go_upto_region 8 with (first | (go_at_call 65; refine HMC.out.mono ?_; rintro e w4 ⟨rfl, hw4⟩; subst hw4) | (go_at_call 66; refine HNX.out.mono ?_; rintro e w5 ⟨hg5, ⟨kd, tn, tA, tm, tc, hkd, rfl⟩, hr5⟩; have HA5 := Lib.hid (HA.out.go hg5 hr5); have HKD := Lib.hid hkd; clear hg5 hr5 hkd))
        obtain ⟨w6, hw6⟩ : ∃ w6, w6 = w5.alloc (.cells #[.int .i64 kd, .string tn, .slice tA tm tc, .string ⟨#[]⟩, .bool false, .int .i64 0, .int .i64 0] 76) := ⟨_, rfl⟩
        have hF6 : w6.heap[w5.heap.size]? = some (.cells #[.int .i64 kd, .string tn, .slice tA tm tc, .string ⟨#[]⟩, .bool false, .int .i64 0, .int .i64 0] 76 (0, 0)) := by rw [hw6]; exact heap_alloc_new w5 _
        have hb6 : Below w5.heap.size w5 w6 := by rw [hw6]; exact tal (Below.refl _ _) _
        rw [← hw6]
        have HF6 := Lib.hid hF6
        have HB6 := Lib.hid hb6
        have d0 := cell_blk (i := 0) hF6 rfl
        have d1 := cell_blk (i := 1) hF6 rfl
        have d2 := cell_blk (i := 2) hF6 rfl
        have d3 := cell_blk (i := 3) hF6 rfl
        have d4 := cell_blk (i := 4) hF6 rfl
        have d5 := cell_blk (i := 5) hF6 rfl
        have d6 := cell_blk (i := 6) hF6 rfl
        clear hF6 hb6 hw6 c0 c1
        rcases HKD.out with rfl | rfl
        · go_wp2_with fail
          go_ret
          exact ⟨rfl, [], v, n, by rw [HT2.out, HE2.out]; exact HA5.out.next HB6.out⟩
        · go_wp2_with fail
          go_ret
          exact ⟨rfl, [], v, n, by rw [HT2.out, HE2.out]; exact HA5.out.next HB6.out⟩
      | some y =>
        obtain ⟨ot, en, r2⟩ := y
        have HLT := Lib.hid (HNL.out _ hn)
        cases ot with
        | none =>
          rw [hn] at hnx hst
          dsimp only at hnx hst HLT
          have HNX := Lib.hid (show Calls Tryz.prog 66 #[.pointer (some ⟨X, 0, none⟩), .int .u8 (mk.toNat : Int)] wr fun e w' => wr.grownBy w' (some X) ∧ (∃ A c, e = .returned (.tuple #[.agg (tokC 0 ⟨#[]⟩ (.slice A 0 c) ⟨#[]⟩ false 0 0), .bool en])) ∧ Rd w' X s r2 E v from hnx.mono (by rintro e w' ⟨h1, ⟨va, h2, h3⟩, h4⟩; obtain ⟨A, c, rfl⟩ := Cl.Own.form h3; exact ⟨h1, ⟨A, c, h2⟩, h4⟩))
          clear hnx hn
          go_upto_region 8 with (first | (go_at_call 65; refine HMC.out.mono ?_; rintro e w4 ⟨rfl, hw4⟩; subst hw4) | (go_at_call 66; refine HNX.out.mono ?_; rintro e w5 ⟨hg5, ⟨tA, tc, rfl⟩, hr5⟩; have HA5 := Lib.hid (HA.out.go hg5 hr5); clear hg5 hr5))
          obtain ⟨w6, hw6⟩ : ∃ w6, w6 = w5.alloc (.cells #[.int .i64 0, .string ⟨#[]⟩, .slice tA 0 tc, .string ⟨#[]⟩, .bool false, .int .i64 0, .int .i64 0] 76) := ⟨_, rfl⟩
          have hF6 : w6.heap[w5.heap.size]? = some (.cells #[.int .i64 0, .string ⟨#[]⟩, .slice tA 0 tc, .string ⟨#[]⟩, .bool false, .int .i64 0, .int .i64 0] 76 (0, 0)) := by rw [hw6]; exact heap_alloc_new w5 _
          have hb6 : Below w5.heap.size w5 w6 := by rw [hw6]; exact tal (Below.refl _ _) _
          rw [← hw6]
          have HF6 := Lib.hid hF6
          have HB6 := Lib.hid hb6
          have d0 := cell_blk (i := 0) hF6 rfl
          have d1 := cell_blk (i := 1) hF6 rfl
          have d2 := cell_blk (i := 2) hF6 rfl
          have d3 := cell_blk (i := 3) hF6 rfl
          have d4 := cell_blk (i := 4) hF6 rfl
          have d5 := cell_blk (i := 5) hF6 rfl
          have d6 := cell_blk (i := 6) hF6 rfl
          clear hF6 hb6 hw6 c0 c1
          have HA6 := Lib.hid (HA5.out.next HB6.out)
          have HTX := Lib.hid (tkText_any w w6 X s r2 E v n toks hs HA6.out (by have h1 := HFW.out; have h2 := HA.out.few; have h3 := HLT.out; omega))
          have hap := after_plainR (t := none) r2 rfl
          rw [hap] at hst
          dsimp only [putM] at hst
          have HT2 := Lib.hid (show (readF l).1.map (plOf s) = (toks ++ (putT (textF r2).1 (bs (entT (textF r2).1)) r2.length (textF r2).2.length).map (plOf s)) ++ (readM (textF r2).2).1.map (plOf s) from by rw [HT.out, hst]; simp [List.append_assoc])
          have HE2 := Lib.hid (show endOf s 0 (readF l).2 = endOf s E (readM (textF r2).2).2 from by rw [HE.out, hst]; cases en <;> simp [endOf])
          have HTF := Lib.hid (text_few r2 (bs (entT (textF r2).1)) r2.length (textF r2).2.length)
          have HTM := Lib.hid (text_mark r2)
          clear hst hap HT HE
          generalize putT (textF r2).1 (bs (entT (textF r2).1)) r2.length (textF r2).2.length = pt at *
          generalize (textF r2).2 = r3 at *
          cases en <;> (
            go_wp2_with (go_at_call 64; refine HTX.out.mono ?_; rintro e w7 ⟨rfl, v7, n7, hA7⟩; have HA7 := Lib.hid hA7; clear hA7)
            go_roundw
            case rel => exact ⟨r3, E, v7, n7, _, HA7, Lib.hid (by have h1 := HFW.out; have h2 := HTF.out; have h3 := HLT.out; rw [List.length_append, List.length_map]; omega), HTM, HT2, HE2⟩
            case measure => have h1 := HA7.out.rd.left; have h2 := HLF.out; have h3 := HTF.out; have h4 := HLT.out; have h5 := HAZ.out; omega)
        | some t =>
          rw [hn] at hnx hst
          dsimp only at hnx hst HLT
          obtain ⟨hkd, hnz, htz, hen⟩ := next_small hn
          have hfw := next_few hn
          obtain ⟨tk, tn, ta, tx, ts⟩ := t
          dsimp only at hkd hnz htz hen hfw
          have HNX := Lib.hid (show Calls Tryz.prog 66 #[.pointer (some ⟨X, 0, none⟩), .int .u8 (mk.toNat : Int)] wr fun e w' => wr.grownBy w' (some X) ∧ (∃ A c, e = .returned (.tuple #[.agg (tokC tk tn (.slice A ta.length c) tx ts 0 0), .bool en]) ∧ Sl tDA w' (fresh X w' v) A ta.length c ta) ∧ Rd w' X s r2 E v from hnx.mono (by rintro e w' ⟨h1, ⟨va, h2, h3⟩, h4⟩; obtain ⟨A, c, rfl, h5⟩ := own_fresh h3 HA.out.xlt (fun g hg => (Cl.Own.lt HA.out.own g hg).2) (by have := HAZ.out; show ta.length * 32 ≤ _; omega); exact ⟨h1, ⟨A, c, h2, h5⟩, h4⟩))
          have HTZ := Lib.hid htz
          clear hnx hn hfw htz
          go_upto_region 8 with (first | (go_at_call 65; refine HMC.out.mono ?_; rintro e w4 ⟨rfl, hw4⟩; subst hw4) | (go_at_call 66; refine HNX.out.mono ?_; rintro e w5 ⟨hg5, ⟨tA, tc, rfl, hsl5⟩, hr5⟩; have HA5 := Lib.hid (HA.out.go hg5 hr5); have HSL5 := Lib.hid hsl5; clear hg5 hr5 hsl5))
          obtain ⟨w6, hw6⟩ : ∃ w6, w6 = w5.alloc (.cells #[.int .i64 tk, .string tn, .slice tA ta.length tc, .string tx, .bool ts, .int .i64 0, .int .i64 0] 76) := ⟨_, rfl⟩
          have hF6 : w6.heap[w5.heap.size]? = some (.cells #[.int .i64 tk, .string tn, .slice tA ta.length tc, .string tx, .bool ts, .int .i64 0, .int .i64 0] 76 (0, 0)) := by rw [hw6]; exact heap_alloc_new w5 _
          have hb6 : Below w5.heap.size w5 w6 := by rw [hw6]; exact tal (Below.refl _ _) _
          rw [← hw6]
          have HF6 := Lib.hid hF6
          have HB6 := Lib.hid hb6
          have d0 := cell_blk (i := 0) hF6 rfl
          have d1 := cell_blk (i := 1) hF6 rfl
          have d2 := cell_blk (i := 2) hF6 rfl
          have d3 := cell_blk (i := 3) hF6 rfl
          have d4 := cell_blk (i := 4) hF6 rfl
          have d5 := cell_blk (i := 5) hF6 rfl
          have d6 := cell_blk (i := 6) hF6 rfl
          clear hF6 hb6 hw6 c0 c1
          have HA6 := Lib.hid (HA5.out.next HB6.out)
          have HPU := Lib.hid (show Calls Tryz.prog 67 #[.pointer (some ⟨X, 0, none⟩), .agg (tokC tk tn (.slice tA ta.length tc) tx ts 0 0), .int .i64 (a : Int)] w6 fun e w' => e = .returned (.tuple #[]) ∧ ∃ v', Ra w w' X s r2 E v' (n + 1) (toks ++ [(⟨tk, tn, ta, tx, ts⟩, (a : Int), ((s.size - r2.length : Nat) : Int))]) ∧ ∀ k, k < w6.heap.size → k ≠ X → v.ownBlock ≠ some k → w'.heap[k]? = w6.heap[k]? from
            tkPut_keep w w6 X s r2 E v n toks ⟨tk, tn, ta, tx, ts⟩ tA ta.length tc (a : Int) hs HA6.out (sl_fresh HSL5.out HB6.out) (by rcases hkd with h | h | h | h <;> (rw [h]; rfl)) (by dsimp only; omega) (by have := HTZ.out; have := HAZ.out; dsimp only; omega) (WalkArith.wf_i64 (by have := HAZ.out; omega)) (by have := HFW.out; have := HA.out.few; omega))
          have HBX := Lib.hid (show w5.heap.size < w6.heap.size ∧ w5.heap.size ≠ X ∧ v.ownBlock ≠ some w5.heap.size from ⟨(Array.getElem?_eq_some_iff.1 HF6.out).1, by have := HA5.out.xlt; omega, fun e => by have := (Cl.Own.lt HA5.out.own _ e).2; omega⟩)
          clear hnz
          rcases hkd with rfl | rfl | rfl | rfl
          · obtain rfl : en = true := by cases en with | true => rfl | false => rcases hen rfl with h | h <;> exact absurd h (by decide)
            clear hen
            rcases Nat.eq_zero_or_pos (rawN tn.data.toList) with h0 | hp
            · have HRN := Lib.hid (show rawN (rawOf (some ⟨1, tn, ta, tx, ts⟩)) = 0 from h0)
              have HRW := Lib.hid (fun u : World => (show Calls Tryz.prog 68 #[.string tn] u fun e w' => e = .returned (.int .i64 0) ∧ w' = u from by have h1 := raw_any tn u; rw [h0] at h1; exact h1))
              clear h0
              go_upto_region 13 with (go_at_call 67; refine HPU.out.mono ?_; rintro e w7 ⟨rfl, v7, hA7, hk7⟩; have hF7 := (hk7 _ HBX.out.1 HBX.out.2.1 HBX.out.2.2).trans HF6.out; obtain ⟨a7, haz7, hra7, hc7⟩ := rd_at hA7.rd; have c1 := hc7.c1; have c2 := hc7.c2; have f2 := hc7.fr 2; have HA7 := Lib.hid hA7; have HF7 := Lib.hid hF7; have HZ7 := Lib.hid haz7; clear d0 d1 d2 d3 d4 d5 d6; have d0 := cell_blk (i := 0) hF7 rfl; have d1 := cell_blk (i := 1) hF7 rfl; have d2 := cell_blk (i := 2) hF7 rfl; have d3 := cell_blk (i := 3) hF7 rfl; have d4 := cell_blk (i := 4) hF7 rfl; have d5 := cell_blk (i := 5) hF7 rfl; have d6 := cell_blk (i := 6) hF7 rfl; clear hA7 hk7 hF7 haz7 hra7 hc7)
              have hF8 := (heap_setCell_other w7 ⟨X, 2, none⟩ w5.heap.size (.int .i64 (a7 : Int)) HBX.out.2.1).trans HF7.out
              have hA8 := HA7.out.fin (a7 : Int)
              obtain ⟨w8, hw8⟩ : ∃ w8, w8 = w7.setCell ⟨X, 2, none⟩ (.int .i64 (a7 : Int)) := ⟨_, rfl⟩
              rw [← hw8]
              rw [← hw8] at hF8 hA8
              clear hw8 c1 c2 f2 d0 d1 d2 d3 d4 d5 d6
              have d0 := cell_blk (i := 0) hF8 rfl
              have d1 := cell_blk (i := 1) hF8 rfl
              have d2 := cell_blk (i := 2) hF8 rfl
              have d3 := cell_blk (i := 3) hF8 rfl
              have d4 := cell_blk (i := 4) hF8 rfl
              have d5 := cell_blk (i := 5) hF8 rfl
              have d6 := cell_blk (i := 6) hF8 rfl
              have HA8 := Lib.hid hA8
              clear hF8 hA8
              have HTX := Lib.hid (tkText_any w w8 X s r2 (a7 : Int) v7 (n + 1) (toks ++ [(⟨1, tn, ta, tx, ts⟩, (a : Int), ((s.size - r2.length : Nat) : Int))]) hs HA8.out (by have h1 := HFW.out; have h2 := HA.out.few; have h3 := HLT.out; omega))
              have hap := after_plainR (t := some ⟨1, tn, ta, tx, ts⟩) r2 HRN.out
              rw [hap] at hst
              dsimp only [putM] at hst
              have HT2 := Lib.hid (show (readF l).1.map (plOf s) = ((toks ++ [(⟨1, tn, ta, tx, ts⟩, (a : Int), ((s.size - r2.length : Nat) : Int))]) ++ (putT (textF r2).1 (bs (entT (textF r2).1)) r2.length (textF r2).2.length).map (plOf s)) ++ (readM (textF r2).2).1.map (plOf s) from by rw [HT.out, hst, HAF.out]; simp [List.append_assoc, plOf])
              have HE2 := Lib.hid (show endOf s 0 (readF l).2 = endOf s (a7 : Int) (readM (textF r2).2).2 from by rw [HE.out, hst, show a7 = s.size - r2.length by have := HZ7.out; omega]; dsimp only; rw [end_or]; rfl)
              have HTF := Lib.hid (text_few r2 (bs (entT (textF r2).1)) r2.length (textF r2).2.length)
              have HTM := Lib.hid (text_mark r2)
              clear hst hap HT HE HRN
              generalize putT (textF r2).1 (bs (entT (textF r2).1)) r2.length (textF r2).2.length = pt at *
              generalize (textF r2).2 = r3 at *
              go_wp2_with (first | (go_at_call 68; refine (HRW.out _).mono ?_; rintro e wz ⟨rfl, hwz⟩; subst hwz) | (go_at_call 64; refine HTX.out.mono ?_; rintro e w9 ⟨rfl, v9, n9, hA9⟩; have HA9 := Lib.hid hA9; clear hA9))
              go_roundw
              case rel => exact ⟨r3, (a7 : Int), v9, n9, _, HA9, Lib.hid (by have h1 := HFW.out; have h2 := HTF.out; have h3 := HLT.out; simp only [List.length_append, List.length_map, List.length_cons, List.length_nil]; omega), HTM, HT2, HE2⟩
              case measure => have h1 := HA9.out.rd.left; have h2 := HLF.out; have h3 := HTF.out; have h4 := HLT.out; have h5 := HAZ.out; omega
            · obtain ⟨kN, hkN⟩ : ∃ kN, rawN tn.data.toList = kN := ⟨_, rfl⟩
              have HRW := Lib.hid (fun u : World => (show Calls Tryz.prog 68 #[.string tn] u fun e w' => e = .returned (.int .i64 (kN : Int)) ∧ w' = u from by have h1 := raw_any tn u; rw [hkN] at h1; exact h1))
              have g0 : (0 : Int) < (kN : Int) := by omega
              have g0' : decide ((0 : Int) < (kN : Int)) = true := decide_eq_true g0
              have HSM := Lib.hid (rawN_small hp)
              rw [after_raw r2 hp] at hst
              dsimp only [putM] at hst
              clear hp hkN
              go_upto_region 13 with (go_at_call 67; refine HPU.out.mono ?_; rintro e w7 ⟨rfl, v7, hA7, hk7⟩; have hF7 := (hk7 _ HBX.out.1 HBX.out.2.1 HBX.out.2.2).trans HF6.out; obtain ⟨a7, haz7, hra7, hc7⟩ := rd_at hA7.rd; have c1 := hc7.c1; have c2 := hc7.c2; have f2 := hc7.fr 2; have HA7 := Lib.hid hA7; have HF7 := Lib.hid hF7; have HZ7 := Lib.hid haz7; clear d0 d1 d2 d3 d4 d5 d6; have d0 := cell_blk (i := 0) hF7 rfl; have d1 := cell_blk (i := 1) hF7 rfl; have d2 := cell_blk (i := 2) hF7 rfl; have d3 := cell_blk (i := 3) hF7 rfl; have d4 := cell_blk (i := 4) hF7 rfl; have d5 := cell_blk (i := 5) hF7 rfl; have d6 := cell_blk (i := 6) hF7 rfl; clear hA7 hk7 hF7 haz7 hra7 hc7)
              have hF8 := (heap_setCell_other w7 ⟨X, 2, none⟩ w5.heap.size (.int .i64 (a7 : Int)) HBX.out.2.1).trans HF7.out
              have hA8 := HA7.out.fin (a7 : Int)
              obtain ⟨w8, hw8⟩ : ∃ w8, w8 = w7.setCell ⟨X, 2, none⟩ (.int .i64 (a7 : Int)) := ⟨_, rfl⟩
              rw [← hw8]
              rw [← hw8] at hF8 hA8
              clear hw8 c1 c2 f2 d0 d1 d2 d3 d4 d5 d6
              have d0 := cell_blk (i := 0) hF8 rfl
              have d1 := cell_blk (i := 1) hF8 rfl
              have d2 := cell_blk (i := 2) hF8 rfl
              have d3 := cell_blk (i := 3) hF8 rfl
              have d4 := cell_blk (i := 4) hF8 rfl
              have d5 := cell_blk (i := 5) hF8 rfl
              have d6 := cell_blk (i := 6) hF8 rfl
              have HA8 := Lib.hid hA8
              clear hF8 hA8
              have hra := tkRaw_any w w8 X s r2 tn (a7 : Int) v7 (n + 1) (toks ++ [(⟨1, tn, ta, tx, ts⟩, (a : Int), ((s.size - r2.length : Nat) : Int))]) hs HA8.out (by have h1 := HFW.out; have h2 := HA.out.few; have h3 := HLT.out; omega) HFO.out (by have h1 := HSM.out.1; have h2 : tn.data.toList.length = tn.size := (by simp); omega) HSM.out.2
              have hrf := raw_few tn.data.toList r2 (bs (rawTx tn.data.toList (rawF tn.data.toList r2).1)) r2.length (rawF tn.data.toList r2).2.length
              generalize putT (rawF tn.data.toList r2).1 (bs (rawTx tn.data.toList (rawF tn.data.toList r2).1)) r2.length (rawF tn.data.toList r2).2.length = pr at *
              generalize (rawF tn.data.toList r2).2 = r9 at *
              have HRA := Lib.hid hra
              have HRF := Lib.hid hrf
              have HT2 := Lib.hid (show (readF l).1.map (plOf s) = (((toks ++ [(⟨1, tn, ta, tx, ts⟩, (a : Int), ((s.size - r2.length : Nat) : Int))]) ++ pr.map (plOf s)) ++ (putT (textF r9).1 (bs (entT (textF r9).1)) r9.length (textF r9).2.length).map (plOf s)) ++ (readM (textF r9).2).1.map (plOf s) from by rw [HT.out, hst, HAF.out]; simp [List.append_assoc, plOf])
              have HE2 := Lib.hid (show endOf s 0 (readF l).2 = endOf s (a7 : Int) (readM (textF r9).2).2 from by rw [HE.out, hst, show a7 = s.size - r2.length by have := HZ7.out; omega]; dsimp only; rw [end_or]; rfl)
              have HTF := Lib.hid (text_few r9 (bs (entT (textF r9).1)) r9.length (textF r9).2.length)
              have HTM := Lib.hid (text_mark r9)
              have HTT := Lib.hid (fun (u : World) (vu : Value) (nu : Nat) (h : Ra w u X s r9 (a7 : Int) vu nu ((toks ++ [(⟨1, tn, ta, tx, ts⟩, (a : Int), ((s.size - r2.length : Nat) : Int))]) ++ pr.map (plOf s))) => tkText_any w u X s r9 (a7 : Int) vu nu ((toks ++ [(⟨1, tn, ta, tx, ts⟩, (a : Int), ((s.size - r2.length : Nat) : Int))]) ++ pr.map (plOf s)) hs h (by have h1 := HFW.out; have h3 := HLT.out; have h4 := hrf; have h5 := h.few; simp only [List.length_append, List.length_map, List.length_cons, List.length_nil] at h5; omega))
              clear hst HT HE hra hrf
              generalize putT (textF r9).1 (bs (entT (textF r9).1)) r9.length (textF r9).2.length = pt at *
              generalize (textF r9).2 = r3 at *
              go_wp2_with (first | (go_at_call 68; refine (HRW.out _).mono ?_; rintro e wz ⟨rfl, hwz⟩; subst hwz) | (go_at_call 69; refine HRA.out.mono ?_; rintro e w9 ⟨rfl, v9, n9, hA9⟩; have HTX := Lib.hid (HTT.out _ _ _ hA9); clear hA9) | (go_at_call 64; refine HTX.out.mono ?_; rintro e w10 ⟨rfl, v10, n10, hA10⟩; have HA9 := Lib.hid hA10; clear hA10))
              go_roundw
              case rel => exact ⟨r3, (a7 : Int), v10, n10, _, HA9, Lib.hid (by have h1 := HFW.out; have h2 := HTF.out; have h3 := HLT.out; have h4 := HRF.out; simp only [List.length_append, List.length_map, List.length_cons, List.length_nil]; omega), HTM, HT2, HE2⟩
              case measure => have h1 := HA9.out.rd.left; have h2 := HLF.out; have h3 := HTF.out; have h4 := HLT.out; have h5 := HAZ.out; have h6 := HRF.out; omega
          · obtain rfl : en = true := by cases en with | true => rfl | false => rcases hen rfl with h | h <;> exact absurd h (by decide)
            have HRN := Lib.hid (show rawN (rawOf (some ⟨2, tn, ta, tx, ts⟩)) = 0 from rfl)
            clear hen
            go_upto_region 13 with (go_at_call 67; refine HPU.out.mono ?_; rintro e w7 ⟨rfl, v7, hA7, hk7⟩; have hF7 := (hk7 _ HBX.out.1 HBX.out.2.1 HBX.out.2.2).trans HF6.out; obtain ⟨a7, haz7, hra7, hc7⟩ := rd_at hA7.rd; have c1 := hc7.c1; have c2 := hc7.c2; have f2 := hc7.fr 2; have HA7 := Lib.hid hA7; have HF7 := Lib.hid hF7; have HZ7 := Lib.hid haz7; clear d0 d1 d2 d3 d4 d5 d6; have d0 := cell_blk (i := 0) hF7 rfl; have d1 := cell_blk (i := 1) hF7 rfl; have d2 := cell_blk (i := 2) hF7 rfl; have d3 := cell_blk (i := 3) hF7 rfl; have d4 := cell_blk (i := 4) hF7 rfl; have d5 := cell_blk (i := 5) hF7 rfl; have d6 := cell_blk (i := 6) hF7 rfl; clear hA7 hk7 hF7 haz7 hra7 hc7)
            have hF8 := (heap_setCell_other w7 ⟨X, 2, none⟩ w5.heap.size (.int .i64 (a7 : Int)) HBX.out.2.1).trans HF7.out
            have hA8 := HA7.out.fin (a7 : Int)
            obtain ⟨w8, hw8⟩ : ∃ w8, w8 = w7.setCell ⟨X, 2, none⟩ (.int .i64 (a7 : Int)) := ⟨_, rfl⟩
            rw [← hw8]
            rw [← hw8] at hF8 hA8
            clear hw8 c1 c2 f2 d0 d1 d2 d3 d4 d5 d6
            have d0 := cell_blk (i := 0) hF8 rfl
            have d1 := cell_blk (i := 1) hF8 rfl
            have d2 := cell_blk (i := 2) hF8 rfl
            have d3 := cell_blk (i := 3) hF8 rfl
            have d4 := cell_blk (i := 4) hF8 rfl
            have d5 := cell_blk (i := 5) hF8 rfl
            have d6 := cell_blk (i := 6) hF8 rfl
            have HA8 := Lib.hid hA8
            clear hF8 hA8
            have HTX := Lib.hid (tkText_any w w8 X s r2 (a7 : Int) v7 (n + 1) (toks ++ [(⟨2, tn, ta, tx, ts⟩, (a : Int), ((s.size - r2.length : Nat) : Int))]) hs HA8.out (by have h1 := HFW.out; have h2 := HA.out.few; have h3 := HLT.out; omega))
            have hap := after_plainR (t := some ⟨2, tn, ta, tx, ts⟩) r2 HRN.out
            rw [hap] at hst
            dsimp only [putM] at hst
            have HT2 := Lib.hid (show (readF l).1.map (plOf s) = ((toks ++ [(⟨2, tn, ta, tx, ts⟩, (a : Int), ((s.size - r2.length : Nat) : Int))]) ++ (putT (textF r2).1 (bs (entT (textF r2).1)) r2.length (textF r2).2.length).map (plOf s)) ++ (readM (textF r2).2).1.map (plOf s) from by rw [HT.out, hst, HAF.out]; simp [List.append_assoc, plOf])
            have HE2 := Lib.hid (show endOf s 0 (readF l).2 = endOf s (a7 : Int) (readM (textF r2).2).2 from by rw [HE.out, hst, show a7 = s.size - r2.length by have := HZ7.out; omega]; dsimp only; rw [end_or]; rfl)
            have HTF := Lib.hid (text_few r2 (bs (entT (textF r2).1)) r2.length (textF r2).2.length)
            have HTM := Lib.hid (text_mark r2)
            clear hst hap HT HE HRN
            generalize putT (textF r2).1 (bs (entT (textF r2).1)) r2.length (textF r2).2.length = pt at *
            generalize (textF r2).2 = r3 at *
            go_wp2_with (first | (go_at_call 68; refine (HRW.out _).mono ?_; rintro e wz ⟨rfl, hwz⟩; subst hwz) | (go_at_call 64; refine HTX.out.mono ?_; rintro e w9 ⟨rfl, v9, n9, hA9⟩; have HA9 := Lib.hid hA9; clear hA9))
            go_roundw
            case rel => exact ⟨r3, (a7 : Int), v9, n9, _, HA9, Lib.hid (by have h1 := HFW.out; have h2 := HTF.out; have h3 := HLT.out; simp only [List.length_append, List.length_map, List.length_cons, List.length_nil]; omega), HTM, HT2, HE2⟩
            case measure => have h1 := HA9.out.rd.left; have h2 := HLF.out; have h3 := HTF.out; have h4 := HLT.out; have h5 := HAZ.out; omega
          · have HRN := Lib.hid (show rawN (rawOf (some ⟨4, tn, ta, tx, ts⟩)) = 0 from rfl)
            clear hen
            cases en with
            | true =>
              go_upto_region 13 with (go_at_call 67; refine HPU.out.mono ?_; rintro e w7 ⟨rfl, v7, hA7, hk7⟩; have hF7 := (hk7 _ HBX.out.1 HBX.out.2.1 HBX.out.2.2).trans HF6.out; obtain ⟨a7, haz7, hra7, hc7⟩ := rd_at hA7.rd; have c1 := hc7.c1; have c2 := hc7.c2; have f2 := hc7.fr 2; have HA7 := Lib.hid hA7; have HF7 := Lib.hid hF7; have HZ7 := Lib.hid haz7; clear d0 d1 d2 d3 d4 d5 d6; have d0 := cell_blk (i := 0) hF7 rfl; have d1 := cell_blk (i := 1) hF7 rfl; have d2 := cell_blk (i := 2) hF7 rfl; have d3 := cell_blk (i := 3) hF7 rfl; have d4 := cell_blk (i := 4) hF7 rfl; have d5 := cell_blk (i := 5) hF7 rfl; have d6 := cell_blk (i := 6) hF7 rfl; clear hA7 hk7 hF7 haz7 hra7 hc7)
              have hF8 := (heap_setCell_other w7 ⟨X, 2, none⟩ w5.heap.size (.int .i64 (a7 : Int)) HBX.out.2.1).trans HF7.out
              have hA8 := HA7.out.fin (a7 : Int)
              obtain ⟨w8, hw8⟩ : ∃ w8, w8 = w7.setCell ⟨X, 2, none⟩ (.int .i64 (a7 : Int)) := ⟨_, rfl⟩
              rw [← hw8]
              rw [← hw8] at hF8 hA8
              clear hw8 c1 c2 f2 d0 d1 d2 d3 d4 d5 d6
              have d0 := cell_blk (i := 0) hF8 rfl
              have d1 := cell_blk (i := 1) hF8 rfl
              have d2 := cell_blk (i := 2) hF8 rfl
              have d3 := cell_blk (i := 3) hF8 rfl
              have d4 := cell_blk (i := 4) hF8 rfl
              have d5 := cell_blk (i := 5) hF8 rfl
              have d6 := cell_blk (i := 6) hF8 rfl
              have HA8 := Lib.hid hA8
              clear hF8 hA8
              have HTX := Lib.hid (tkText_any w w8 X s r2 (a7 : Int) v7 (n + 1) (toks ++ [(⟨4, tn, ta, tx, ts⟩, (a : Int), ((s.size - r2.length : Nat) : Int))]) hs HA8.out (by have h1 := HFW.out; have h2 := HA.out.few; have h3 := HLT.out; omega))
              have hap := after_plainR (t := some ⟨4, tn, ta, tx, ts⟩) r2 HRN.out
              rw [hap] at hst
              dsimp only [putM] at hst
              have HT2 := Lib.hid (show (readF l).1.map (plOf s) = ((toks ++ [(⟨4, tn, ta, tx, ts⟩, (a : Int), ((s.size - r2.length : Nat) : Int))]) ++ (putT (textF r2).1 (bs (entT (textF r2).1)) r2.length (textF r2).2.length).map (plOf s)) ++ (readM (textF r2).2).1.map (plOf s) from by rw [HT.out, hst, HAF.out]; simp [List.append_assoc, plOf])
              have HE2 := Lib.hid (show endOf s 0 (readF l).2 = endOf s (a7 : Int) (readM (textF r2).2).2 from by rw [HE.out, hst, show a7 = s.size - r2.length by have := HZ7.out; omega]; dsimp only; rw [end_or]; rfl)
              have HTF := Lib.hid (text_few r2 (bs (entT (textF r2).1)) r2.length (textF r2).2.length)
              have HTM := Lib.hid (text_mark r2)
              clear hst hap HT HE HRN
              generalize putT (textF r2).1 (bs (entT (textF r2).1)) r2.length (textF r2).2.length = pt at *
              generalize (textF r2).2 = r3 at *
              go_wp2_with (first | (go_at_call 68; refine (HRW.out _).mono ?_; rintro e wz ⟨rfl, hwz⟩; subst hwz) | (go_at_call 64; refine HTX.out.mono ?_; rintro e w9 ⟨rfl, v9, n9, hA9⟩; have HA9 := Lib.hid hA9; clear hA9))
              go_roundw
              case rel => exact ⟨r3, (a7 : Int), v9, n9, _, HA9, Lib.hid (by have h1 := HFW.out; have h2 := HTF.out; have h3 := HLT.out; simp only [List.length_append, List.length_map, List.length_cons, List.length_nil]; omega), HTM, HT2, HE2⟩
              case measure => have h1 := HA9.out.rd.left; have h2 := HLF.out; have h3 := HTF.out; have h4 := HLT.out; have h5 := HAZ.out; omega
            | false =>
              go_upto_region 13 with (go_at_call 67; refine HPU.out.mono ?_; rintro e w7 ⟨rfl, v7, hA7, hk7⟩; have hF7 := (hk7 _ HBX.out.1 HBX.out.2.1 HBX.out.2.2).trans HF6.out; obtain ⟨a7, haz7, hra7, hc7⟩ := rd_at hA7.rd; have c1 := hc7.c1; have c2 := hc7.c2; have f2 := hc7.fr 2; have HA7 := Lib.hid hA7; have HF7 := Lib.hid hF7; have HZ7 := Lib.hid haz7; clear d0 d1 d2 d3 d4 d5 d6; have d0 := cell_blk (i := 0) hF7 rfl; have d1 := cell_blk (i := 1) hF7 rfl; have d2 := cell_blk (i := 2) hF7 rfl; have d3 := cell_blk (i := 3) hF7 rfl; have d4 := cell_blk (i := 4) hF7 rfl; have d5 := cell_blk (i := 5) hF7 rfl; have d6 := cell_blk (i := 6) hF7 rfl; clear hA7 hk7 hF7 haz7 hra7 hc7)
              have HTX := Lib.hid (tkText_any w w7 X s r2 E v7 (n + 1) (toks ++ [(⟨4, tn, ta, tx, ts⟩, (a : Int), ((s.size - r2.length : Nat) : Int))]) hs HA7.out (by have h1 := HFW.out; have h2 := HA.out.few; have h3 := HLT.out; omega))
              have hap := after_plainR (t := some ⟨4, tn, ta, tx, ts⟩) r2 HRN.out
              rw [hap] at hst
              dsimp only [putM] at hst
              have HT2 := Lib.hid (show (readF l).1.map (plOf s) = ((toks ++ [(⟨4, tn, ta, tx, ts⟩, (a : Int), ((s.size - r2.length : Nat) : Int))]) ++ (putT (textF r2).1 (bs (entT (textF r2).1)) r2.length (textF r2).2.length).map (plOf s)) ++ (readM (textF r2).2).1.map (plOf s) from by rw [HT.out, hst, HAF.out]; simp [List.append_assoc, plOf])
              have HE2 := Lib.hid (show endOf s 0 (readF l).2 = endOf s E (readM (textF r2).2).2 from by rw [HE.out, hst]; dsimp only; rw [end_or]; rfl)
              have HTF := Lib.hid (text_few r2 (bs (entT (textF r2).1)) r2.length (textF r2).2.length)
              have HTM := Lib.hid (text_mark r2)
              clear hst hap HT HE HRN
              generalize putT (textF r2).1 (bs (entT (textF r2).1)) r2.length (textF r2).2.length = pt at *
              generalize (textF r2).2 = r3 at *
              go_wp2_with (first | (go_at_call 68; refine (HRW.out _).mono ?_; rintro e wz ⟨rfl, hwz⟩; subst hwz) | (go_at_call 64; refine HTX.out.mono ?_; rintro e w9 ⟨rfl, v9, n9, hA9⟩; have HA9 := Lib.hid hA9; clear hA9))
              go_roundw
              case rel => exact ⟨r3, E, v9, n9, _, HA9, Lib.hid (by have h1 := HFW.out; have h2 := HTF.out; have h3 := HLT.out; simp only [List.length_append, List.length_map, List.length_cons, List.length_nil]; omega), HTM, HT2, HE2⟩
              case measure => have h1 := HA9.out.rd.left; have h2 := HLF.out; have h3 := HTF.out; have h4 := HLT.out; have h5 := HAZ.out; omega
          · have HRN := Lib.hid (show rawN (rawOf (some ⟨5, tn, ta, tx, ts⟩)) = 0 from rfl)
            clear hen
            cases en with
            | true =>
              go_upto_region 13 with (go_at_call 67; refine HPU.out.mono ?_; rintro e w7 ⟨rfl, v7, hA7, hk7⟩; have hF7 := (hk7 _ HBX.out.1 HBX.out.2.1 HBX.out.2.2).trans HF6.out; obtain ⟨a7, haz7, hra7, hc7⟩ := rd_at hA7.rd; have c1 := hc7.c1; have c2 := hc7.c2; have f2 := hc7.fr 2; have HA7 := Lib.hid hA7; have HF7 := Lib.hid hF7; have HZ7 := Lib.hid haz7; clear d0 d1 d2 d3 d4 d5 d6; have d0 := cell_blk (i := 0) hF7 rfl; have d1 := cell_blk (i := 1) hF7 rfl; have d2 := cell_blk (i := 2) hF7 rfl; have d3 := cell_blk (i := 3) hF7 rfl; have d4 := cell_blk (i := 4) hF7 rfl; have d5 := cell_blk (i := 5) hF7 rfl; have d6 := cell_blk (i := 6) hF7 rfl; clear hA7 hk7 hF7 haz7 hra7 hc7)
              have hF8 := (heap_setCell_other w7 ⟨X, 2, none⟩ w5.heap.size (.int .i64 (a7 : Int)) HBX.out.2.1).trans HF7.out
              have hA8 := HA7.out.fin (a7 : Int)
              obtain ⟨w8, hw8⟩ : ∃ w8, w8 = w7.setCell ⟨X, 2, none⟩ (.int .i64 (a7 : Int)) := ⟨_, rfl⟩
              rw [← hw8]
              rw [← hw8] at hF8 hA8
              clear hw8 c1 c2 f2 d0 d1 d2 d3 d4 d5 d6
              have d0 := cell_blk (i := 0) hF8 rfl
              have d1 := cell_blk (i := 1) hF8 rfl
              have d2 := cell_blk (i := 2) hF8 rfl
              have d3 := cell_blk (i := 3) hF8 rfl
              have d4 := cell_blk (i := 4) hF8 rfl
              have d5 := cell_blk (i := 5) hF8 rfl
              have d6 := cell_blk (i := 6) hF8 rfl
              have HA8 := Lib.hid hA8
              clear hF8 hA8
              have HTX := Lib.hid (tkText_any w w8 X s r2 (a7 : Int) v7 (n + 1) (toks ++ [(⟨5, tn, ta, tx, ts⟩, (a : Int), ((s.size - r2.length : Nat) : Int))]) hs HA8.out (by have h1 := HFW.out; have h2 := HA.out.few; have h3 := HLT.out; omega))
              have hap := after_plainR (t := some ⟨5, tn, ta, tx, ts⟩) r2 HRN.out
              rw [hap] at hst
              dsimp only [putM] at hst
              have HT2 := Lib.hid (show (readF l).1.map (plOf s) = ((toks ++ [(⟨5, tn, ta, tx, ts⟩, (a : Int), ((s.size - r2.length : Nat) : Int))]) ++ (putT (textF r2).1 (bs (entT (textF r2).1)) r2.length (textF r2).2.length).map (plOf s)) ++ (readM (textF r2).2).1.map (plOf s) from by rw [HT.out, hst, HAF.out]; simp [List.append_assoc, plOf])
              have HE2 := Lib.hid (show endOf s 0 (readF l).2 = endOf s (a7 : Int) (readM (textF r2).2).2 from by rw [HE.out, hst, show a7 = s.size - r2.length by have := HZ7.out; omega]; dsimp only; rw [end_or]; rfl)
              have HTF := Lib.hid (text_few r2 (bs (entT (textF r2).1)) r2.length (textF r2).2.length)
              have HTM := Lib.hid (text_mark r2)
              clear hst hap HT HE HRN
              generalize putT (textF r2).1 (bs (entT (textF r2).1)) r2.length (textF r2).2.length = pt at *
              generalize (textF r2).2 = r3 at *
              go_wp2_with (first | (go_at_call 68; refine (HRW.out _).mono ?_; rintro e wz ⟨rfl, hwz⟩; subst hwz) | (go_at_call 64; refine HTX.out.mono ?_; rintro e w9 ⟨rfl, v9, n9, hA9⟩; have HA9 := Lib.hid hA9; clear hA9))
              go_roundw
              case rel => exact ⟨r3, (a7 : Int), v9, n9, _, HA9, Lib.hid (by have h1 := HFW.out; have h2 := HTF.out; have h3 := HLT.out; simp only [List.length_append, List.length_map, List.length_cons, List.length_nil]; omega), HTM, HT2, HE2⟩
              case measure => have h1 := HA9.out.rd.left; have h2 := HLF.out; have h3 := HTF.out; have h4 := HLT.out; have h5 := HAZ.out; omega
            | false =>
              go_upto_region 13 with (go_at_call 67; refine HPU.out.mono ?_; rintro e w7 ⟨rfl, v7, hA7, hk7⟩; have hF7 := (hk7 _ HBX.out.1 HBX.out.2.1 HBX.out.2.2).trans HF6.out; obtain ⟨a7, haz7, hra7, hc7⟩ := rd_at hA7.rd; have c1 := hc7.c1; have c2 := hc7.c2; have f2 := hc7.fr 2; have HA7 := Lib.hid hA7; have HF7 := Lib.hid hF7; have HZ7 := Lib.hid haz7; clear d0 d1 d2 d3 d4 d5 d6; have d0 := cell_blk (i := 0) hF7 rfl; have d1 := cell_blk (i := 1) hF7 rfl; have d2 := cell_blk (i := 2) hF7 rfl; have d3 := cell_blk (i := 3) hF7 rfl; have d4 := cell_blk (i := 4) hF7 rfl; have d5 := cell_blk (i := 5) hF7 rfl; have d6 := cell_blk (i := 6) hF7 rfl; clear hA7 hk7 hF7 haz7 hra7 hc7)
              have HTX := Lib.hid (tkText_any w w7 X s r2 E v7 (n + 1) (toks ++ [(⟨5, tn, ta, tx, ts⟩, (a : Int), ((s.size - r2.length : Nat) : Int))]) hs HA7.out (by have h1 := HFW.out; have h2 := HA.out.few; have h3 := HLT.out; omega))
              have hap := after_plainR (t := some ⟨5, tn, ta, tx, ts⟩) r2 HRN.out
              rw [hap] at hst
              dsimp only [putM] at hst
              have HT2 := Lib.hid (show (readF l).1.map (plOf s) = ((toks ++ [(⟨5, tn, ta, tx, ts⟩, (a : Int), ((s.size - r2.length : Nat) : Int))]) ++ (putT (textF r2).1 (bs (entT (textF r2).1)) r2.length (textF r2).2.length).map (plOf s)) ++ (readM (textF r2).2).1.map (plOf s) from by rw [HT.out, hst, HAF.out]; simp [List.append_assoc, plOf])
              have HE2 := Lib.hid (show endOf s 0 (readF l).2 = endOf s E (readM (textF r2).2).2 from by rw [HE.out, hst]; dsimp only; rw [end_or]; rfl)
              have HTF := Lib.hid (text_few r2 (bs (entT (textF r2).1)) r2.length (textF r2).2.length)
              have HTM := Lib.hid (text_mark r2)
              clear hst hap HT HE HRN
              generalize putT (textF r2).1 (bs (entT (textF r2).1)) r2.length (textF r2).2.length = pt at *
              generalize (textF r2).2 = r3 at *
              go_wp2_with (first | (go_at_call 68; refine (HRW.out _).mono ?_; rintro e wz ⟨rfl, hwz⟩; subst hwz) | (go_at_call 64; refine HTX.out.mono ?_; rintro e w9 ⟨rfl, v9, n9, hA9⟩; have HA9 := Lib.hid hA9; clear hA9))
              go_roundw
              case rel => exact ⟨r3, E, v9, n9, _, HA9, Lib.hid (by have h1 := HFW.out; have h2 := HTF.out; have h3 := HLT.out; simp only [List.length_append, List.length_map, List.length_cons, List.length_nil]; omega), HTM, HT2, HE2⟩
              case measure => have h1 := HA9.out.rd.left; have h2 := HLF.out; have h3 := HTF.out; have h4 := HLT.out; have h5 := HAZ.out; omega
end Go.Proofs.YtegcedboeemedaaGreatDoor

/-
Tokens: Read and Safe.
-/
namespace Go.Proofs.YtegcedboeemedaaGreatDoor
open Go.RowKit Go.Cl
attribute [local go_sem ↓] Go.wp_at_zero Go.wp_at_succ
theorem tkRead_ok (w : World) (s : ByteArray) (hs : s.size ≤ 4000) (hm0 : ∃ m : Int, w.cell? ⟨0, 0, none⟩ = some (.int .i64 m)) (hF : FoldOk w w.heap.size) (hY : AnyOk w w.heap.size) :
    Calls Tryz.prog 10 #[.string s] w fun e w' => ∃ r v n, e = .returned (.tuple #[v, .int .i64 0]) ∧ Ra w w' w.heap.size s r (endOf s 0 (readF s.data.toList).2) v n ((readF s.data.toList).1.map (plOf s)) := by
  have g1 : ¬ (4000 : Int) < (s.size : Int) := by omega
  have g1' : decide ((4000 : Int) < (s.size : Int)) = false := decide_eq_false g1
  have HR := Lib.hid (tkRead_any w s (by omega) hm0 hF hY)
  clear hs hm0 hF hY
  go_enter Tryz.func10, Tryz.ntmps10
  go_wp2_with (go_at_call 32; refine HR.out.mono ?_; rintro e w2 ⟨rfl, r, v, n, hA⟩; obtain ⟨a, _, _, hc⟩ := rd_at hA.rd; have c3 := hc.c3; have HA := Lib.hid hA; clear hA hc)
  go_ret2
  exact ⟨r, v, n, rfl, HA.out⟩
end Go.Proofs.YtegcedboeemedaaGreatDoor

/-
IndexAny of the blanks, whatever bytes the text has.
-/
namespace Go.Proofs.YtegcedboeemedaaGreatDoor
open Go.RowKit Go.Cl
attribute [local go_sem ↓] Go.wp_at_zero Go.wp_at_succ
/-- The bytes that a rune beyond ASCII takes are all beyond ASCII. -/
theorem decode_bytes (s : ByteArray) (pos : Nat) (h : pos < s.size) (ha : 128 ≤ (s[pos]'h).toNat) : ∀ j, j < (Utf8.decode s pos).2 → ∀ b, s.data.toList[pos + j]? = some b → 128 ≤ b.toNat := by
  have hn : ¬ (s[pos]'h).toNat < 128 := by omega
  have key : ∀ j b, s.data.toList[pos + j]? = some b → (s.get! (pos + j)) = b := fun j b hb => by
    have h1 := (List.getElem?_eq_some_iff.1 hb).1
    have hlt : pos + j < s.size := by simpa using h1
    have h2 := Lib.data_getElem? s (pos + j) hlt
    rw [hb] at h2
    have h3 := Go.get_at s (pos + j) hlt
    rw [Nat.add_zero] at h3
    rw [h3]
    injection h2.symm
  have key0 : ∀ b, s.data.toList[pos + 0]? = some b → 128 ≤ b.toNat := fun b hb => by
    have := key 0 b hb
    rw [Go.get_at s pos h] at this
    rw [← this]; exact ha
  intro j hj b hb
  have hkb := key j b hb
  simp only [Utf8.decode, Go.get_at s pos h, hn, if_false] at hj
  have j0 : j = 0 ∨ 1 ≤ j := by omega
  rcases j0 with rfl | j1
  · exact key0 b hb
  repeat' split at hj
  all_goals (try simp only at hj)
  all_goals (try omega)
  all_goals (rename_i hc _; simp only [Bool.and_eq_true, decide_eq_true_eq, beq_iff_eq] at hc)
  all_goals (rw [← hkb])
  all_goals (obtain rfl | rfl | rfl : j = 1 ∨ j = 2 ∨ j = 3 := by omega)
  all_goals omega
theorem blanks_zero : ∀ w : World, (zeroValue 115).run Tryz.prog w = .ok (.agg (Array.replicate 256 (.bool false))) w := fun _ => by kernel_rfl
theorem any_low (x : UInt8) : decide (0 ≤ Lib.indexByte wsB.data.toList x) = ([32, 9, 10, 12, 13] : List UInt8).contains x := (Lib.contains_iff_indexByte _ x).symm
set_option maxRecDepth 1000000 in
set_option maxHeartbeats 8000000 in
theorem any_short (s : ByteArray) (w : World) (h8 : s.size ≤ 8) :
    Calls Tryz.prog 143 #[.string s, .string ⟨#[32, 9, 10, 12, 13]⟩] w fun e w' => e = .returned (.int .i64 (Lib.indexAny s.data.toList [32, 9, 10, 12, 13])) ∧ Below w.heap.size w w' := by
  have h8z : decide ((8 : Int) < (s.size : Int)) = false := decide_eq_false (by omega)
  have h8p : ¬ (8 : Int) < (s.size : Int) := by omega
  have HSA := Lib.hid (fun W : World => (show Calls Tryz.prog 177 #[.int .i64 (s.size : Int)] W fun e w' => e = .returned (.bool false) ∧ w' = W from h8z ▸ Tryz.strings_shouldUseASCIISet (s.size : Int) W))
  have HLO := Lib.hid (fun (r : Int) (W : World) => Tryz.strings_IndexRune_ascii wsB r W)
  have HHI := Lib.hid (fun (r : Nat) (h : 128 ≤ r) (W : World) => indexRune_high r h W)
  go_enter Tryz.func143, Tryz.ntmps143
  go_wp2_with (go_at_call 177; refine (HSA.out _).mono ?_; rintro e w' ⟨rfl, hw⟩; rw [hw]; clear hw)
  go_loopg [] s.size (fun g wx => ∃ pos : Nat, s.size ≤ pos + g ∧ wx.heap[w.heap.size]? = some (.stringIter s pos) ∧ Below w.heap.size w wx ∧ Hid (Lib.NoAny s.data.toList [32, 9, 10, 12, 13] pos))
  case atStart => exact ⟨0, by omega, World.iter_heap w s 0, (Below.refl _ _).alloc (Nat.le_refl _) _, Lib.NoAny.zero _ _⟩
  case round =>
    obtain ⟨pos, hpg, hit, hb, HN⟩ := hrel
    by_cases hlt : pos < s.size
    · by_cases hx : (s[pos]'hlt).toNat < 128
      · have hnx : ∀ ty, (Instr.next (.pointer (some ⟨w.heap.size, 0, none⟩)) true ty).run Tryz.prog wr = _ := fun ty => Lib.run_next_ascii_at wr w.heap.size s pos ty hit hlt hx
        have hit2 := Lib.iterAt_heap wr w.heap.size s pos (pos + 1) hit
        have hb2 := Lib.below_iterAt hb (k := w.heap.size) (Nat.le_refl _) s (pos + 1)
        obtain ⟨W, hW⟩ : ∃ W, wr.iterAt w.heap.size s (pos + 1) = W := ⟨_, rfl⟩
        rw [hW] at hnx hit2 hb2
        obtain ⟨x, hx0⟩ : ∃ x : UInt8, s[pos]'hlt = x := ⟨_, rfl⟩
        have HX : Hid (s.data.toList[pos]? = some x) := by rw [← hx0]; exact Lib.data_getElem? s pos hlt
        rw [hx0] at hnx hx
        clear hit hb hW hx0
        have HR := Lib.hid (fun U : World => HLO.out (x.toNat : Int) U (by omega) (by omega))
        have hback : ((x.toNat : Int)).toNat.toUInt8 = x := by simp
        have hcon := any_low x
        rw [hback] at HR
        clear hback
        obtain ⟨z, hz⟩ : ∃ z, Lib.indexByte wsB.data.toList x = z := ⟨_, rfl⟩
        rw [hz] at hcon HR
        clear hz
        cases hin : ([32, 9, 10, 12, 13] : List UInt8).contains x with
        | false =>
          rw [hin] at hcon
          have hz0 : ¬ (0 : Int) ≤ z := of_decide_eq_false hcon
          have HN2 := Lib.hid (HN.out.succ HX.out hin)
          clear hcon hin
          have hws : wsB = ⟨#[32, 9, 10, 12, 13]⟩ := rfl
          rw [hws] at HR
          clear hws
          go_wp2_with (go_at_call 134; refine (HR.out _).mono ?_; rintro e w' ⟨rfl, hw⟩; rw [hw]; clear hw)
          go_roundg (gk - 1)
          case measure => omega
          case rel => exact ⟨pos + 1, by omega, hit2, hb2, HN2⟩
        | true =>
          rw [hin] at hcon
          have hz0 : (0 : Int) ≤ z := of_decide_eq_true hcon
          have HV := Lib.hid (Lib.indexAny_hit HN.out HX.out hin)
          clear hcon hin
          have hws : wsB = ⟨#[32, 9, 10, 12, 13]⟩ := rfl
          rw [hws] at HR
          clear hws
          go_wp2_with (go_at_call 134; refine (HR.out _).mono ?_; rintro e w' ⟨rfl, hw⟩; rw [hw]; clear hw)
          go_ret
          exact ⟨by rw [HV.out]; rfl, hb2⟩
      · have hx2 : 128 ≤ (s[pos]'hlt).toNat := by omega
        obtain ⟨hd1, hd2⟩ := Go.decode_high s pos hlt hx2
        have hdb := decode_bytes s pos hlt hx2
        have hnx : ∀ ty, (Instr.next (.pointer (some ⟨w.heap.size, 0, none⟩)) true ty).run Tryz.prog wr = _ := fun ty => Lib.run_next_any_at wr w.heap.size s pos ty hit hlt
        obtain ⟨R, hR⟩ : ∃ R, (Utf8.decode s pos).1 = R := ⟨_, rfl⟩
        obtain ⟨K, hK⟩ : ∃ K, (Utf8.decode s pos).2 = K := ⟨_, rfl⟩
        rw [hR, hK] at hnx
        rw [hR] at hd1
        rw [hK] at hd2 hdb
        clear hR hK hx hx2
        have hit2 := Lib.iterAt_heap wr w.heap.size s pos (pos + K) hit
        have hb2 := Lib.below_iterAt hb (k := w.heap.size) (Nat.le_refl _) s (pos + K)
        obtain ⟨W, hW⟩ : ∃ W, wr.iterAt w.heap.size s (pos + K) = W := ⟨_, rfl⟩
        rw [hW] at hnx hit2 hb2
        clear hit hb hW
        have HN2 : Hid (Lib.NoAny s.data.toList [32, 9, 10, 12, 13] (pos + K)) := fun j b hj hb => by
          by_cases hjp : j < pos
          · exact HN.out j b hjp hb
          · have h1 := hdb (j - pos) (by omega) b (by rw [show pos + (j - pos) = j by omega]; exact hb)
            have h2 : isBl b = false := by
              unfold isBl
              simp only [List.contains_cons, List.contains_nil, Bool.or_false, Bool.or_eq_false_iff, beq_eq_false_iff_ne]
              refine ⟨?_, ?_, ?_, ?_, ?_⟩ <;> rintro rfl <;> exact absurd h1 (by decide)
            exact h2
        clear hdb
        have HR := Lib.hid (fun U : World => HHI.out R hd1 U)
        have hws : wsB = ⟨#[32, 9, 10, 12, 13]⟩ := rfl
        rw [hws] at HR
        clear hws
        go_wp2_with (go_at_call 134; refine (HR.out _).mono ?_; rintro e w' ⟨rfl, hb3⟩; have HB3 := Lib.hid (hb2.trans (hb3.mono hb2.size)); have hit3 := (hb3.block w.heap.size (Array.getElem?_eq_some_iff.1 hit2).1).trans hit2; clear hb3)
        go_roundg (gk - 1)
        case measure => omega
        case rel => exact ⟨pos + K, by omega, hit3, HB3.out, HN2⟩
    · have hnx : ∀ ty, (Instr.next (.pointer (some ⟨w.heap.size, 0, none⟩)) true ty).run Tryz.prog wr = _ := fun ty => Lib.run_next_end_at wr w.heap.size s pos ty hit hlt
      have HV := Lib.hid (Lib.indexAny_none (s := s.data.toList) (chars := [32, 9, 10, 12, 13]) fun j b hj hb => HN.out j b (by rw [← Lib.size_eq] at hj; omega) hb)
      clear hit
      go_wp2_with fail
      go_ret
      exact ⟨by rw [HV.out]; rfl, hb⟩
theorem any_ok (w0 : World) (X : Nat) : AnyOk w0 X := by
  intro u _ s hs
  by_cases h8 : s.size ≤ 8
  · exact any_short s u h8
  · refine (Tryz.strings_IndexAny_long blanks_zero s ⟨#[32, 9, 10, 12, 13]⟩ u (by decide) (by omega) (by omega) (by decide) ?_).mono fun e w' h => ⟨h.1, by rw [h.2]; exact ((Below.refl _ _).alloc (Nat.le_refl _) _).alloc (by simp) _⟩
    intro j b hb
    have := List.mem_of_getElem? hb
    have h2 : ∀ x ∈ ([32, 9, 10, 12, 13] : List UInt8), x.toNat < 128 := by decide
    exact h2 b this
end Go.Proofs.YtegcedboeemedaaGreatDoor

/-
Tokens: what the statements lean on: some; Read's tokens as a slice.
-/
namespace Go.Proofs.YtegcedboeemedaaGreatDoor
open Go.RowKit Go.Cl
attribute [local go_sem ↓] Go.wp_at_zero Go.wp_at_succ
theorem tkSome_any (s : ByteArray) (n : Nat) (w : World) (hn : n ≤ 1000000) :
    Calls Tryz.prog 19 #[.string s, .int .i64 n] w fun e w' => (∃ t : ByteArray, e = .returned (.string t) ∧ t.size ≤ n) ∧ w = w' := by
  obtain ⟨k, hk, hk1, hk2, _⟩ := min_nat s.size n (by omega)
  have hkn : k ≤ n := by omega
  go_enter Tryz.func19, Tryz.ntmps19
  go_wp2_with fail
  go_ret
  exact ⟨⟨_, rfl, by simp; omega⟩, rfl⟩
theorem chain_len {l : List Pl} : ∀ {hi : Nat}, ChainP hi l → l.length ≤ hi := by
  induction l with
  | nil => intro hi _; exact Nat.zero_le _
  | cons x l ih =>
    intro hi h
    have := ih h.2.2
    have h1 := h.1
    have h2 := h.2.1
    rw [List.length_cons]
    omega
/-- One token of a slice: its cells. -/
theorem tok_get {w : World} {D : Nat → Prop} {A : Option Addr} {n c : Nat} {xs : List TkP} (h : Sl tTok w D A n c xs) {j : Nat} {x : TkP} (hx : xs[j]? = some x) :
    ∃ b o A2 n2 c2, A = some ⟨b, o, none⟩ ∧ w.cell? ⟨b, o + j * 7, none⟩ = some (.int .i64 x.1.kind) ∧ w.cell? ⟨b, o + j * 7 + 1, none⟩ = some (.string x.1.name) ∧ w.cell? ⟨b, o + j * 7 + 2, none⟩ = some (.slice A2 n2 c2) ∧ w.cell? ⟨b, o + j * 7 + 3, none⟩ = some (.string x.1.text) ∧ w.cell? ⟨b, o + j * 7 + 4, none⟩ = some (.bool x.1.self) ∧ w.cell? ⟨b, o + j * 7 + 5, none⟩ = some (.int .i64 x.2.1) ∧ w.cell? ⟨b, o + j * 7 + 6, none⟩ = some (.int .i64 x.2.2) ∧ Sl tDA w D A2 n2 c2 x.1.attrs := by
  obtain ⟨b, o, cs, e, hD, hrep, hc⟩ := h.get hx
  obtain ⟨A2, n2, c2, rfl, hat⟩ := tok_cells hrep
  exact ⟨b, o, A2, n2, c2, e, hc 0 _ rfl, hc 1 _ rfl, hc 2 _ rfl, hc 3 _ rfl, hc 4 _ rfl, hc 5 _ rfl, hc 6 _ rfl, hat.attrs⟩
end Go.Proofs.YtegcedboeemedaaGreatDoor

/-
All tokens, one behind the other, and the end.
-/
namespace Go.Proofs.YtegcedboeemedaaGreatDoor
open Go.RowKit Go.Cl
attribute [local go_sem ↓] Go.wp_at_zero Go.wp_at_succ
theorem PAt.slr {wt w : World} {X base Bp : Nat} {P : PS} {nV oV iV : Value} {ps : List (Value × Value)} (h : PAt wt w X base Bp P nV oV iV ps) {α : Type} {T : Ty α} {A : Option Addr} {n c : Nat} {l : List α} (hs : Sl T wt (rg Bp wt.heap.size) A n c l) : Sl T w (rg Bp wt.heap.size) A n c l :=
  hs.keep fun p hp => by
    show (match w.heap[p.block]? with | _ => _) = _
    unfold World.cell?
    rw [h.kept p.block hp]
theorem PAt.slb {wt w : World} {X base Bp : Nat} {P : PS} {nV oV iV : Value} {ps : List (Value × Value)} (h : PAt wt w X base Bp P nV oV iV ps) {α : Type} {T : Ty α} {A : Option Addr} {n c : Nat} {l : List α} (hs : Sl T w (rg Bp wt.heap.size) A n c l) : Sl T wt (rg Bp wt.heap.size) A n c l :=
  hs.keep fun p hp => by
    show (match wt.heap[p.block]? with | _ => _) = _
    unfold World.cell?
    rw [h.kept p.block hp]
/-- What is asked of the states that a list of tokens comes through. -/
def OnesC (m : Int) (wt : World) (X base Bp : Nat) (f : Nat) : List Tk → PS → Prop
  | [], _ => True
  | t :: l, P => P.fresh = false ∧ (∀ A n c a z, TkAt wt Bp t A n c → OneC (TakeC m wt X base Bp A n c a z) f t { P with fresh := false }) ∧ ∀ Q, P.one_ f t = some Q → OnesC m wt X base Bp f l Q
set_option maxRecDepth 100000 in
set_option maxHeartbeats 2000000 in
theorem all_at (m : Int) (wt w : World) (X base Bp : Nat) (P : PS) (h : BdAt m wt w X base Bp P) {AL : Option Addr} {nL cL : Nat} {toks : List TkP} (hs : Sl tTok wt (rg Bp wt.heap.size) AL nL cL toks) (hsm : ∀ x ∈ toks, x.1.name.size ≤ 1000000000 ∧ x.1.text.size ≤ 1000000000 ∧ x.1.attrs.length ≤ 1000000000)
    {f : Nat} {R : PS} (hr : P.allO f (toks.map (·.1)) = some R) (hc : OnesC m wt X base Bp f (toks.map (·.1)) P) (hv : ∀ Q, PS.onesO f (toks.map (·.1)) P = some Q → Q.fresh = false ∧ OneC (TakeC m wt X base Bp none 0 0 0 0) f PS.overT { Q with fresh := false }) :
    Calls Tryz.prog 81 #[.pointer (some ⟨X, 0, none⟩), .slice AL nL cL] w fun e w' => e = .returned (.tuple #[]) ∧ BdTo m wt w w' X base Bp R := by
  obtain ⟨R1, hR1⟩ : ∃ R1, PS.onesO f (toks.map (·.1)) P = some R1 := by
    cases e : PS.onesO f (toks.map (·.1)) P with
    | none => unfold PS.allO at hr; rw [e] at hr; cases hr
    | some R1 => exact ⟨R1, rfl⟩
  have HRO := Lib.hid (show R1.one_ f PS.overT = some R from by unfold PS.allO at hr; rw [hR1] at hr; exact hr)
  have HV := Lib.hid (hv R1 hR1)
  have HST : Hid (BdTo m wt w w X base Bp P ∧ PS.onesO f (toks.map (·.1)) P = some R1 ∧ OnesC m wt X base Bp f (toks.map (·.1)) P) := ⟨.refl h, hR1, hc⟩
  have HS := Lib.hid hs
  have HSM := Lib.hid hsm
  have HLN := Lib.hid hs.hn
  have hn1 := hs.small
  clear h hs hsm hr hc hv hR1
  go_enter Tryz.func81, Tryz.ntmps81
  go_wp2_with fail
  go_loopw [8] (fun i wr => ∃ (k : Nat) (Q : PS), k ≤ nL ∧ i = .int .i64 (k : Int) ∧ BdTo m wt w wr X base Bp Q ∧ PS.onesO f ((toks.drop k).map (·.1)) Q = some R1 ∧ OnesC m wt X base Bp f ((toks.drop k).map (·.1)) Q) (fun i _ => nL - (intOf i).toNat)
  case atStart => exact ⟨0, P, Nat.zero_le _, rfl, HST.out.1, HST.out.2.1, HST.out.2.2⟩
  case round =>
    clear HST
    obtain ⟨k, Q, hk, rfl, hto, hrun, hcon⟩ := hrel
    have TR := Lib.hid hto
    by_cases hlt : k < nL
    · obtain ⟨x, hx⟩ : ∃ x, toks[k]? = some x := get_some (by have := HLN.out; omega)
      have hd : toks.drop k = x :: toks.drop (k + 1) := by rw [List.drop_eq_getElem_cons (List.getElem?_eq_some_iff.1 hx).1, (List.getElem?_eq_some_iff.1 hx).2]
      rw [hd, List.map_cons] at hrun hcon
      obtain ⟨Q2, hQ2⟩ : ∃ Q2, Q.one_ f x.1 = some Q2 := by
        cases e : Q.one_ f x.1 with
        | none => rw [PS.onesO, e] at hrun; cases hrun
        | some Q2 => exact ⟨Q2, rfl⟩
      have HRUN := Lib.hid (show PS.onesO f ((toks.drop (k + 1)).map (·.1)) Q2 = some R1 from by rw [PS.onesO, hQ2] at hrun; exact hrun)
      have HCON := Lib.hid (hcon.2.2 Q2 hQ2)
      obtain ⟨nV, oV, iV, ps, hp⟩ := hto.at_.mem
      obtain ⟨b, o, A2, n2, c2, rfl, d0, d1, d2, d3, d4, d5, d6, hat⟩ := tok_get (hp.slr HS.out) hx
      have htk : TkAt wt Bp x.1 A2 n2 c2 := ⟨hp.slb hat, (HSM.out x (List.mem_of_getElem? hx)).1, (HSM.out x (List.mem_of_getElem? hx)).2.1, (HSM.out x (List.mem_of_getElem? hx)).2.2⟩
      have HONE := Lib.hid (fun (v : World) (hv : BdAt m wt v X base Bp Q) => one_at hv (t := x.1) x.2.1 x.2.2 htk.text hcon.1 hQ2 (hcon.2.1 _ _ _ _ _ htk))
      have hb1 : Below wr.heap.size wr (wr.alloc (.cells (tkC7 x.1 A2 n2 c2 x.2.1 x.2.2) 76)) := (Below.refl _ _).alloc (Nat.le_refl _) _
      have T1 := Lib.hid (TR.out.next hb1)
      have hk1 := heap_alloc_new wr (.cells (tkC7 x.1 A2 n2 c2 x.2.1 x.2.2) 76)
      obtain ⟨w1, hw1⟩ : ∃ w1, w1 = wr.alloc (.cells (tkC7 x.1 A2 n2 c2 x.2.1 x.2.2) 76) := ⟨_, rfl⟩
      rw [← hw1] at T1 hk1
      have a_0 := cell_blk (i := 0) (v := .int .i64 x.1.kind) hk1 rfl
      have a_1 := cell_blk (i := 1) (v := .string x.1.name) hk1 rfl
      have a_2 := cell_blk (i := 2) (v := .slice A2 n2 c2) hk1 rfl
      have a_3 := cell_blk (i := 3) (v := .string x.1.text) hk1 rfl
      have a_4 := cell_blk (i := 4) (v := .bool x.1.self) hk1 rfl
      have a_5 := cell_blk (i := 5) (v := .int .i64 x.2.1) hk1 rfl
      have a_6 := cell_blk (i := 6) (v := .int .i64 x.2.2) hk1 rfl
      have j1 : (0 : Int) ≤ (k : Int) := by omega
      have j2 : (k : Int) < (nL : Int) := by omega
      clear hp hat htk hb1 hk1 hx hd hrun hcon hQ2 hto
      go_upto_region 3 with fail
      rw [← hw1]
      clear hw1 d0 d1 d2 d3 d4 d5 d6
      go_wp2_with (go_at_call 116; refine (HONE.out _ T1.out.at_).mono ?_; rintro e w2 ⟨rfl, hb⟩; have T2 := Lib.hid (T1.out.trans hb); clear hb)
      go_roundw
      case rel => exact ⟨k + 1, Q2, by omega, by go_num, T2.out, HRUN.out, HCON.out⟩
      case measure => simp [intOf]; omega
    · obtain rfl : nL = k := by omega
      have he : toks.drop nL = [] := List.drop_of_length_le (by have := HLN.out; omega)
      rw [he] at hrun
      have HQR := Lib.hid (show Q = R1 from Option.some.inj hrun)
      have HONE := Lib.hid (fun (v : World) (hv : BdAt m wt v X base Bp Q) => one_at hv (t := PS.overT) (A := none) (n := 0) (c := 0) 0 0 (Nat.zero_le _) (by rw [HQR.out]; exact HV.out.1) (by rw [HQR.out]; exact HRO.out) (by rw [HQR.out]; exact HV.out.2))
      clear hto hrun hcon he
      go_wp2_with (go_at_call 116; refine (HONE.out _ TR.out.at_).mono ?_; rintro e w2 ⟨rfl, hb⟩; have T2 := Lib.hid (TR.out.trans hb); clear hb)
      exact bodyPost_end (results_none rfl _ _ _) rfl ⟨rfl, T2.out⟩
end Go.Proofs.YtegcedboeemedaaGreatDoor

/-
A parser that has just been made; what lies behind it is read; a document's own first node.
-/
namespace Go.Proofs.YtegcedboeemedaaGreatDoor
open Go.RowKit Go.Cl
attribute [local go_sem ↓] Go.wp_at_zero Go.wp_at_succ
theorem own_to {α : Type} {T : Ty α} {w : World} {base : Nat} {e : TypeId} {D D' : Nat → Prop} {v : Value} {n : Nat} (h : Cl.Own T w base e D v n []) : Cl.Own T w base e D' v n [] := by
  obtain ⟨cells, h1, h2⟩ := h
  exact ⟨cells, h1, h2⟩
section
variable {wt w w' : World} {X base Bp : Nat} {P : PS} {nV oV iV : Value} {ps : List (Value × Value)}
theorem out_low {α : Type} {T : Ty α} {e : TypeId} {D : Nat → Prop} {v : Value} {n : Nat} {xs : List α} (h : Cl.Own T w base e D v n xs) {B : Nat} : OutB w.heap.size B v := fun k hk => .inl (Own.lt h k hk).2
/-- A parser that has just been made, all its rows its own. -/
theorem PAt.begun (hbx : w.heap[X]? = some (.cells (psCells P nV oV (.slice none 0 0)) 88 (0, 0))) (hed : Ed w base nV P.nodes ps) (hop : OwnF (tInt .i64) w base 3 oV P.opens.length P.opens) (hi : P.items = []) (hkids : ∀ (i : Nat) p, ps[i]? = some p → p.2.ownBlock = none) (hX : base ≤ X) :
    PAt w w X base w.heap.size P nV oV (.slice none 0 0) ps :=
  ⟨hbx, hed, hop, by rw [hi]; exact Own.nil _ _ _ _, fun i p hp => .inl (hkids i p hp), out_low hed.row, fun i p hp => by
    obtain ⟨x, hx⟩ : ∃ x, P.nodes[i]? = some x := get_some (by have := (List.getElem?_eq_some_iff.1 hp).1; rw [hed.len] at this; exact this)
    exact ⟨out_low (hed.parts i x p hx hp).attrs, out_low (hed.parts i x p hx hp).kids⟩, out_low hop, OutB.none rfl, fun _ _ => rfl, hX, (Array.getElem?_eq_some_iff.1 hbx).1, Nat.le_trans hX (Nat.le_of_lt (Array.getElem?_eq_some_iff.1 hbx).1), Nat.le_refl _⟩
/-- Something is read behind the parser: from there on it lies between two bounds. -/
theorem PAt.reads (h : PAt wt w X base Bp P nV oV iV ps) (hi : P.items = []) (hb : Below w.heap.size w w') : PAt w' w' X base w.heap.size P nV oV iV ps := by
  have hn := h.next hb
  refine ⟨hn.box, hn.ed, hn.op, ?_, h.opk, out_low h.ed.row, fun i p hp => ?_, out_low h.op, out_low h.it, fun _ _ => rfl, h.hX, h.low, Nat.le_trans h.hX (Nat.le_of_lt h.low), Nat.le_refl _⟩
  · have := hn.it
    rw [hi] at this ⊢
    exact own_to this
  · obtain ⟨x, hx⟩ : ∃ x, P.nodes[i]? = some x := get_some (by have := (List.getElem?_eq_some_iff.1 hp).1; rw [h.ed.len] at this; exact this)
    exact ⟨out_low (h.ed.parts i x p hx hp).attrs, out_low (h.ed.parts i x p hx hp).kids⟩
end
theorem BdAt.reads {m : Int} {wt w w' : World} {X base Bp : Nat} {P : PS} (h : BdAt m wt w X base Bp P) (hi : P.items = []) (hb : Below w.heap.size w w') : BdAt m w' w' X base w.heap.size P := by
  obtain ⟨nV, oV, iV, ps, hp⟩ := h.mem
  exact ⟨⟨nV, oV, iV, ps, hp.reads hi hb⟩, cell_be h.len hb, h.pos⟩
/-- The first node of a document. -/
abbrev nRoot : Nd := ⟨1, ⟨#[]⟩, [], ⟨#[]⟩, -1, []⟩
theorem ed_root {w : World} {base b : Nat} (h : w.heap[b]? = some (.cells #[.int .i64 1, .string ⟨#[]⟩, .slice none 0 0, .string ⟨#[]⟩, .int .i64 (-1), .slice none 0 0] 46 (0, 0))) (hb : base ≤ b) :
    Ed w base (.slice (some ⟨b, 0, none⟩) 1 1) [nRoot] [(.slice none 0 0, .slice none 0 0)] := by
  refine ⟨rfl, by decide, ?_, fun i x p hx hp => ?_, fun i j p q hp hq hij => ?_⟩
  · refine ⟨ndRow nRoot (.slice none 0 0, .slice none 0 0), ⟨rfl, .inr ⟨b, 1, _, rfl, hb, h, Nat.le_refl _, by decide, rfl, rfl⟩⟩, ?_⟩
    exact ⟨ndRow nRoot (.slice none 0 0, .slice none 0 0), [], by simp, ⟨rfl, ndRow_ok ⟨_, _, _, rfl⟩ ⟨_, _, _, rfl⟩⟩, rfl⟩
  · cases i with
    | zero =>
      obtain rfl := Option.some.inj hx
      obtain rfl := Option.some.inj hp
      exact ⟨OwnF.nil _ _ _, OwnF.nil _ _ _, ⟨rfl, Nat.zero_le _, Nat.zero_le _, by decide, Nat.zero_le _, Nat.zero_le _⟩⟩
    | succ i => cases hx
  · cases i with
    | zero =>
      cases j with
      | zero => exact absurd rfl hij
      | succ j => cases hq
    | succ i => cases hp
set_option maxRecDepth 100000 in
theorem newOwn_any (w : World) : Calls Tryz.prog 42 #[] w fun e w' => e = .returned (.agg #[.slice (some ⟨w.heap.size + 1, 0, none⟩) 1 1, .bool false]) ∧ Below w.heap.size w w' ∧ w'.heap.size = w.heap.size + 2 ∧
    w'.heap[w.heap.size + 1]? = some (.cells #[.int .i64 1, .string ⟨#[]⟩, .slice none 0 0, .string ⟨#[]⟩, .int .i64 (-1), .slice none 0 0] 46 (0, 0)) := by
  go_enter Tryz.func42, Tryz.ntmps42
  go_wp2_with fail
  obtain ⟨w1, hw1⟩ : ∃ w1, w1 = w.alloc (.cells #[.slice (some ⟨w.heap.size + 1, 0, none⟩) 1 1, .bool false] 33) := ⟨_, rfl⟩
  have hz1 : w1.heap.size = w.heap.size + 1 := by rw [hw1]; exact World.size_alloc w _
  have hb1 : Below w.heap.size w w1 := by rw [hw1]; exact (Below.refl _ _).alloc (Nat.le_refl _) _
  have hn := heap_alloc_new w1 (.cells #[.int .i64 1, .string ⟨#[]⟩, .slice none 0 0, .string ⟨#[]⟩, .int .i64 (-1), .slice none 0 0] 46)
  refine bodyPost_ret (v := .agg #[.slice (some ⟨w.heap.size + 1, 0, none⟩) 1 1, .bool false]) (by simp [results, Tryz.results42, go_sem]) rfl ⟨rfl, ?_, ?_, ?_⟩
  · rw [← hw1]
    exact hb1.alloc (by omega) _
  · rw [← hw1, World.size_alloc, hz1]
  · rw [← hw1, ← hz1]
    exact hn
end Go.Proofs.YtegcedboeemedaaGreatDoor

/-
The walks of package chars: lead, one.
-/
namespace Go.Proofs.YtegcedboeemedaaGreatDoor
open Go.RowKit Go.Cl

/-- A first byte: how many are behind it, and where the first of these lies; -1: it is none. -/
def leadR (b : Int) : Int × Int × Int :=
  if b < 128 then (0, 128, 191)
  else if 194 ≤ b ∧ b ≤ 223 then (1, 128, 191)
  else if 224 ≤ b ∧ b ≤ 239 then (2, (if b = 224 then 160 else 128), (if b = 237 then 159 else 191))
  else if 240 ≤ b ∧ b ≤ 244 then (3, (if b = 240 then 144 else 128), (if b = 244 then 143 else 191))
  else (-1, 128, 191)

theorem tup3 {v : Ending} {a b c : Int} {r : Int × Int × Int} (h : r = (a, b, c)) (hv : v = .returned (.tuple #[.int .i64 a, .int .u8 b, .int .u8 c])) : v = .returned (.tuple #[.int .i64 r.1, .int .u8 r.2.1, .int .u8 r.2.2]) := by
  subst h
  exact hv

set_option maxRecDepth 100000 in
theorem lead_any (b : UInt8) (w : World) :
    Calls Tryz.prog 108 #[.int .u8 b.toNat] w fun e w' => e = .returned (.tuple #[.int .i64 (leadR b.toNat).1, .int .u8 (leadR b.toNat).2.1, .int .u8 (leadR b.toNat).2.2]) ∧ w = w' := by
  have hb := b.toNat_lt
  generalize b.toNat = n at *
  go_enter Tryz.func108, Tryz.ntmps108
  go_wp2_with fail
  all_goals
    go_ret3
    refine ⟨tup3 (r := leadR n) ?_ rfl, rfl⟩
    try simp only [beq_iff_eq, beq_eq_false_iff_ne, ne_eq] at *
    unfold leadR
    repeat' split
    all_goals first | rfl | (exfalso; omega)

theorem byte_at' {s : ByteArray} {n : Nat} (h : n < s.size) : s.data.toList[n]? = some s[n] := by
  rw [List.getElem?_eq_getElem (by simpa using h)]; rfl
/-- Six more bits. -/
def stepN (n b : Int) : Int := bits BinOp.or IntKind.i32 (wrap32 (n * 64)) (b % 64)
/-- The bytes behind the first one: the sign, and how many of them are taken. -/
def tailR : Nat → List UInt8 → Int → Int → Int → Int × Nat
  | 0, _, _, _, n => (n, 0)
  | _ + 1, [], _, _, _ => (65533, 0)
  | k + 1, b :: r, lo, hi, n => if (b.toNat : Int) < lo ∨ hi < (b.toNat : Int) then (65533, 0) else ((tailR k r 128 191 (stepN n b.toNat)).1, (tailR k r 128 191 (stepN n b.toNat)).2 + 1)
theorem tail_end {k : Nat} {l : List UInt8} {lo hi n : Int} (hk : 0 < k) (hl : l = []) : tailR k l lo hi n = (65533, 0) := by
  obtain ⟨k, rfl⟩ : ∃ j, k = j + 1 := ⟨k - 1, by omega⟩
  rw [hl, tailR]
theorem tail_bad {k j : Nat} {l : List UInt8} {b : UInt8} {lo hi n : Int} (hk : 0 < k) (hb : l[j]? = some b) (h : (b.toNat : Int) < lo ∨ hi < (b.toNat : Int)) : tailR k (l.drop j) lo hi n = (65533, 0) := by
  obtain ⟨k, rfl⟩ : ∃ j, k = j + 1 := ⟨k - 1, by omega⟩
  rw [List.drop_eq_getElem_cons (List.getElem?_eq_some_iff.1 hb).1, (List.getElem?_eq_some_iff.1 hb).2, tailR, if_pos h]
theorem tail_go {k j : Nat} {l : List UInt8} {b : UInt8} {lo hi n : Int} (hk : 0 < k) (hb : l[j]? = some b) (h : ¬ ((b.toNat : Int) < lo ∨ hi < (b.toNat : Int))) : tailR k (l.drop j) lo hi n = ((tailR (k - 1) (l.drop (j + 1)) 128 191 (stepN n b.toNat)).1, (tailR (k - 1) (l.drop (j + 1)) 128 191 (stepN n b.toNat)).2 + 1) := by
  obtain ⟨k, rfl⟩ : ∃ j, k = j + 1 := ⟨k - 1, by omega⟩
  rw [List.drop_eq_getElem_cons (List.getElem?_eq_some_iff.1 hb).1, (List.getElem?_eq_some_iff.1 hb).2, tailR, if_neg h]
  rfl
/-- The bits of a sign in its first byte. -/
def maskN (b m : Int) : Int := bits BinOp.and IntKind.i32 b (if m = 1 then 31 else if m = 2 then 15 else 7)
/-- One sign at the beginning, and how many bytes it is. -/
def oneL (b : UInt8) (r : List UInt8) : Int × Nat :=
  let m := leadR b.toNat
  if m.1 < 0 then (65533, 1) else if m.1 = 0 then ((b.toNat : Int), 1)
  else ((tailR m.1.toNat r m.2.1 m.2.2 (maskN b.toNat m.1)).1, (tailR m.1.toNat r m.2.1 m.2.2 (maskN b.toNat m.1)).2 + 1)
def oneR : List UInt8 → Int × Nat
  | [] => (65533, 1)
  | b :: r => oneL b r
theorem one_eq {s : ByteArray} (h0 : 0 < s.size) : oneR s.data.toList = oneL s[0] (s.data.toList.drop 1) := by
  have h : s.data.toList = s[0] :: s.data.toList.drop 1 := by
    have := List.drop_eq_getElem_cons (l := s.data.toList) (i := 0) (by simpa using h0)
    rw [List.drop_zero] at this
    exact this
  conv => lhs; rw [h]
  rfl
theorem lead_cases (b : Int) : ∃ lo hi, leadR b = (-1, lo, hi) ∨ leadR b = (0, lo, hi) ∨ leadR b = (1, lo, hi) ∨ leadR b = (2, lo, hi) ∨ leadR b = (3, lo, hi) := by
  refine ⟨(leadR b).2.1, (leadR b).2.2, ?_⟩
  unfold leadR
  repeat' split
  all_goals simp

set_option maxHeartbeats 2000000 in
set_option maxRecDepth 100000 in
theorem one_1 (s : ByteArray) (w : World) (h0 : 0 < s.size) (hs : s.size ≤ 1000000000) (lo hi : Int) (hl : leadR s[0].toNat = (1, lo, hi)) :
    Calls Tryz.prog 71 #[.string s] w fun e w' => e = .returned (.tuple #[.int .i32 (oneR s.data.toList).1, .int .i64 (oneR s.data.toList).2]) ∧ ∃ k, w' = w.drewN k := by
  have HL := Lib.hid (fun W => lead_any s[0] W)
  have hb := s[0].toNat_lt
  have HR := Lib.hid (show oneR s.data.toList = ((tailR 1 (s.data.toList.drop 1) lo hi (bits BinOp.and IntKind.i32 s[0].toNat 31)).1, (tailR 1 (s.data.toList.drop 1) lo hi (bits BinOp.and IntKind.i32 s[0].toNat 31)).2 + 1) from by
    rw [one_eq h0, oneL, hl]
    rfl)
  rw [hl] at HL
  clear hl
  go_enter Tryz.func71, Tryz.ntmps71
  go_wp2_with fail
  refine (HL.out _).mono ?_
  rintro e w1 ⟨rfl, rfl⟩
  go_wp2_with fail
  go_quiet (fail)
  go_wp2_with fail
  go_loopw [5, 6, 7, 8] (fun lo' hi' n' i' wr => ∃ (j : Nat) (a b n : Int), 1 ≤ j ∧ j ≤ 1 + 1 ∧ j ≤ s.size ∧ i' = .int .i64 (j : Int) ∧ lo' = .int .u8 a ∧ hi' = .int .u8 b ∧ n' = .int .i32 n ∧ w.drewN nq = wr ∧
    oneR s.data.toList = ((tailR (1 + 1 - j) (s.data.toList.drop j) a b n).1, (tailR (1 + 1 - j) (s.data.toList.drop j) a b n).2 + j)) (fun _ _ _ i _ => 1 + 1 - (intOf i).toNat)
  case atStart => exact ⟨1, lo, hi, _, Nat.le_refl _, by omega, by omega, rfl, rfl, rfl, rfl, rfl, HR.out⟩
  case round =>
    obtain ⟨j, a, b, n, hj1, hj2, hj3, rfl, rfl, rfl, rfl, rfl, he⟩ := hrel
    have HE := Lib.hid he
    clear he HR HL
    by_cases hjm : j ≤ 1
    · by_cases hjs : j < s.size
      · have hbs := s[j].toNat_lt
        by_cases hbad : (s[j].toNat : Int) < a ∨ b < (s[j].toNat : Int)
        · have HV := Lib.hid (HE.out.trans (by rw [tail_bad (by omega) (byte_at' hjs) hbad]))
          rcases hbad with hbad | hbad
          · go_wp2_with fail
            go_ret2
            exact ⟨by rw [HV.out]; simp, _, rfl⟩
          · by_cases hbad2 : (s[j].toNat : Int) < a
            · go_wp2_with fail
              go_ret2
              exact ⟨by rw [HV.out]; simp, _, rfl⟩
            · go_wp2_with fail
              go_ret2
              exact ⟨by rw [HV.out]; simp, _, rfl⟩
        · have HV := Lib.hid (HE.out.trans (by rw [tail_go (by omega) (byte_at' hjs) hbad]))
          have hb1 : ¬ (s[j].toNat : Int) < a := fun h => hbad (Or.inl h)
          have hb2 : ¬ b < (s[j].toNat : Int) := fun h => hbad (Or.inr h)
          clear hbad
          go_wp2_with fail
          go_roundw
          case rel => exact ⟨j + 1, 128, 191, _, by omega, by omega, by omega, by go_num, rfl, rfl, rfl, by first | trivial | rfl, HV.out.trans (by rw [show 1 + 1 - j - 1 = 1 + 1 - (j + 1) by omega]; exact Prod.ext rfl ((Nat.add_assoc _ 1 j).trans (congrArg (fun y => _ + y) (Nat.add_comm 1 j))))⟩
          case measure => simp [intOf]; omega
      · have HV := Lib.hid (HE.out.trans (by rw [tail_end (by omega) (List.drop_eq_nil_of_le (by simp; omega))]))
        have hje : ((j : Int) == (s.size : Int)) = true := by first | (simp; done) | (simp; omega)
        go_wp2_with fail
        go_ret2
        exact ⟨by rw [HV.out]; first | (simp; done) | (simp; omega), _, rfl⟩
    · obtain rfl : j = 1 + 1 := by omega
      have HV := Lib.hid (show oneR s.data.toList = (n, 1 + 1) from HE.out.trans (by rw [Nat.sub_self, tailR, Nat.zero_add]))
      go_wp2_with fail
      go_ret2
      exact ⟨by first | (rw [HV.out]; done) | (rw [HV.out]; rfl) | (rw [HV.out]; simp; done), _, rfl⟩

set_option maxHeartbeats 2000000 in
set_option maxRecDepth 100000 in
theorem one_2 (s : ByteArray) (w : World) (h0 : 0 < s.size) (hs : s.size ≤ 1000000000) (lo hi : Int) (hl : leadR s[0].toNat = (2, lo, hi)) :
    Calls Tryz.prog 71 #[.string s] w fun e w' => e = .returned (.tuple #[.int .i32 (oneR s.data.toList).1, .int .i64 (oneR s.data.toList).2]) ∧ ∃ k, w' = w.drewN k := by
  have HL := Lib.hid (fun W => lead_any s[0] W)
  have hb := s[0].toNat_lt
  have HR := Lib.hid (show oneR s.data.toList = ((tailR 2 (s.data.toList.drop 1) lo hi (bits BinOp.and IntKind.i32 s[0].toNat 15)).1, (tailR 2 (s.data.toList.drop 1) lo hi (bits BinOp.and IntKind.i32 s[0].toNat 15)).2 + 1) from by
    rw [one_eq h0, oneL, hl]
    rfl)
  rw [hl] at HL
  clear hl
  go_enter Tryz.func71, Tryz.ntmps71
  go_wp2_with fail
  refine (HL.out _).mono ?_
  rintro e w1 ⟨rfl, rfl⟩
  go_wp2_with fail
  go_quiet (fail)
  go_wp2_with fail
  go_loopw [5, 6, 7, 8] (fun lo' hi' n' i' wr => ∃ (j : Nat) (a b n : Int), 1 ≤ j ∧ j ≤ 2 + 1 ∧ j ≤ s.size ∧ i' = .int .i64 (j : Int) ∧ lo' = .int .u8 a ∧ hi' = .int .u8 b ∧ n' = .int .i32 n ∧ w.drewN nq = wr ∧
    oneR s.data.toList = ((tailR (2 + 1 - j) (s.data.toList.drop j) a b n).1, (tailR (2 + 1 - j) (s.data.toList.drop j) a b n).2 + j)) (fun _ _ _ i _ => 2 + 1 - (intOf i).toNat)
  case atStart => exact ⟨1, lo, hi, _, Nat.le_refl _, by omega, by omega, rfl, rfl, rfl, rfl, rfl, HR.out⟩
  case round =>
    obtain ⟨j, a, b, n, hj1, hj2, hj3, rfl, rfl, rfl, rfl, rfl, he⟩ := hrel
    have HE := Lib.hid he
    clear he HR HL
    by_cases hjm : j ≤ 2
    · by_cases hjs : j < s.size
      · have hbs := s[j].toNat_lt
        by_cases hbad : (s[j].toNat : Int) < a ∨ b < (s[j].toNat : Int)
        · have HV := Lib.hid (HE.out.trans (by rw [tail_bad (by omega) (byte_at' hjs) hbad]))
          rcases hbad with hbad | hbad
          · go_wp2_with fail
            go_ret2
            exact ⟨by rw [HV.out]; simp, _, rfl⟩
          · by_cases hbad2 : (s[j].toNat : Int) < a
            · go_wp2_with fail
              go_ret2
              exact ⟨by rw [HV.out]; simp, _, rfl⟩
            · go_wp2_with fail
              go_ret2
              exact ⟨by rw [HV.out]; simp, _, rfl⟩
        · have HV := Lib.hid (HE.out.trans (by rw [tail_go (by omega) (byte_at' hjs) hbad]))
          have hb1 : ¬ (s[j].toNat : Int) < a := fun h => hbad (Or.inl h)
          have hb2 : ¬ b < (s[j].toNat : Int) := fun h => hbad (Or.inr h)
          clear hbad
          go_wp2_with fail
          go_roundw
          case rel => exact ⟨j + 1, 128, 191, _, by omega, by omega, by omega, by go_num, rfl, rfl, rfl, by first | trivial | rfl, HV.out.trans (by rw [show 2 + 1 - j - 1 = 2 + 1 - (j + 1) by omega]; exact Prod.ext rfl ((Nat.add_assoc _ 1 j).trans (congrArg (fun y => _ + y) (Nat.add_comm 1 j))))⟩
          case measure => simp [intOf]; omega
      · have HV := Lib.hid (HE.out.trans (by rw [tail_end (by omega) (List.drop_eq_nil_of_le (by simp; omega))]))
        have hje : ((j : Int) == (s.size : Int)) = true := by first | (simp; done) | (simp; omega)
        go_wp2_with fail
        go_ret2
        exact ⟨by rw [HV.out]; first | (simp; done) | (simp; omega), _, rfl⟩
    · obtain rfl : j = 2 + 1 := by omega
      have HV := Lib.hid (show oneR s.data.toList = (n, 2 + 1) from HE.out.trans (by rw [Nat.sub_self, tailR, Nat.zero_add]))
      go_wp2_with fail
      go_ret2
      exact ⟨by first | (rw [HV.out]; done) | (rw [HV.out]; rfl) | (rw [HV.out]; simp; done), _, rfl⟩

set_option maxHeartbeats 2000000 in
set_option maxRecDepth 100000 in
theorem one_3 (s : ByteArray) (w : World) (h0 : 0 < s.size) (hs : s.size ≤ 1000000000) (lo hi : Int) (hl : leadR s[0].toNat = (3, lo, hi)) :
    Calls Tryz.prog 71 #[.string s] w fun e w' => e = .returned (.tuple #[.int .i32 (oneR s.data.toList).1, .int .i64 (oneR s.data.toList).2]) ∧ ∃ k, w' = w.drewN k := by
  have HL := Lib.hid (fun W => lead_any s[0] W)
  have hb := s[0].toNat_lt
  have HR := Lib.hid (show oneR s.data.toList = ((tailR 3 (s.data.toList.drop 1) lo hi (bits BinOp.and IntKind.i32 s[0].toNat 7)).1, (tailR 3 (s.data.toList.drop 1) lo hi (bits BinOp.and IntKind.i32 s[0].toNat 7)).2 + 1) from by
    rw [one_eq h0, oneL, hl]
    rfl)
  rw [hl] at HL
  clear hl
  go_enter Tryz.func71, Tryz.ntmps71
  go_wp2_with fail
  refine (HL.out _).mono ?_
  rintro e w1 ⟨rfl, rfl⟩
  go_wp2_with fail
  go_quiet (fail)
  go_wp2_with fail
  go_loopw [5, 6, 7, 8] (fun lo' hi' n' i' wr => ∃ (j : Nat) (a b n : Int), 1 ≤ j ∧ j ≤ 3 + 1 ∧ j ≤ s.size ∧ i' = .int .i64 (j : Int) ∧ lo' = .int .u8 a ∧ hi' = .int .u8 b ∧ n' = .int .i32 n ∧ w.drewN nq = wr ∧
    oneR s.data.toList = ((tailR (3 + 1 - j) (s.data.toList.drop j) a b n).1, (tailR (3 + 1 - j) (s.data.toList.drop j) a b n).2 + j)) (fun _ _ _ i _ => 3 + 1 - (intOf i).toNat)
  case atStart => exact ⟨1, lo, hi, _, Nat.le_refl _, by omega, by omega, rfl, rfl, rfl, rfl, rfl, HR.out⟩
  case round =>
    obtain ⟨j, a, b, n, hj1, hj2, hj3, rfl, rfl, rfl, rfl, rfl, he⟩ := hrel
    have HE := Lib.hid he
    clear he HR HL
    by_cases hjm : j ≤ 3
    · by_cases hjs : j < s.size
      · have hbs := s[j].toNat_lt
        by_cases hbad : (s[j].toNat : Int) < a ∨ b < (s[j].toNat : Int)
        · have HV := Lib.hid (HE.out.trans (by rw [tail_bad (by omega) (byte_at' hjs) hbad]))
          rcases hbad with hbad | hbad
          · go_wp2_with fail
            go_ret2
            exact ⟨by rw [HV.out]; simp, _, rfl⟩
          · by_cases hbad2 : (s[j].toNat : Int) < a
            · go_wp2_with fail
              go_ret2
              exact ⟨by rw [HV.out]; simp, _, rfl⟩
            · go_wp2_with fail
              go_ret2
              exact ⟨by rw [HV.out]; simp, _, rfl⟩
        · have HV := Lib.hid (HE.out.trans (by rw [tail_go (by omega) (byte_at' hjs) hbad]))
          have hb1 : ¬ (s[j].toNat : Int) < a := fun h => hbad (Or.inl h)
          have hb2 : ¬ b < (s[j].toNat : Int) := fun h => hbad (Or.inr h)
          clear hbad
          go_wp2_with fail
          go_roundw
          case rel => exact ⟨j + 1, 128, 191, _, by omega, by omega, by omega, by go_num, rfl, rfl, rfl, by first | trivial | rfl, HV.out.trans (by rw [show 3 + 1 - j - 1 = 3 + 1 - (j + 1) by omega]; exact Prod.ext rfl ((Nat.add_assoc _ 1 j).trans (congrArg (fun y => _ + y) (Nat.add_comm 1 j))))⟩
          case measure => simp [intOf]; omega
      · have HV := Lib.hid (HE.out.trans (by rw [tail_end (by omega) (List.drop_eq_nil_of_le (by simp; omega))]))
        have hje : ((j : Int) == (s.size : Int)) = true := by first | (simp; done) | (simp; omega)
        go_wp2_with fail
        go_ret2
        exact ⟨by rw [HV.out]; first | (simp; done) | (simp; omega), _, rfl⟩
    · obtain rfl : j = 3 + 1 := by omega
      have HV := Lib.hid (show oneR s.data.toList = (n, 3 + 1) from HE.out.trans (by rw [Nat.sub_self, tailR, Nat.zero_add]))
      go_wp2_with fail
      go_ret2
      exact ⟨by first | (rw [HV.out]; done) | (rw [HV.out]; rfl) | (rw [HV.out]; simp; done), _, rfl⟩

set_option maxRecDepth 100000 in
theorem chOne_any (s : ByteArray) (w : World) (h0 : 0 < s.size) (hs : s.size ≤ 1000000000) :
    Calls Tryz.prog 71 #[.string s] w fun e w' => e = .returned (.tuple #[.int .i32 (oneR s.data.toList).1, .int .i64 (oneR s.data.toList).2]) ∧ ∃ k, w' = w.drewN k := by
  have HL := Lib.hid (fun W => lead_any s[0] W)
  have hb := s[0].toNat_lt
  obtain ⟨lo, hi, hl | hl | hl | hl | hl⟩ := lead_cases s[0].toNat
  · have HR := Lib.hid (show oneR s.data.toList = (65533, 1) from by rw [one_eq h0, oneL, hl]; rfl)
    rw [hl] at HL
    clear hl
    go_enter Tryz.func71, Tryz.ntmps71
    go_wp2_with fail
    refine (HL.out _).mono ?_
    rintro e w1 ⟨rfl, rfl⟩
    go_wp2_with fail
    go_ret2
    exact ⟨by rw [HR.out]; rfl, 0, rfl⟩
  · have HR := Lib.hid (show oneR s.data.toList = ((s[0].toNat : Int), 1) from by rw [one_eq h0, oneL, hl]; rfl)
    rw [hl] at HL
    clear hl
    go_enter Tryz.func71, Tryz.ntmps71
    go_wp2_with fail
    refine (HL.out _).mono ?_
    rintro e w1 ⟨rfl, rfl⟩
    go_wp2_with fail
    go_ret2
    exact ⟨by rw [HR.out]; rfl, 0, rfl⟩
  · exact one_1 s w h0 hs lo hi hl
  · exact one_2 s w h0 hs lo hi hl
  · exact one_3 s w h0 hs lo hi hl
end Go.Proofs.YtegcedboeemedaaGreatDoor

/-
The iterator chars.signs: its contract for whatever loop body.
-/
namespace Go.Proofs.YtegcedboeemedaaGreatDoor
open Go.RowKit Go.Cl Go.Shelf
attribute [local go_sem] Oper.semAt_some

/-- A place, and a sign. -/
abbrev Sg := { x : Int × Int // (Lit.int .i32 x.2).wf = true }
theorem tail_wf (k : Nat) : ∀ (l : List UInt8) (lo hi n : Int), (Lit.int .i32 n).wf = true → (Lit.int .i32 (tailR k l lo hi n).1).wf = true := by
  induction k with
  | zero => intro l lo hi n h; exact h
  | succ k ih =>
    intro l lo hi n h
    cases l with
    | nil => rw [tailR]; decide +kernel
    | cons b r =>
      rw [tailR]
      split
      · decide +kernel
      · exact ih r _ _ _ (wf_bits _ _ _ _)
theorem tail_le (k : Nat) : ∀ (l : List UInt8) (lo hi n : Int), (tailR k l lo hi n).2 ≤ l.length := by
  induction k with
  | zero => intro l lo hi n; exact Nat.zero_le _
  | succ k ih =>
    intro l lo hi n
    cases l with
    | nil => exact Nat.le_refl _
    | cons b r =>
      rw [tailR]
      split
      · exact Nat.zero_le _
      · have := ih r 128 191 (stepN n b.toNat)
        simp only [List.length_cons]
        omega
theorem wf_small {x : Int} (h0 : 0 ≤ x) (h1 : x < 256) : (Lit.int .i32 x).wf = true := by
  have h1 : IntKind.i32.min = -2147483648 := by decide
  have h2 : IntKind.i32.max = 2147483647 := by decide
  simp [Lit.wf, h1, h2]
  omega
theorem mask_wf (b m : Int) : (Lit.int .i32 (maskN b m)).wf = true := by
  unfold maskN
  exact wf_bits _ _ _ _
theorem wf_wrong : (Lit.int .i32 65533).wf = true := by decide +kernel
theorem one_wf (l : List UInt8) : (Lit.int .i32 (oneR l).1).wf = true := by
  cases l with
  | nil => exact wf_wrong
  | cons b r =>
    show (Lit.int .i32 (oneL b r).1).wf = true
    unfold oneL
    dsimp only
    split
    · exact wf_wrong
    · split
      · have hb := b.toNat_lt
        exact wf_small (by omega) (by show (b.toNat : Int) < 256; omega)
      · have h := tail_wf (leadR b.toNat).1.toNat r (leadR b.toNat).2.1 (leadR b.toNat).2.2 (maskN b.toNat (leadR b.toNat).1) (mask_wf _ _)
        generalize tailR (leadR b.toNat).1.toNat r (leadR b.toNat).2.1 (leadR b.toNat).2.2 (maskN b.toNat (leadR b.toNat).1) = q at *
        exact h
theorem one_le {l : List UInt8} (h : 0 < l.length) : 1 ≤ (oneR l).2 ∧ (oneR l).2 ≤ l.length := by
  cases l with
  | nil => cases h
  | cons b r =>
    show 1 ≤ (oneL b r).2 ∧ (oneL b r).2 ≤ r.length + 1
    unfold oneL
    dsimp only
    split
    · exact ⟨Nat.le_refl _, by show 1 ≤ _; omega⟩
    · split
      · exact ⟨Nat.le_refl _, by show 1 ≤ _; omega⟩
      · have := tail_le (leadR b.toNat).1.toNat r (leadR b.toNat).2.1 (leadR b.toNat).2.2 (maskN b.toNat (leadR b.toNat).1)
        show 1 ≤ _ + 1 ∧ _ + 1 ≤ r.length + 1
        omega
/-- The signs of a text. -/
def signsN : Nat → Nat → List UInt8 → List Sg
  | 0, _, _ => []
  | f + 1, k, l => if l.length = 0 then [] else ⟨((k : Int), (oneR l).1), one_wf l⟩ :: signsN f (k + (oneR l).2) (l.drop (oneR l).2)
theorem signsN_more (f : Nat) : ∀ (g k : Nat) (l : List UInt8), l.length ≤ f → l.length ≤ g → signsN f k l = signsN g k l := by
  induction f with
  | zero =>
    intro g k l h hg
    cases g with
    | zero => rfl
    | succ g => rw [signsN, signsN, if_pos (by omega)]
  | succ f ih =>
    intro g k l h hg
    by_cases h0 : l.length = 0
    · rw [signsN, if_pos h0]
      cases g with
      | zero => rfl
      | succ g => rw [signsN, if_pos h0]
    · obtain ⟨g', rfl⟩ : ∃ j, g = j + 1 := ⟨g - 1, by omega⟩
      have hs := one_le (l := l) (by omega)
      have hd : (l.drop (oneR l).2).length = l.length - (oneR l).2 := List.length_drop
      rw [signsN, if_neg h0, signsN, if_neg h0, ih g' _ _ (by omega) (by omega)]
def signsL (k : Nat) (l : List UInt8) : List Sg := signsN l.length k l
theorem signs_step {k : Nat} {l : List UInt8} (h : 0 < l.length) : signsL k l = ⟨((k : Int), (oneR l).1), one_wf l⟩ :: signsL (k + (oneR l).2) (l.drop (oneR l).2) := by
  obtain ⟨f, hf⟩ : ∃ f, l.length = f + 1 := ⟨l.length - 1, by omega⟩
  have hs := one_le h
  have hd : (l.drop (oneR l).2).length = l.length - (oneR l).2 := List.length_drop
  unfold signsL
  rw [hf, signsN, if_neg (by omega), signsN_more f (l.drop (oneR l).2).length _ _ (by omega) (Nat.le_refl _)]
theorem signs_end {k : Nat} {l : List UInt8} (h : l.length = 0) : signsL k l = [] := by
  unfold signsL
  rw [h]
  rfl
/-- What a round keeps: the text's own cell. -/
def Kept (Bs : Nat) (W W' : World) : Prop := W'.cell? ⟨Bs, 0, none⟩ = W.cell? ⟨Bs, 0, none⟩

set_option maxRecDepth 100000 in
set_option maxHeartbeats 2000000 in
theorem signs1_in (n : Nat) (hn : 1 ≤ n) (l Bs : Nat) (s : ByteArray) (hs : s.size ≤ 1000000000) (J Jx : List Sg → World → Prop) (W : World) (hJ : AbidesFrom W.heap.size J)
    (hY : ∀ pre (x : Sg) W1, J pre W1 → pre.length < s.size → YieldAt Fence.wide (n - 1) Tryz.prog l #[.int .i64 x.1.1, .int .i32 x.1.2] W1 fun e W' =>
      (e = .returned (.bool true) ∧ J (pre ++ [x]) W' ∧ Kept Bs W1 W') ∨ (e = .returned (.bool false) ∧ Jx (pre ++ [x]) W'))
    (hBs : W.cell? ⟨Bs, 0, none⟩ = some (.string s)) (h0 : J [] W) :
    CallsIn Fence.wide n Tryz.prog 70 #[.func (.yield l) #[] #[], .pointer (some ⟨Bs, 0, none⟩)] W fun e W' => (∃ v, e = .returned v) ∧
      ((∃ ys, ys = signsL 0 s.data.toList ∧ J ys W') ∨ (∃ pre, pre <+: signsL 0 s.data.toList ∧ Jx pre W')) := by
  have hlen : s.data.toList.length = s.size := by simp
  refine callsIn_of_wp Tryz.func70 rfl trivial ?_ rfl
  simp only [Tryz.ntmps70, List.size_toArray, List.length_cons, List.length_nil, Nat.reduceAdd, Nat.reduceSub, Array.replicate_succ, Array.replicate_zero, List.push_toArray, List.append_toArray, List.nil_append, List.cons_append]
  gi_wp2
  gi_loopw [3, 4, 5, 10] (fun i _ _ _ wr => ∃ (k : Nat) (pre : List Sg), k ≤ s.size ∧ i = .int .i64 (k : Int) ∧ pre.length ≤ k ∧ signsL 0 s.data.toList = pre ++ signsL k (s.data.toList.drop k) ∧ J pre wr ∧ wr.cell? ⟨Bs, 0, none⟩ = some (.string s))
    (fun i _ _ _ _ => s.size - (intOf i).toNat)
  case atStart => exact ⟨0, [], Nat.zero_le _, rfl, Nat.le_refl _, rfl, h0, hBs⟩
  case round =>
    obtain ⟨k, pre, hk, rfl, hpk, he, hJs, hc⟩ := hrel
    by_cases hlt : k < s.size
    · have hdl : (s.data.toList.drop k).length = s.size - k := by rw [List.length_drop, hlen]
      have hone := one_le (l := s.data.toList.drop k) (by omega)
      have hx : (s.extract k s.size).data.toList = s.data.toList.drop k := by
        rw [ByteArray.data_extract, Array.toList_extract, List.extract_eq_take_drop]
        exact List.take_of_length_le (by omega)
      have hxs : (s.extract k s.size).size = s.size - k := by rw [ByteArray.size_extract]; omega
      have HO := Lib.hid (fun W => chOne_any (s.extract k s.size) W (by omega) (by omega))
      rw [hx] at HO
      gi_wp2
      refine ⟨trivial, callsIn_wide.2 ((HO.out _).mono ?_)⟩
      rintro e w2 ⟨rfl, m, rfl⟩
      have hJ2 : J pre (wr.drewN m) := hJ pre wr _ none hJs ⟨rfl, rfl, rfl, Nat.le_refl _, fun _ _ _ => rfl⟩ (fun r e => by cases e)
      have hc2 : (wr.drewN m).cell? ⟨Bs, 0, none⟩ = some (.string s) := hc
      have HST := Lib.hid (he.trans (by rw [signs_step (k := k) (by omega), List.drop_drop]))
      obtain ⟨fn, tmps, assign, body, hy, hR⟩ := hY pre ⟨((k : Int), (oneR (s.data.toList.drop k)).1), one_wf _⟩ (wr.drewN m) hJ2 (by omega)
      dsimp only at hy
      clear he hx HO
      gi_wp2
      refine hR.mono ?_
      rintro e W3 (⟨rfl, hJ3, hk3⟩ | ⟨rfl, hJx3⟩)
      · have hc3 : W3.cell? ⟨Bs, 0, none⟩ = some (.string s) := hk3.trans hc2
        gi_wp2
        go_roundw
        case rel => exact ⟨k + (oneR (s.data.toList.drop k)).2, pre ++ [⟨((k : Int), (oneR (s.data.toList.drop k)).1), one_wf _⟩], by omega, by go_num, by rw [List.length_append]; show _ + 1 ≤ _; omega, HST.out.trans (by rw [List.append_assoc]; rfl), hJ3, hc3⟩
        case measure => simp [intOf]; omega
      · gi_wp2
        refine bodyPost_ret (results_none rfl _ _ _) rfl ?_
        exact ⟨⟨_, rfl⟩, .inr ⟨_, by rw [HST.out]; exact ⟨_, by rw [List.append_assoc]; rfl⟩, hJx3⟩⟩
    · have HST := Lib.hid (he.trans (by rw [signs_end (by rw [List.length_drop, hlen]; omega), List.append_nil]))
      clear he
      gi_wp2
      go_end0
      exact ⟨⟨_, rfl⟩, .inl ⟨_, HST.out.symm, hJs⟩⟩
end Go.Proofs.YtegcedboeemedaaGreatDoor

/-
The walks of package chars: signs, Clean.
-/
namespace Go.Proofs.YtegcedboeemedaaGreatDoor
open Go.RowKit Go.Cl Go.Shelf
attribute [local go_sem] Oper.semAt_some

theorem signs_any (s : ByteArray) (w : World) :
    Calls Tryz.prog 33 #[.string s] w fun e w' => e = .returned (.func (.func 70) #[] #[.pointer (some ⟨w.heap.size, 0, none⟩)]) ∧ w' = w.alloc (.cells #[.string s] 9) := by
  go_enter Tryz.func33, Tryz.ntmps33
  go_wp2_with fail
  go_ret
  exact ⟨rfl, rfl⟩

theorem signs_stops (n : Nat) (hn : 1 ≤ n) (Bs : Nat) (s : ByteArray) (hs : s.size ≤ 1000000000) (w : World) (hBs : Bs < w.heap.size) (hc : w.cell? ⟨Bs, 0, none⟩ = some (.string s)) :
    SeqStopsK Fence.wide n Tryz.prog 70 #[.pointer (some ⟨Bs, 0, none⟩)] (fun x : Sg => #[Value.int .i64 x.1.1, Value.int .i32 x.1.2]) (Kept Bs) (fun ys => ys = signsL 0 s.data.toList) (fun pre => pre <+: signsL 0 s.data.toList) s.size w :=
  fun l J Jx W hW hJ _ hY h0 => signs1_in n hn l Bs s hs J Jx W hJ hY ((hW.cell (p := ⟨Bs, 0, none⟩) hBs).trans hc) h0

theorem kept_t {Bs : Nat} {A B C : World} (h : Kept Bs A B) (k : Kept Bs B C) : Kept Bs A C := Eq.trans k h
theorem kept_b {Bs : Nat} {w : World} (hB : Bs < w.heap.size) (W : World) (l : Nat) (o o' : Obj) (hl : w.heap.size ≤ l) (_ : W.heap[l]? = some o) (_ : o.isCells = false) (_ : o.isWalk = false) : Kept Bs W (W.putObj l o') := by
  have hg := grownBy_putObj' W l o'
  show (W.putObj l o').cell? ⟨Bs, 0, none⟩ = W.cell? ⟨Bs, 0, none⟩
  exact World.cell?_of_block (a := ⟨Bs, 0, none⟩) (World.putObj_heap_other (by show Bs ≠ l; omega))

/-- What Clean writes for a sign, behind what was last. -/
def cleanB (last r : Int) : List UInt8 := if r = 0 then Lib.encodeRune 65533 else if r = 13 ∨ (r = 10 ∧ last ≠ 13) then [10] else if r ≠ 10 then Lib.encodeRune r else []
def cleanS (a : List UInt8 × Int) (x : Sg) : List UInt8 × Int := (a.1 ++ cleanB a.2 x.1.2, x.1.2)
def cleanL (l : List Sg) : List UInt8 × Int := l.foldl cleanS ([], 0)
theorem clean_snoc (l : List Sg) (x : Sg) : cleanL (l ++ [x]) = ((cleanL l).1 ++ cleanB (cleanL l).2 x.1.2, x.1.2) := by
  unfold cleanL
  rw [List.foldl_append]
  rfl
theorem cleanB_le (a b : Int) : (cleanB a b).length ≤ 4 := by
  unfold cleanB
  split
  · exact enc_rune_le _
  · split
    · show 1 ≤ 4; omega
    · split
      · exact enc_rune_le _
      · exact Nat.zero_le _
theorem clean_le (l : List Sg) : (cleanL l).1.length ≤ 4 * l.length := by
  have h : ∀ (l : List Sg) (a : List UInt8 × Int), (l.foldl cleanS a).1.length ≤ a.1.length + 4 * l.length := by
    intro l
    induction l with
    | nil => intro a; exact Nat.le_refl _
    | cons x l ih =>
      intro a
      have h1 := ih (cleanS a x)
      have h2 : (cleanS a x).1.length ≤ a.1.length + 4 := by
        show (a.1 ++ cleanB a.2 x.1.2).length ≤ _
        rw [List.length_append]
        have := cleanB_le a.2 x.1.2
        omega
      simp only [List.foldl_cons, List.length_cons]
      omega
  have := h l ([], 0)
  unfold cleanL
  simpa using this

theorem keeps_of {W W' : World} (h : Spares W W') : KeepsOthers W W' := ⟨h.size, fun k o hk ho => h.same k o hk (fun cs t fr e => by subst e; cases ho)⟩
theorem bld_grown {B b : Nat} {l : List Value} {w w' : World} {row : Option Nat} (h : Bld B b l w) (hg : w.grownBy w' row) (hr : ∀ r, row = some r → ∃ o : Obj, w.heap[r]? = some o ∧ o.isCells = false) : Bld B b l w' := by
  have hne : ∀ (k : Nat) (cs : Array Value) (t : TypeId) (fr : Nat × Nat), w.heap[k]? = some (.cells cs t fr) → some k ≠ row := fun k cs t fr hk e => by
    obtain ⟨o, ho, hc⟩ := hr k e.symm
    rw [hk] at ho
    obtain rfl := Option.some.inj ho
    cases hc
  have hn : ∀ v : Value, ∀ n xs, w.ownsRow B 5 1 v n xs → v.ownBlock = none ∨ v.ownBlock ≠ row := fun v n xs ho => by
    rcases ho.2 with ⟨rfl, _⟩ | ⟨g, cap, cur, rfl, _, hgc, _⟩
    · exact Or.inl rfl
    · exact Or.inr (hne g _ _ _ hgc)
  rcases h with ⟨hB, v, hbk, hown, hv⟩ | ⟨hB, v, hbk, hown, hv⟩
  · exact Or.inl ⟨hB, v, (hg.block b (Lib.BuilderAt.lt ⟨hB, v, hbk, hown, hv⟩) (hne b _ _ _ hbk)).trans hbk, hown.kept hg (hn v _ _ hown), hv⟩
  · exact Or.inr ⟨hB, v, (hg.block b (Lib.BuilderAt.lt ⟨hB, v, hbk, hown, hv⟩) (hne b _ _ _ hbk)).trans hbk, hown.kept hg (hn v _ _ hown), hv⟩
theorem cells_grown {w w' : World} {row : Option Nat} {k : Nat} {cs : Array Value} {t : TypeId} {fr : Nat × Nat} (h : w.heap[k]? = some (.cells cs t fr)) (hg : w.grownBy w' row) (hr : ∀ r, row = some r → ∃ o : Obj, w.heap[r]? = some o ∧ o.isCells = false) : w'.heap[k]? = some (.cells cs t fr) := by
  refine (hg.block k (Array.getElem?_eq_some_iff.1 h).1 fun e => ?_).trans h
  obtain ⟨o, ho, hc⟩ := hr k e.symm
  rw [h] at ho
  obtain rfl := Option.some.inj ho
  cases hc
end Go.Proofs.YtegcedboeemedaaGreatDoor

/-
The walk of package chars: Clean.
-/
namespace Go.Proofs.YtegcedboeemedaaGreatDoor
open Go.RowKit Go.Cl Go.Shelf
attribute [local go_sem] Oper.semAt_some

/-- Between two rounds of Clean. -/
def CleanI (w : World) (s : ByteArray) (pre : List Sg) (W : World) : Prop :=
  Bld w.heap.size w.heap.size (Lib.byteCells (cleanL pre).1) W ∧ W.heap[w.heap.size + 1]? = some (.cells #[.int .i32 (cleanL pre).2] 21 (0, 0)) ∧ W.heap[w.heap.size + 2]? = some (.cells #[.string s] 9 (0, 0)) ∧ Below w.heap.size w W
theorem cleanI_own (w : World) (s : ByteArray) (B : Nat) (hB : w.heap.size ≤ B) : OwnFrom B (CleanI w s) := fun pre W W' row hs hg hr => by
  have hr' : ∀ r, row = some r → ∃ o : Obj, W.heap[r]? = some o ∧ o.isCells = false := fun r e => (hr r e).2
  exact ⟨bld_grown hs.1 hg hr', cells_grown hs.2.1 hg hr', cells_grown hs.2.2.1 hg hr', hs.2.2.2.grown hg hs.2.2.2.size (fun k e => Nat.le_trans hB (hr k e).1)⟩

theorem cleanI_put {w W W2 : World} {s : ByteArray} {pre : List Sg} (hI : CleanI w s pre W) (x : Sg) (hb : Bld w.heap.size w.heap.size (Lib.byteCells (cleanL (pre ++ [x])).1) W2) (hs : Spares W W2) (hbl : Below w.heap.size W W2) :
    KeepsOthers W (W2.setCell ⟨w.heap.size + 1, 0, none⟩ (.int .i32 x.1.2)) ∧ Kept (w.heap.size + 2) W (W2.setCell ⟨w.heap.size + 1, 0, none⟩ (.int .i32 x.1.2)) ∧ CleanI w s (pre ++ [x]) (W2.setCell ⟨w.heap.size + 1, 0, none⟩ (.int .i32 x.1.2)) := by
  have hl := hs.same _ _ hI.2.1 (fun cs t fr e => by cases e; decide)
  have ht := hs.same _ _ hI.2.2.1 (fun cs t fr e => by cases e; decide)
  have ht' : (W2.setCell ⟨w.heap.size + 1, 0, none⟩ (.int .i32 x.1.2)).heap[w.heap.size + 2]? = some (.cells #[.string s] 9 (0, 0)) :=
    (Below.heap_setCell W2 ⟨w.heap.size + 1, 0, none⟩ _ _ (by intro e; have e' : w.heap.size + 2 = w.heap.size + 1 := e; omega)).trans ht
  have hg : W2.grownBy (W2.setCell ⟨w.heap.size + 1, 0, none⟩ (.int .i32 x.1.2)) (some (w.heap.size + 1)) :=
    ⟨rfl, rfl, rfl, by simp [World.setCell], fun k _ hk => Below.heap_setCell W2 ⟨w.heap.size + 1, 0, none⟩ _ _ (fun e => hk (by rw [show k = w.heap.size + 1 from e]))⟩
  have hbld : Bld w.heap.size w.heap.size (Lib.byteCells (cleanL (pre ++ [x])).1) (W2.setCell ⟨w.heap.size + 1, 0, none⟩ (.int .i32 x.1.2)) := by
    have hn : ∀ v : Value, ∀ n xs, W2.ownsRow w.heap.size 5 1 v n xs → v.ownBlock = none ∨ v.ownBlock ≠ some (w.heap.size + 1) := fun v n xs ho => by
      rcases ho.2 with ⟨rfl, _⟩ | ⟨g, cap, cur, rfl, _, hgc, _⟩
      · exact Or.inl rfl
      · refine Or.inr fun e => ?_
        simp only [Value.ownBlock, Option.some.injEq] at e
        subst e
        rw [hl] at hgc
        simp only [Option.some.injEq, Obj.cells.injEq] at hgc
        exact absurd hgc.2.1 (by decide)
    rcases hb with ⟨hB, v, hbk, hown, hv⟩ | ⟨hB, v, hbk, hown, hv⟩
    · exact Or.inl ⟨hB, v, (Below.heap_setCell W2 ⟨w.heap.size + 1, 0, none⟩ _ _ (by intro e; have e' : w.heap.size = w.heap.size + 1 := e; omega)).trans hbk, hown.kept hg (hn v _ _ hown), hv⟩
    · exact Or.inr ⟨hB, v, (Below.heap_setCell W2 ⟨w.heap.size + 1, 0, none⟩ _ _ (by intro e; have e' : w.heap.size = w.heap.size + 1 := e; omega)).trans hbk, hown.kept hg (hn v _ _ hown), hv⟩
  refine ⟨(keeps_of hs).trans (KeepsOthers.setCell _ _ _), ?_, hbld, ?_, ht', (hI.2.2.2.trans hbl).setCell (p := ⟨w.heap.size + 1, 0, none⟩) (by show _ ≤ w.heap.size + 1; omega) _⟩
  · show (W2.setCell _ _).cell? ⟨w.heap.size + 2, 0, none⟩ = W.cell? ⟨w.heap.size + 2, 0, none⟩
    rw [Lib.cell_of_heap ht', Lib.cell_of_heap hI.2.2.1]
  · rw [set_blk hl, clean_snoc]
    rfl

set_option maxRecDepth 100000 in
set_option maxHeartbeats 2000000 in
theorem clean_any (s : ByteArray) (w : World) (hs : s.size ≤ 1000000000) :
    Calls Tryz.prog 11 #[.string s] w fun e w' => e = .returned (.string ⟨(cleanL (signsL 0 s.data.toList)).1.toArray⟩) ∧ Below w.heap.size w w' := by
  refine (callsIn_wide (n := 9)).1 ?_
  refine callsIn_of_wp_marks Tryz.func11 rfl trivial ?_ rfl
  simp only [Tryz.ntmps11, List.size_toArray, List.length_cons, List.length_nil, Nat.reduceAdd, Nat.reduceSub, Array.replicate_succ, Array.replicate_zero, List.push_toArray, List.append_toArray, List.nil_append, List.cons_append]
  gi_wp2
  refine ⟨trivial, callsIn_wide.2 ((signs_any s _).mono ?_)⟩
  rintro e w1 ⟨rfl, rfl⟩
  simp only [World.size_alloc]
  obtain ⟨w3, hw3⟩ : ∃ w3, w3 = ((w.alloc (.cells #[.pointer none, .slice none 0 0] 64)).alloc (.cells #[.int .i32 0] 21)).alloc (.cells #[.string s] 9) := ⟨_, rfl⟩
  have hz3 : w3.heap.size = w.heap.size + 3 := by rw [hw3]; simp
  have hI0 : CleanI w s [] w3 := by
    rw [hw3]
    refine ⟨bld_al (bld_al (bld_new w) _) _, ?_, ?_, (((Below.refl _ w).alloc (Nat.le_refl _) _).alloc (by simp) _).alloc (by simp; omega) _⟩
    · refine (Lib.alloc_old _ _ _ (by simp)).trans ?_
      have := heap_alloc_new (w.alloc (.cells #[.pointer none, .slice none 0 0] 64)) (.cells #[.int .i32 0] 21)
      rwa [World.size_alloc] at this
    · have := heap_alloc_new ((w.alloc (.cells #[.pointer none, .slice none 0 0] 64)).alloc (.cells #[.int .i32 0] 21)) (.cells #[.string s] 9)
      rwa [World.size_alloc, World.size_alloc] at this
  rw [← hw3]
  clear hw3
  gi_wp2
  refine wpIn_rangeFunc_ownF (n := 9) rfl (by decide) (gf := 70) (lb := #[.pointer (some ⟨w.heap.size + 2, 0, none⟩)]) rfl trivial (enters_of Tryz.func70 (by kernel_rfl) rfl)
    (signs_stops 8 (by decide) (w.heap.size + 2) s hs w3 (by omega) (cell_blk hI0.2.2.1 rfl)) kept_t (kept_b (by omega)) (Below.refl _ _) (fun _ => rfl)
    (CleanI w s) (fun _ _ _ => False) (cleanI_own w s w3.heap.size (by omega)) (fun _ _ _ _ _ hs _ _ => hs) hI0
    (fun x => { tmps := #[.string s, undef, .string ⟨#[]⟩, .pointer (some ⟨w.heap.size, 0, none⟩), .pointer (some ⟨w.heap.size + 1, 0, none⟩), undef, .int .i32 x.1.2, .string s, .func (.func 70) #[] #[.pointer (some ⟨w.heap.size + 2, 0, none⟩)], .int .i64 x.1.1, .int .i32 x.1.2, undef, undef, undef, undef, undef, undef, undef, undef, undef, undef, undef, undef, undef, undef, undef, undef, undef, undef, undef, undef, undef], defers := [] }) ?assign ?body ?done ?stop
  case assign =>
    intro l x W K hK
    gi_wp2
    exact hK
  case body =>
    rintro l pre x W hI hlen
    have hcl := clean_le pre
    have hbs : (Lib.byteCells (cleanL pre).1).length + 4 ≤ 140737488355328 := by rw [Lib.byteCells_length]; omega
    have hsz := hI.2.2.2.size
    have c1 : W.cell? ⟨w.heap.size + 1, 0, none⟩ = some (.int .i32 (cleanL pre).2) := cell_blk hI.2.1 rfl
    have HP := Lib.hid (fun W2 => cleanI_put (W2 := W2) hI x)
    have HC := Lib.hid (clean_snoc pre x)
    have hbld := hI.1
    have hl1 := hI.2.1
    by_cases h0 : x.1.2 = 0
    · have HB := Lib.hid (show (cleanL (pre ++ [x])).1 = (cleanL pre).1 ++ Lib.encodeRune 65533 from by rw [HC.out]; unfold cleanB; rw [if_pos h0])
      have HW := Lib.hid (writeRune_sp w.heap.size w.heap.size (Lib.byteCells (cleanL pre).1) 65533 (by omega) (by omega) W hbld hbs hsz)
      gi_wp2
      refine ⟨trivial, CallsIn.inRound l (callsIn_wide.2 (HW.out.mono ?_))⟩
      rintro e W2 ⟨⟨k, rfl⟩, h2, hb2, hs2⟩
      have hl2 := hs2.same _ _ hl1 (fun cs t fr e => by cases e; decide)
      have d1 : W2.cell? ⟨w.heap.size + 1, 0, none⟩ = some (.int .i32 (cleanL pre).2) := cell_blk hl2 rfl
      have f1 : W2.frozen? ⟨w.heap.size + 1, 0, none⟩ = false := free_blk hl2
      gi_wp2
      have HH := HP.out _ (by rw [HB.out, Lib.byteCells_append, Lib.byteCells_encodeRune]; exact h2) hs2 hb2
      rw [h0] at HH
      exact HH
    · by_cases h13 : x.1.2 = 13
      · have HB := Lib.hid (show (cleanL (pre ++ [x])).1 = (cleanL pre).1 ++ [10] from by rw [HC.out]; unfold cleanB; rw [if_neg h0, if_pos (Or.inl h13)])
        have HW := Lib.hid (writeByte_sp w.heap.size w.heap.size (Lib.byteCells (cleanL pre).1) 10 W hbld (by omega) hsz)
        gi_wp2
        refine ⟨trivial, CallsIn.inRound l (callsIn_wide.2 (HW.out.mono ?_))⟩
        rintro e W2 ⟨rfl, h2, hb2, hs2⟩
        have hl2 := hs2.same _ _ hl1 (fun cs t fr e => by cases e; decide)
        have d1 : W2.cell? ⟨w.heap.size + 1, 0, none⟩ = some (.int .i32 (cleanL pre).2) := cell_blk hl2 rfl
        have f1 : W2.frozen? ⟨w.heap.size + 1, 0, none⟩ = false := free_blk hl2
        gi_wp2
        have HH := HP.out _ (by rw [HB.out, Lib.byteCells_append]; exact h2) hs2 hb2
        rw [h13] at HH
        exact HH
      · by_cases h10 : x.1.2 = 10
        · by_cases hla : (cleanL pre).2 = 13
          · have HB := Lib.hid (show (cleanL (pre ++ [x])).1 = (cleanL pre).1 from by
              rw [HC.out]
              unfold cleanB
              rw [if_neg h0, if_neg (by rw [hla]; omega), if_neg (by omega), List.append_nil])
            have f0 : W.frozen? ⟨w.heap.size + 1, 0, none⟩ = false := free_blk hl1
            gi_wp2
            have HH := HP.out W (by rw [HB.out]; exact hbld) (Spares.refl _) (Below.refl _ _)
            rw [h10] at HH
            exact HH
          · have HB := Lib.hid (show (cleanL (pre ++ [x])).1 = (cleanL pre).1 ++ [10] from by rw [HC.out]; unfold cleanB; rw [if_neg h0, if_pos (Or.inr ⟨h10, hla⟩)])
            have HW := Lib.hid (writeByte_sp w.heap.size w.heap.size (Lib.byteCells (cleanL pre).1) 10 W hbld (by omega) hsz)
            gi_wp2
            refine ⟨trivial, CallsIn.inRound l (callsIn_wide.2 (HW.out.mono ?_))⟩
            rintro e W2 ⟨rfl, h2, hb2, hs2⟩
            have hl2 := hs2.same _ _ hl1 (fun cs t fr e => by cases e; decide)
            have d1 : W2.cell? ⟨w.heap.size + 1, 0, none⟩ = some (.int .i32 (cleanL pre).2) := cell_blk hl2 rfl
            have f1 : W2.frozen? ⟨w.heap.size + 1, 0, none⟩ = false := free_blk hl2
            gi_wp2
            have HH := HP.out _ (by rw [HB.out, Lib.byteCells_append]; exact h2) hs2 hb2
            rw [h10] at HH
            exact HH
        · have HB := Lib.hid (show (cleanL (pre ++ [x])).1 = (cleanL pre).1 ++ Lib.encodeRune x.1.2 from by rw [HC.out]; unfold cleanB; rw [if_neg h0, if_neg (by omega), if_pos h10])
          have hr : -2147483648 ≤ x.1.2 ∧ x.1.2 ≤ 2147483647 := by
            have h := x.2
            have h1 : IntKind.i32.min = -2147483648 := by decide
            have h2 : IntKind.i32.max = 2147483647 := by decide
            simp [Lit.wf, h1, h2] at h
            omega
          have HW := Lib.hid (writeRune_sp w.heap.size w.heap.size (Lib.byteCells (cleanL pre).1) x.1.2 hr.1 hr.2 W hbld hbs hsz)
          gi_wp2
          refine ⟨trivial, CallsIn.inRound l (callsIn_wide.2 (HW.out.mono ?_))⟩
          rintro e W2 ⟨⟨k, rfl⟩, h2, hb2, hs2⟩
          have hl2 := hs2.same _ _ hl1 (fun cs t fr e => by cases e; decide)
          have d1 : W2.cell? ⟨w.heap.size + 1, 0, none⟩ = some (.int .i32 (cleanL pre).2) := cell_blk hl2 rfl
          have f1 : W2.frozen? ⟨w.heap.size + 1, 0, none⟩ = false := free_blk hl2
          gi_wp2
          exact HP.out _ (by rw [HB.out, Lib.byteCells_append, Lib.byteCells_encodeRune]; exact h2) hs2 hb2
  case done =>
    rintro D ys W hD rfl hI hK
    have HS := Lib.hid (Tryz.Builder_String_any_k w.heap.size w.heap.size (cleanL (signsL 0 s.data.toList)).1 W (Lib.IsBuilderF.of hI.1) hI.2.2.2.size)
    gi_wp2
    refine ⟨trivial, callsIn_wide.2 (HS.out.mono ?_)⟩
    rintro e W2 ⟨rfl, _, hb2, hok⟩
    have hK2 : W2.heap[D]? = some (.deferred (some [])) := hok D _ hK (by intro e; simp at e; omega) (fun _ _ e => by cases e)
    gi_wp2
    refine ⟨by simp, .inl ⟨_, _, rfl, run_takeDeferred hK2, ?_⟩⟩
    exact ⟨_, results_tmp rfl _ _ _, rfl, (hI.2.2.2.trans hb2).trans (belowK_b (w := w) (Nat.le_refl _) W2 D _ _ (by omega) hK2 rfl rfl)⟩
  case stop =>
    rintro D c pre W _ _ h _
    exact h.elim
end Go.Proofs.YtegcedboeemedaaGreatDoor

/-
What comes of a text: it is cleaned, read, built, and looked over.
-/
namespace Go.Proofs.YtegcedboeemedaaGreatDoor
open Go.RowKit Go.Cl
attribute [local go_sem ↓] Go.wp_at_zero Go.wp_at_succ
/-- The tokens that Read tells, all of them behind what was there. -/
theorem tkRead_rg (w : World) (s : ByteArray) (hs : s.size ≤ 4000) (m : Int) (hm : maxLenAt w m) (hT : FoldTabs w) :
    Calls Tryz.prog 10 #[.string s] w fun e w' => ∃ A n c, e = .returned (.tuple #[.slice A n c, .int .i64 0]) ∧ Below w.heap.size w w' ∧ Sl tTok w' (rg w.heap.size w'.heap.size) A n c ((readF s.data.toList).1.map (plOf s)) := by
  refine (tkRead_ok w s hs ⟨m, hm⟩ (fold_ok w w.heap.size (Nat.le_refl _) hT) (any_ok w w.heap.size)).mono ?_
  rintro e w' ⟨r, v, n, rfl, h⟩
  have hc := chain_len (places_law s.data.toList).1
  have hsz := Lib.size_eq s
  obtain ⟨A, c, rfl⟩ := Cl.Own.form h.own
  have hf := h.few
  rw [List.length_map] at hf
  refine ⟨A, n, c, rfl, h.low, (Cl.Own.sl h.own (by decide) (by show n * 88 ≤ _; omega)).more fun b hb => ?_⟩
  rcases hb with hb | hb
  · exact ⟨Nat.le_of_lt hb.1, hb.2.1⟩
  · exact ⟨by omega, hb.2⟩
theorem own_slg {α : Type} {T : Ty α} {w : World} {base : Nat} {e : TypeId} {v : Value} {n : Nat} {xs : List α} (h : OwnF T w base e v n xs) (hpos : 0 < T.size) (hn : n * T.bytes ≤ 140737488355328) : ∃ A c, v = .slice A n c ∧ Sl T w (rg base w.heap.size) A n c xs := by
  obtain ⟨A, c, rfl⟩ := Own.form h
  exact ⟨A, c, rfl, (Own.sl h hpos hn).more fun b hb => hb.elim False.elim id⟩
theorem ed_rowsg {w : World} {base : Nat} {D : Nat → Prop} : ∀ (l : List Nd) (ps : List (Value × Value)) (cells : List Value), ps.length = l.length → (∀ (i : Nat) x p, l[i]? = some x → ps[i]? = some p → Parts w base x p) → Row tN6 w D (List.zipWith ndRow l ps) cells → Row tNd w (rg base w.heap.size) l cells := by
  intro l
  induction l with
  | nil =>
    intro ps cells _ _ h
    exact h
  | cons x l ih =>
    intro ps cells hl hp h
    cases ps with
    | nil => simp at hl
    | cons p ps =>
      obtain ⟨c1, c2, rfl, ⟨rfl, _⟩, h2⟩ := h
      have hP := hp 0 x p rfl rfl
      obtain ⟨Aa, ca, ea, sa⟩ := own_slg hP.attrs (by decide) (by have := hP.ok.attrs; show x.attrs.length * 32 ≤ _; omega)
      obtain ⟨Ak, ck, ek, sk⟩ := own_slg hP.kids (by decide) (by have := hP.ok.kids; show x.kids.length * 8 ≤ _; omega)
      refine ⟨ndRow x p, c2, rfl, ?_, ih ps c2 (by simpa using hl) (fun i y q hy hq => hp (i + 1) y q (by simpa using hy) (by simpa using hq)) h2⟩
      unfold ndRow
      rw [ea, ek]
      exact nd_rep ⟨sa, sk, hP.ok.kind, hP.ok.name, hP.ok.text, hP.ok.parent⟩
/-- A document of the call's own, read as a slice: all of it lies from its first block on. -/
theorem Ed.slg {w : World} {base : Nat} {l : List Nd} {ps : List (Value × Value)} {A0 : Option Addr} {n c : Nat} (h : Ed w base (.slice A0 n c) l ps) : Sl tNd w (rg base w.heap.size) A0 n c l := by
  have hrow := h.row
  have hn : n = l.length := by
    obtain ⟨_, h3, _⟩ := hrow
    rcases h3.2 with ⟨hv, h4⟩ | ⟨g', cap, cur, hv, _⟩
    · injection hv with _ hv _
      omega
    · injection hv
  subst hn
  have hs := Own.sl hrow (by decide) (by have := h.few; show l.length * 96 ≤ _; omega)
  refine ⟨rfl, hs.hc, by have := h.few; show l.length * 96 ≤ _; omega, hs.hm, hs.nil_, fun h0 => ?_⟩
  obtain ⟨b, o, cells, e, hD, hr, hc⟩ := hs.at_ h0
  refine ⟨b, o, cells, e, ?_, ed_rowsg l ps cells h.len h.parts hr, hc⟩
  rcases hD with hD | hD
  · exact hD.elim
  · exact hD
section
variable {m : Int} {wt w w' w2 : World} {X base Bp : Nat} {P Q : PS}
theorem BdAt.quirks (h : BdAt m wt w X base Bp P) : w.cell? ⟨X, 8, none⟩ = some (.bool P.quirks) := h.cell 8 fun _ _ _ => rfl
/-- Its nodes, read as a slice. -/
theorem BdAt.nodes_sl (h : BdAt m wt w X base Bp P) : ∃ A c, w.cell? ⟨X, 0, none⟩ = some (.slice A P.nodes.length c) ∧ Sl tNd w (Cl.lt w.heap.size) A P.nodes.length c P.nodes := by
  obtain ⟨nV, oV, iV, ps, hp⟩ := h.mem
  obtain ⟨A, c, rfl⟩ := Own.form hp.ed.row
  exact ⟨A, c, hp.cell 0 (v := .slice A P.nodes.length c) rfl, hp.ed.sl⟩
/-- What done tells of nodes: the document, or that it is too large. -/
def DoneV (base : Nat) (w' : World) (l : List Nd) (q : Bool) (e : Ending) : Prop :=
  (checkD l = 0 ∧ ∃ A c, e = .returned (.tuple #[.agg #[.slice A l.length c, .bool q], .int .i64 0]) ∧ Sl tNd w' (rg base w'.heap.size) A l.length c l) ∨ (checkD l ≠ 0 ∧ e = .returned (.tuple #[.agg #[.slice none 0 0, .bool false], .int .i64 2]))
set_option maxRecDepth 100000 in
set_option maxHeartbeats 4000000 in
theorem done_at (h : BdAt m wt w X base Bp P) (hi : P.items = []) (s cs : ByteArray) (hcs : Hid (cs = ⟨(cleanL (signsL 0 s.data.toList)).1.toArray⟩)) (hsz : s.size ≤ 1000000000) (hcz : cs.size ≤ 4000) (hT : ∀ v, Below w.heap.size w v → FoldTabs v)
    {f : Nat} {R : PS} (hr : P.allO f ((readF cs.data.toList).1.map (·.1)) = some R) (hsm : ∀ x ∈ (readF cs.data.toList).1, x.1.name.size ≤ 1000000000 ∧ x.1.text.size ≤ 1000000000 ∧ x.1.attrs.length ≤ 1000000000)
    (hc : ∀ v B, BdAt m v v X base B P → OnesC m v X base B f ((readF cs.data.toList).1.map (·.1)) P ∧ ∀ Q, PS.onesO f ((readF cs.data.toList).1.map (·.1)) P = some Q → Q.fresh = false ∧ OneC (TakeC m v X base B none 0 0 0 0) f PS.overT { Q with fresh := false })
    (hctx : R.context = ⟨#[]⟩) :
    Calls Tryz.prog 43 #[.pointer (some ⟨X, 0, none⟩), .string s] w fun e w' => DoneV base w' R.nodes R.quirks e ∧ Below base w w' := by
  obtain ⟨w1, hw1⟩ : ∃ w1, w1 = w.alloc (.cells #[.slice none 0 0, .bool false] 33) := ⟨_, rfl⟩
  have hb1 : Below w.heap.size w w1 := by rw [hw1]; exact (Below.refl _ w).alloc (Nat.le_refl _) _
  have hk1 : w1.heap[w.heap.size]? = some (.cells #[.slice none 0 0, .bool false] 33 (0, 0)) := by rw [hw1]; exact heap_alloc_new w _
  have HCL := Lib.hid (show Calls Tryz.prog 11 #[.string s] w1 fun e w' => e = .returned (.string cs) ∧ Below w1.heap.size w1 w' from by rw [hcs.out]; exact clean_any s w1 hsz)
  have HRD := Lib.hid (fun (v : World) (hv : Below w.heap.size w v) => tkRead_rg v cs hcz m (h.next hv).len (hT v hv))
  have HALL := Lib.hid (fun (v v2 : World) (A : Option Addr) (n c : Nat) (hv : Below w.heap.size w v) (hb : Below v.heap.size v v2) (hs : Sl tTok v2 (rg v.heap.size v2.heap.size) A n c ((readF cs.data.toList).1.map (plOf cs))) =>
    (show Calls Tryz.prog 81 #[.pointer (some ⟨X, 0, none⟩), .slice A n c] v2 fun e w' => e = .returned (.tuple #[]) ∧ BdTo m v2 v2 w' X base v.heap.size R from
      have hat := (h.next hv).reads hi hb
      have hcc := hc v2 v.heap.size hat
      have hmap : ((readF cs.data.toList).1.map (plOf cs)).map (·.1) = (readF cs.data.toList).1.map (·.1) := by rw [List.map_map]; rfl
      all_at m v2 v2 X base v.heap.size P hat hs (fun x hx => by
        obtain ⟨y, hy, rfl⟩ := List.mem_map.1 hx
        exact hsm y hy) (by rw [hmap]; exact hr) (by rw [hmap]; exact hcc.1) (by rw [hmap]; exact hcc.2)))
  have HBL : Hid (base ≤ w.heap.size) := Nat.le_of_lt h.blt
  have HB1 := Lib.hid hb1
  have HK1 := Lib.hid hk1
  have HCX := Lib.hid hctx
  have HH := Lib.hid h
  clear h hi hsz hT hr hsm hc hctx hb1 hk1
  go_enter Tryz.func43, Tryz.ntmps43
  go_upto_region 1 with fail
  rw [← hw1]
  clear hw1
  go_upto_region 5 with (first
    | (go_at_call 81; refine (HALL.out _ _ _ _ _ HB2.out HBR.out HS.out).mono ?_; rintro e w4 ⟨rfl, hb⟩; have T4 := Lib.hid hb; clear hb)
    | (go_at_call 10; refine (HRD.out _ HB2.out).mono ?_; rintro e w3 ⟨A, n, c, rfl, hb, hs⟩; have HBR := Lib.hid hb; have HS := Lib.hid hs; clear hb hs)
    | (go_at_call 11; refine HCL.out.mono ?_; rintro e w2 ⟨rfl, hb⟩; have HB2 := Lib.hid (HB1.out.trans (hb.mono HB1.out.size)); have HK2 := Lib.hid ((hb.block _ (Array.getElem?_eq_some_iff.1 HK1.out).1).trans HK1.out); clear hb)
    | fail)
  have HB4 := Lib.hid ((HB2.out.mono HBL.out).trans ((HBR.out.mono (Nat.le_trans HBL.out HB2.out.size)).trans T4.out.low))
  have HK3 := Lib.hid ((HBR.out.block _ (Array.getElem?_eq_some_iff.1 HK2.out).1).trans HK2.out)
  have HK4 := Lib.hid (T4.out.other (b := w.heap.size) HK3.out (by decide))
  have c9 := T4.out.at_.cell 9 (v := .string R.context) (fun _ _ _ => rfl)
  rw [HCX.out] at c9
  have c8 := T4.out.at_.quirks
  obtain ⟨AN, cN, c0, hsn⟩ := T4.out.at_.nodes_sl
  have HC0 := Lib.hid c0
  have HSN := Lib.hid hsn
  clear hsn
  go_upto_region 7 with fail
  refine wp_region_G (S := (fun w' : World => w'.cell? ⟨X, 0, none⟩ = some (.slice AN R.nodes.length cN) ∧ w'.cell? ⟨X, 8, none⟩ = some (.bool R.quirks))) (T := [11]) (by kernel_rfl) ?_
  have hS : (fun w' : World => w'.cell? ⟨X, 0, none⟩ = some (.slice AN R.nodes.length cN) ∧ w'.cell? ⟨X, 8, none⟩ = some (.bool R.quirks)) w4.drew := ⟨c0, c8⟩
  refine wpAnyG_take (i := 0) (v := ?_) rfl (by kernel_rfl) (by kernel_rfl) (by kernel_rfl) (by kernel_rfl) (fun _ _ _ h => h) hS rfl ?_ ?_
  rotate_left
  · intro w' hSw
    (try dsimp only at hSw)
    first | (go_simp; done) | (go_simp; with_reducible rfl)
  refine wpAnyG_take (i := 1) (v := ?_) rfl (by kernel_rfl) (by kernel_rfl) (by kernel_rfl) (by kernel_rfl) (fun _ _ _ h => h) hS rfl ?_ ?_
  rotate_left
  · intro w' hSw
    (try dsimp only at hSw)
    first | (go_simp; done) | (go_simp; with_reducible rfl)
  refine wpAnyG_take (i := 2) (v := ?_) rfl (by kernel_rfl) (by kernel_rfl) (by kernel_rfl) (by kernel_rfl) (fun _ _ _ h => h) hS rfl ?_ ?_
  rotate_left
  · intro w' hSw
    (try dsimp only at hSw)
    first | (go_simp; done) | (go_simp; with_reducible rfl)
  refine wpAnyG_take (i := 3) (v := ?_) rfl (by kernel_rfl) (by kernel_rfl) (by kernel_rfl) (by kernel_rfl) (fun _ _ _ h => h) hS rfl ?_ ?_
  rotate_left
  · intro w' hSw
    (try dsimp only at hSw)
    first | (go_simp; done) | (go_simp; with_reducible rfl)
  refine wpAnyG_take (i := 4) (v := ?_) rfl (by kernel_rfl) (by kernel_rfl) (by kernel_rfl) (by kernel_rfl) (fun _ _ _ h => h) hS rfl ?_ ?_
  rotate_left
  · intro w' hSw
    (try dsimp only at hSw)
    first | (go_simp; done) | (go_simp; with_reducible rfl)
  refine wpAnyG_take (i := 5) (v := ?_) rfl (by kernel_rfl) (by kernel_rfl) (by kernel_rfl) (by kernel_rfl) (fun _ _ _ h => h) hS rfl ?_ ?_
  rotate_left
  · intro w' hSw
    (try dsimp only at hSw)
    first | (go_simp; done) | (go_simp; with_reducible rfl)
  refine wpAnyG_take (i := 6) (v := ?_) rfl (by kernel_rfl) (by kernel_rfl) (by kernel_rfl) (by kernel_rfl) (fun _ _ _ h => h) hS rfl ?_ ?_
  rotate_left
  · intro w' hSw
    (try dsimp only at hSw)
    first | (go_simp; done) | (go_simp; with_reducible rfl)
  refine wpAnyG_take (i := 7) (v := ?_) rfl (by kernel_rfl) (by kernel_rfl) (by kernel_rfl) (by kernel_rfl) (fun _ _ _ h => h) hS rfl ?_ ?_
  rotate_left
  · intro w' hSw
    (try dsimp only at hSw)
    first | (go_simp; done) | (go_simp; with_reducible rfl)
  refine wpAnyG_take (i := 8) (v := ?_) rfl (by kernel_rfl) (by kernel_rfl) (by kernel_rfl) (by kernel_rfl) (fun _ _ _ h => h) hS rfl ?_ ?_
  rotate_left
  · intro w' hSw
    (try dsimp only at hSw)
    first | (go_simp; done) | (go_simp; with_reducible rfl)
  refine wpAnyG_take (i := 9) (v := ?_) rfl (by kernel_rfl) (by kernel_rfl) (by kernel_rfl) (by kernel_rfl) (fun _ _ _ h => h) hS rfl ?_ ?_
  rotate_left
  · intro w' hSw
    (try dsimp only at hSw)
    first | (go_simp; done) | (go_simp; with_reducible rfl)
  refine wpAnyG_one (i := 10) (by kernel_rfl) rfl rfl (fun K hK => ?_)
  go_simp
  refine hK.out _ _ (fun _ _ => ⟨cell_al (w := w4.drew) c0 _, cell_al (w := w4.drew) c8 _⟩) ?_
  clear hK K hS
  refine wpAnyG_one (i := 11) (by kernel_rfl) rfl rfl (fun K hK => ?_)
  go_simp
  refine hK.out _ _ (fun h => absurd (by decide) h) ?_
  clear hK K
  refine wpAnyG_done (by kernel_rfl) ?_ _
  obtain ⟨w5, hw5⟩ : ∃ w5, w5 = (w4.alloc (.cells #[.slice AN R.nodes.length cN, .bool R.quirks] 33)).drew := ⟨_, rfl⟩
  rw [← hw5]
  have hb5 : Below w4.heap.size w4 w5 := by rw [hw5]; exact ((Below.refl _ _).alloc (Nat.le_refl _) _).drew
  have hk5 : w5.heap[w4.heap.size]? = some (.cells #[.slice AN R.nodes.length cN, .bool R.quirks] 33 (0, 0)) := by rw [hw5]; exact heap_alloc_new w4 _
  have HCK := Lib.hid (check_dom AN R.nodes.length cN R.nodes R.quirks w5 w5.heap.size ((HSN.out.below hb5 (Nat.le_refl _)).up hb5.size) (Nat.le_refl _))
  have HB5 := Lib.hid hb5
  have K5 := Lib.hid hk5
  have d0 := cell_blk (i := 0) (v := .slice AN R.nodes.length cN) hk5 rfl
  have d1 := cell_blk (i := 1) (v := .bool R.quirks) hk5 rfl
  have HSZ : Hid (base ≤ w4.heap.size) := Nat.le_of_lt T4.out.at_.blt
  clear hw5 hb5 hk5 c0 c8 c9
  have HDV : Hid (∀ W e, DoneV base W R.nodes R.quirks e = ((checkD R.nodes = 0 ∧ ∃ A c, e = .returned (.tuple #[.agg #[.slice A R.nodes.length c, .bool R.quirks], .int .i64 0]) ∧ Sl tNd W (rg base W.heap.size) A R.nodes.length c R.nodes) ∨ (checkD R.nodes ≠ 0 ∧ e = .returned (.tuple #[.agg #[.slice none 0 0, .bool false], .int .i64 2])))) := fun _ _ => rfl
  by_cases hck : checkD R.nodes = 0
  · have HZ := Lib.hid hck
    rw [hck] at HCK
    clear hck
    go_upto_region 10 with (first
      | (go_at_call 20; refine HCK.out.mono ?_; rintro e w6 ⟨rfl, hb⟩; have HB46 := Lib.hid (HB5.out.trans (hb.mono HB5.out.size)); have z0 := cell_be d0 hb; have z1 := cell_be d1 hb; have hk6 := (HB46.out.block _ (Array.getElem?_eq_some_iff.1 HK4.out).1).trans HK4.out; have K6 := Lib.hid hk6; clear hb)
      | fail)
    have HB6 := Lib.hid (HB4.out.trans (HB46.out.mono HSZ.out))
    have x0 := cell_blk (i := 0) (v := .slice none 0 0) K6.out rfl
    have x1 := cell_blk (i := 1) (v := .bool false) K6.out rfl
    have y0 : w6.frozen? ⟨w.heap.size, 0, none⟩ = false := free_blk K6.out
    have y1 : w6.frozen? ⟨w.heap.size, 1, none⟩ = false := free_blk K6.out
    clear d0 d1 hk6
    go_wp2_with fail
    obtain ⟨w7, hw7⟩ : ∃ w7, w7 = (w6.setCell ⟨w.heap.size, 0, none⟩ (.slice AN R.nodes.length cN)).setCell ⟨w.heap.size, 1, none⟩ (.bool R.quirks) := ⟨_, rfl⟩
    rw [← hw7]
    have hk7 := sp_set (u := .slice AN R.nodes.length cN) (v := .bool R.quirks) K6.out
    rw [← hw7] at hk7
    have r0 := cell_blk (i := 0) (v := .slice AN R.nodes.length cN) hk7 rfl
    have r1 := cell_blk (i := 1) (v := .bool R.quirks) hk7 rfl
    have HW7 := Lib.hid hw7
    clear hw7 hk7 x0 x1 y0 y1 z0 z1
    refine bodyPost_ret (v := .tuple #[.agg #[.slice AN R.nodes.length cN, .bool R.quirks], .int .i64 0]) (by simp [results, Tryz.results43, go_sem, r0, r1]) rfl ⟨by
      rw [HDV.out]
      refine .inl ⟨HZ.out, AN, cN, rfl, ?_⟩
      obtain ⟨nV, oV, iV, ps, hp⟩ := T4.out.at_.mem
      obtain ⟨A0, c0', rfl⟩ := Own.form hp.ed.row
      have e0 := hp.cell 0 (v := .slice A0 R.nodes.length c0') rfl
      rw [HC0.out] at e0
      injection e0 with e0
      injection e0 with e1 _ e2
      subst e1 e2
      have hBX : w.heap.size ≠ X := by have := HH.out.lt; omega
      have hBr : ¬ rg w2.heap.size w3.heap.size w.heap.size := fun q => by have := (Array.getElem?_eq_some_iff.1 HK2.out).1; have := q.1; omega
      have hp7 := ((hp.next HB46.out).far K6.out (by decide) hBX hBr 0 (.slice AN R.nodes.length cN)).far (set_blk K6.out _) (by decide) hBX hBr 1 (.bool R.quirks)
      rw [HW7.out]
      exact hp7.ed.slg, ?_⟩
    rw [HW7.out]
    exact ((HB6.out).setCell (p := ⟨w.heap.size, 0, none⟩) HBL.out _).setCell (p := ⟨w.heap.size, 1, none⟩) HBL.out _
  · have HZ := Lib.hid hck
    have hne : (checkD R.nodes != 0) = true := by simpa using hck
    generalize checkD R.nodes = ck at *
    clear hck
    go_upto_region 9 with (first
      | (go_at_call 20; refine HCK.out.mono ?_; rintro e w6 ⟨rfl, hb⟩; have HB46 := Lib.hid (HB5.out.trans (hb.mono HB5.out.size)); have z0 := cell_be d0 hb; have z1 := cell_be d1 hb; have hk6 := (HB46.out.block _ (Array.getElem?_eq_some_iff.1 HK4.out).1).trans HK4.out; have K6 := Lib.hid hk6; clear hb)
      | fail)
    have HB6 := Lib.hid (HB4.out.trans (HB46.out.mono HSZ.out))
    have x0 := cell_blk (i := 0) (v := .slice none 0 0) K6.out rfl
    have x1 := cell_blk (i := 1) (v := .bool false) K6.out rfl
    have y0 : w6.frozen? ⟨w.heap.size, 0, none⟩ = false := free_blk K6.out
    have y1 : w6.frozen? ⟨w.heap.size, 1, none⟩ = false := free_blk K6.out
    clear d0 d1 hk6
    go_wp2_with fail
    obtain ⟨w7, hw7⟩ : ∃ w7, w7 = (w6.setCell ⟨w.heap.size, 0, none⟩ (.slice none 0 0)).setCell ⟨w.heap.size, 1, none⟩ (.bool false) := ⟨_, rfl⟩
    rw [← hw7]
    have hk7 := sp_set (u := .slice none 0 0) (v := .bool false) K6.out
    rw [← hw7] at hk7
    have r0 := cell_blk (i := 0) (v := .slice none 0 0) hk7 rfl
    have r1 := cell_blk (i := 1) (v := .bool false) hk7 rfl
    have HW7 := Lib.hid hw7
    clear hw7 hk7 x0 x1 y0 y1 z0 z1
    refine bodyPost_ret (v := .tuple #[.agg #[.slice none 0 0, .bool false], .int .i64 2]) (by simp [results, Tryz.results43, go_sem, r0, r1]) rfl ⟨by rw [HDV.out]; exact .inr ⟨HZ.out, rfl⟩, ?_⟩
    rw [HW7.out]
    exact ((HB6.out).setCell (p := ⟨w.heap.size, 0, none⟩) HBL.out _).setCell (p := ⟨w.heap.size, 1, none⟩) HBL.out _
end
end Go.Proofs.YtegcedboeemedaaGreatDoor

/-
Doc: of a text that is not too large.
-/
namespace Go.Proofs.YtegcedboeemedaaGreatDoor
open Go.RowKit Go.Cl
attribute [local go_sem ↓] Go.wp_at_zero Go.wp_at_succ
theorem DoneV.cases {base : Nat} {W : World} {l : List Nd} {q : Bool} {e : Ending} (h : DoneV base W l q e) : ∃ A n c b k, e = .returned (.tuple #[.agg #[.slice A n c, .bool b], .int .i64 k]) ∧ ((checkD l = 0 ∧ n = l.length ∧ b = q ∧ k = 0 ∧ Sl tNd W (rg base W.heap.size) A n c l) ∨ (checkD l ≠ 0 ∧ A = none ∧ n = 0 ∧ c = 0 ∧ b = false ∧ k = 2)) := by
  rcases h with ⟨h1, A, c, rfl, hs⟩ | ⟨h1, rfl⟩
  · exact ⟨A, _, c, q, 0, rfl, .inl ⟨h1, rfl, rfl, rfl, hs⟩⟩
  · exact ⟨none, 0, 0, false, 2, rfl, .inr ⟨h1, rfl, rfl, rfl, rfl, rfl⟩⟩
/-- A block ahead of all is stored. -/
theorem DoneV.put {base : Nat} {W : World} {l : List Nd} {A : Option Addr} {n c : Nat} (h : Sl tNd W (rg base W.heap.size) A n c l) {b : Nat} (hb : b < base) (i : Nat) (v : Value) : Sl tNd (W.setCell ⟨b, i, none⟩ v) (rg base (W.setCell ⟨b, i, none⟩ v).heap.size) A n c l := by
  have hz : (W.setCell ⟨b, i, none⟩ v).heap.size = W.heap.size := by simp
  rw [hz]
  exact h.keep fun p hp => World.cell?_setCell_other _ _ _ _ (fun e => by have h1 := hp.1; have h2 := congrArg Addr.block e; dsimp only at h2; omega)
theorem doc_fieldB : ∀ (w : World) (a : Option Addr) (n c : Nat) (b : Bool), (Instr.field 33 (.agg #[.slice a n c, .bool b]) 0).run Tryz.prog w = .ok (.slice a n c) w := fun _ _ _ _ _ => by kernel_rfl
set_option maxRecDepth 100000 in
set_option maxHeartbeats 4000000 in
theorem buildDoc_at (m : Int) (w : World) (hm : maxLenAt w m) (hT : FoldTabs w) (s cs : ByteArray) (hcs : Hid (cs = ⟨(cleanL (signsL 0 s.data.toList)).1.toArray⟩)) (hsz : s.size ≤ 4000) (hcz : cs.size ≤ 4000)
    {f : Nat} {R : PS} (hr : PS.begun.allO f ((readF cs.data.toList).1.map (·.1)) = some R) (hsm : ∀ x ∈ (readF cs.data.toList).1, x.1.name.size ≤ 1000000000 ∧ x.1.text.size ≤ 1000000000 ∧ x.1.attrs.length ≤ 1000000000)
    (hc : ∀ v X base B, BdAt m v v X base B PS.begun → OnesC m v X base B f ((readF cs.data.toList).1.map (·.1)) PS.begun ∧ ∀ Q, PS.onesO f ((readF cs.data.toList).1.map (·.1)) PS.begun = some Q → Q.fresh = false ∧ OneC (TakeC m v X base B none 0 0 0 0) f PS.overT { Q with fresh := false })
    (hctx : R.context = ⟨#[]⟩) :
    Calls Tryz.prog 14 #[.string s] w fun e w' => DoneV w.heap.size w' R.nodes R.quirks e ∧ Below w.heap.size w w' := by
  obtain ⟨w1, hw1⟩ : ∃ w1, w1 = w.alloc (.cells #[.slice none 0 0, .bool false] 33) := ⟨_, rfl⟩
  have hb1 : Below w.heap.size w w1 := by rw [hw1]; exact (Below.refl _ w).alloc (Nat.le_refl _) _
  have hk1 : w1.heap[w.heap.size]? = some (.cells #[.slice none 0 0, .bool false] 33 (0, 0)) := by rw [hw1]; exact heap_alloc_new w _
  have hz1 : w1.heap.size = w.heap.size + 1 := by rw [hw1]; exact World.size_alloc w _
  have HNEW := Lib.hid (newOwn_any w1)
  have HB1 := Lib.hid hb1
  have HK1 := Lib.hid hk1
  have HZ1 := Lib.hid hz1
  have HM := Lib.hid hm
  have HT := Lib.hid hT
  have HBEG : Hid (∀ w2 w3 w4, Below w1.heap.size w1 w2 → w2.heap.size = w1.heap.size + 2 → w2.heap[w1.heap.size + 1]? = some (.cells #[.int .i64 1, .string ⟨#[]⟩, .slice none 0 0, .string ⟨#[]⟩, .int .i64 (-1), .slice none 0 0] 46 (0, 0)) →
      w3 = w2.alloc (.cells #[.int .i64 0] 3) → w4 = w3.alloc (.cells (psCells PS.begun (.slice (some ⟨w1.heap.size + 1, 0, none⟩) 1 1) (.slice (some ⟨w2.heap.size, 0, none⟩) 1 1) (.slice none 0 0)) 88) → BdAt m w4 w4 (w2.heap.size + 1) w1.heap.size w4.heap.size PS.begun ∧ Below w1.heap.size w1 w4) := by
    rintro w2 w3 w4 hb2 hz2 hn2 hw3 hw4
    have hb23 : Below w2.heap.size w2 w3 := by rw [hw3]; exact (Below.refl _ _).alloc (Nat.le_refl _) _
    have hb34 : Below w3.heap.size w3 w4 := by rw [hw4]; exact (Below.refl _ _).alloc (Nat.le_refl _) _
    have hb24 : Below w2.heap.size w2 w4 := hb23.trans (hb34.mono hb23.size)
    have hb14 : Below w1.heap.size w1 w4 := hb2.trans (hb24.mono hb2.size)
    have hz3 : w3.heap.size = w2.heap.size + 1 := by rw [hw3]; exact World.size_alloc _ _
    have hi3 : w3.heap[w2.heap.size]? = some (.cells #[.int .i64 0] 3 (0, 0)) := by rw [hw3]; exact heap_alloc_new w2 _
    have hx4 : w4.heap[w3.heap.size]? = some (.cells (psCells PS.begun (.slice (some ⟨w1.heap.size + 1, 0, none⟩) 1 1) (.slice (some ⟨w2.heap.size, 0, none⟩) 1 1) (.slice none 0 0)) 88 (0, 0)) := by rw [hw4]; exact heap_alloc_new w3 _
    rw [hz3] at hx4
    have hat := PAt.begun (base := w1.heap.size) hx4 (ed_root ((hb24.block _ (by omega)).trans hn2) (by omega)) (own_of (ys := [0]) ((hb34.block _ (by omega)).trans hi3) (by omega) rfl (Nat.le_refl _) (by decide) rfl rfl (by intro x hx; simp at hx; subst hx; decide)) rfl (fun i p hp => by
      cases i with
      | zero => obtain rfl := Option.some.inj hp; rfl
      | succ i => cases hp) (by omega)
    have hm1 := cell_be HM.out HB1.out
    exact ⟨⟨⟨_, _, _, _, hat⟩, cell_be hm1 hb14, World.block_lt_of_cell? _ _ hm1⟩, hb14⟩
  have HDONE := Lib.hid (fun (v : World) (X B : Nat) (hv : BdAt m v v X w1.heap.size B PS.begun) (hb : Below w1.heap.size w1 v) => done_at hv rfl s cs hcs (by omega) hcz (fun u hu => HT.out.next (Nat.le_refl _) (HB1.out.trans ((hb.mono HB1.out.size).trans (hu.mono (Nat.le_trans HB1.out.size hb.size))))) hr hsm (fun u B' hat => hc u X w1.heap.size B' hat) hctx)
  have g1 : ¬ (4000 : Int) < (s.size : Int) := by omega
  clear hb1 hk1 hz1 hr hsm hc hctx hm hT hsz
  go_enter Tryz.func14, Tryz.ntmps14
  go_upto_region 1 with fail
  rw [← hw1]
  clear hw1
  go_upto_region 3 with fail
  have hfd := doc_fieldB
  go_upto_region 4 with (first
    | (go_at_call 42; refine HNEW.out.mono ?_; rintro e w2 ⟨rfl, hb, hz, hn⟩; have HB2 := Lib.hid hb; have HZ2 := Lib.hid hz; have HN2 := Lib.hid hn; clear hb hz hn)
    | fail)
  obtain ⟨w3, hw3⟩ : ∃ w3, w3 = w2.alloc (.cells #[.int .i64 0] 3) := ⟨_, rfl⟩
  rw [← hw3]
  obtain ⟨w4, hw4⟩ : ∃ w4, w4 = w3.alloc (.cells (psCells PS.begun (.slice (some ⟨w1.heap.size + 1, 0, none⟩) 1 1) (.slice (some ⟨w2.heap.size, 0, none⟩) 1 1) (.slice none 0 0)) 88) := ⟨_, rfl⟩
  have hbg := HBEG.out w2 w3 w4 HB2.out HZ2.out HN2.out hw3 hw4
  unfold psCells PS.begun at hw4
  rw [← hw4]
  have HAT := Lib.hid hbg.1
  have HB4 := Lib.hid hbg.2
  clear hbg hw3 hw4 HNEW hfd
  go_wp2_with (first
    | (go_at_call 43; refine (HDONE.out _ _ _ HAT.out HB4.out).mono ?_; rintro e w5 ⟨hd, hb⟩; obtain ⟨A, n, c, b, k, rfl, hcs2⟩ := hd.cases; have HD := Lib.hid hcs2; have HB5 := Lib.hid (HB4.out.trans hb); have hk5 := ((HB4.out.trans hb).block w.heap.size (by have := HZ1.out; omega)).trans HK1.out; have K5 := Lib.hid hk5; have x0 := cell_blk (i := 0) (v := .slice none 0 0) hk5 rfl; have x1 := cell_blk (i := 1) (v := .bool false) hk5 rfl; have y0 : w5.frozen? ⟨w.heap.size, 0, none⟩ = false := free_blk hk5; have y1 : w5.frozen? ⟨w.heap.size, 1, none⟩ = false := free_blk hk5; clear hd hb hcs2 hk5)
    | fail)
  obtain ⟨w7, hw7⟩ : ∃ w7, w7 = (w5.setCell ⟨w.heap.size, 0, none⟩ (.slice A n c)).setCell ⟨w.heap.size, 1, none⟩ (.bool b) := ⟨_, rfl⟩
  rw [← hw7]
  have hk7 := sp_set (u := .slice A n c) (v := .bool b) K5.out
  rw [← hw7] at hk7
  have r0 := cell_blk (i := 0) (v := .slice A n c) hk7 rfl
  have r1 := cell_blk (i := 1) (v := .bool b) hk7 rfl
  have HW7 := Lib.hid hw7
  clear hw7 hk7 x0 x1 y0 y1
  refine bodyPost_ret (v := .tuple #[.agg #[.slice A n c, .bool b], .int .i64 k]) (by simp [results, Tryz.results14, go_sem, r0, r1]) rfl ⟨?_, ?_⟩
  · rcases HD.out with ⟨h1, rfl, rfl, rfl, hs⟩ | ⟨h1, rfl, rfl, rfl, rfl, rfl⟩
    · refine .inl ⟨h1, A, c, rfl, ?_⟩
      have hz := HZ1.out
      have h7 := DoneV.put (DoneV.put hs (b := w.heap.size) (by omega) 0 (.slice A R.nodes.length c)) (b := w.heap.size) (by omega) 1 (.bool R.quirks)
      rw [HW7.out]
      exact h7.more fun b hb => ⟨by have := hb.1; omega, hb.2⟩
    · exact .inr ⟨h1, rfl⟩
  · rw [HW7.out]
    exact ((HB1.out.trans (HB5.out.mono HB1.out.size)).setCell (p := ⟨w.heap.size, 0, none⟩) (Nat.le_refl _) _).setCell (p := ⟨w.heap.size, 1, none⟩) (Nat.le_refl _) _
end Go.Proofs.YtegcedboeemedaaGreatDoor

/-
What the builder makes of one text, and of none: html, head, body, and the text in it. No program in sight.
-/
namespace Go.Proofs.YtegcedboeemedaaGreatDoor
open Go.RowKit Go.Cl
namespace PS
def p1 : PS := { begun with quirks := true, mode := 1 }
def nHtml (ks : List Int) : Nd := ⟨2, (⟨#[104, 116, 109, 108]⟩ : ByteArray), [], ⟨#[]⟩, 0, ks⟩
def nDoc : Nd := ⟨1, ⟨#[]⟩, [], ⟨#[]⟩, -1, [1]⟩
def nHead : Nd := ⟨2, (⟨#[104, 101, 97, 100]⟩ : ByteArray), [], ⟨#[]⟩, 1, []⟩
def nBody (ks : List Int) : Nd := ⟨2, (⟨#[98, 111, 100, 121]⟩ : ByteArray), [], ⟨#[]⟩, 1, ks⟩
def nText (s : ByteArray) : Nd := ⟨3, ⟨#[]⟩, [], s, 3, []⟩
def p2 : PS := { p1 with nodes := [nDoc, nHtml []], opens := [1], mode := 2 }
def p3 : PS := { p2 with nodes := [nDoc, nHtml [2], nHead], opens := [1, 2], mode := 3, head := 2 }
def p5 : PS := { p3 with opens := [1], mode := 5 }
def p6 : PS := { p5 with nodes := [nDoc, nHtml [2, 3], nHead, nBody []], opens := [1, 3], mode := 6 }
def p7 (s : ByteArray) : PS := { p6 with nodes := [nDoc, nHtml [2, 3], nHead, nBody [4], nText s] }
/-- A token that opens nothing and closes nothing, and is no blank. -/
structure Bare (t : Tk) : Prop where
  kind : t.kind = 3 ∨ t.kind = 0
  head : headT t = []
section
variable {t : Tk} (h : Bare t)
include h
theorem Bare.k4 : t.kind ≠ 4 := by rcases h.kind with e | e <;> omega
theorem Bare.k5 : t.kind ≠ 5 := by rcases h.kind with e | e <;> omega
theorem Bare.k2 : t.kind ≠ 2 := by rcases h.kind with e | e <;> omega
theorem Bare.k1 : t.kind ≠ 1 := by rcases h.kind with e | e <;> omega
theorem Bare.st (l : ByteArray) : st t l = false := by
  unfold PS.st
  rw [beq_eq_false_iff_ne.2 h.k1]
  rfl
theorem Bare.en (l : ByteArray) : en t l = false := by
  unfold PS.en
  rw [beq_eq_false_iff_ne.2 h.k2]
  rfl
theorem Bare.said (P : PS) : P.said t = (false, P) := by
  unfold PS.said
  rw [if_neg h.k4, h.st]
  rfl
theorem bare0 : begun.take 0 t = (true, p1) := by
  show begun.initial t = _
  unfold PS.initial
  rw [if_neg (fun k => k h.head), if_neg h.k4, if_neg h.k5]
  rfl
theorem bare1 : p1.take 1 t = (true, p2) := by
  show p1.beforeHTML t = _
  unfold PS.beforeHTML
  rw [if_neg (fun k => k h.head), if_neg h.k4, h.st, if_neg (by decide), if_neg (fun k => h.k2 k.1)]
  rfl
theorem bare2 : p2.take 2 t = (true, p3) := by
  show p2.beforeHead t = _
  unfold PS.beforeHead
  rw [if_neg (fun k => k h.head), h.said, h.st, if_neg (by decide), if_neg (by decide), if_neg (fun k => h.k2 k.1)]
  rfl
theorem bare3 : p3.take 3 t = (true, p5) := by
  show p3.inHead t = _
  unfold PS.inHead
  rw [if_neg (fun k => k h.head), h.said, h.st, h.st, h.st, h.en, if_neg (by decide), if_neg (by decide), if_neg (by decide), if_neg (by decide), if_neg (by decide), if_neg (fun k => h.k2 k.1)]
  rfl
theorem bare5 : p5.take 5 t = (true, p6) := by
  show p5.afterHead t = _
  unfold PS.afterHead
  rw [if_neg (fun k => k h.head), h.said, h.st, h.st, h.st, h.st, if_neg (by decide), if_neg (by decide), if_neg (by decide), if_neg (by decide), if_neg (fun k => h.k2 k.1)]
  rfl
theorem bare_part (P : PS) : P.parted t = false := by
  unfold PS.parted
  rw [h.head]
  simp
theorem bare_on (f : Nat) (P Q : PS) (e : P.take P.mode t = (true, Q)) : PS.oneO (f + 1) t P = PS.oneO f t Q := by
  rw [PS.oneO, bare_part h, e]
  rfl
theorem bare_off (f : Nat) (P Q : PS) (e : P.take P.mode t = (false, Q)) : PS.oneO (f + 1) t P = some Q := by
  rw [PS.oneO, bare_part h, e]
  rfl
theorem bare_run (f : Nat) (Q : PS) (e : p6.take 6 t = (false, Q)) : PS.oneO (f + 6) t begun = some Q := by
  rw [bare_on h _ begun p1 (bare0 h), bare_on h _ p1 p2 (bare1 h), bare_on h _ p2 p3 (bare2 h), bare_on h _ p3 p5 (bare3 h), bare_on h _ p5 p6 (bare5 h)]
  exact bare_off h f p6 Q e
end
theorem over_bare : Bare overT := ⟨.inr rfl, rfl⟩
theorem body_over (P : PS) : P.take 6 overT = (false, P) := by
  show P.inBody overT = _
  unfold PS.inBody
  rw [if_neg (by decide), over_bare.said]
  rfl
theorem over_none (f : Nat) : begun.one_ (f + 6) overT = some p6 := by
  unfold PS.one_
  show (if _ then _ else PS.oneO (f + 6) overT begun) = _
  rw [if_neg (by decide)]
  exact bare_run over_bare f p6 (body_over p6)
theorem over_text (f : Nat) (s : ByteArray) : (p7 s).one_ (f + 1) overT = some (p7 s) := by
  unfold PS.one_
  show (if _ then _ else PS.oneO (f + 1) overT (p7 s)) = _
  rw [if_neg (by show ¬ (((0 : Int) = 3 ∧ _) ∨ ((0 : Int) = 5 ∧ _)); omega)]
  exact bare_off over_bare f (p7 s) (p7 s) (body_over _)
theorem body_text (s : ByteArray) (hs : s.size ≠ 0) : p6.take 6 (tkT s) = (false, p7 s) := by
  show p6.inBody (tkT s) = _
  unfold PS.inBody
  rw [if_pos (show (tkT s).kind = 3 from rfl)]
  show (false, p6.text s) = _
  unfold PS.text
  simp only
  rw [if_neg (by rintro (h | h); exact absurd h (by decide); exact hs h), if_neg (by rintro ⟨h, _⟩; exact absurd h (by decide))]
  rfl
theorem headT_text (l : List UInt8) : headT (tkT (bs l)) = l.takeWhile blankB := rfl
theorem restT_text (l : List UInt8) : restT (tkT (bs l)) = l.dropWhile blankB := rfl
theorem drop_head (l : List UInt8) : (l.dropWhile blankB).takeWhile blankB = [] := by
  induction l with
  | nil => rfl
  | cons b r ih =>
    rw [List.dropWhile_cons]
    split
    · exact ih
    · rename_i h
      rw [List.takeWhile_cons, if_neg h]
theorem head_head (l : List UInt8) (h : l.takeWhile blankB ≠ []) : (l.takeWhile blankB).takeWhile blankB ≠ [] := by
  cases l with
  | nil => exact h
  | cons b r =>
    rw [List.takeWhile_cons] at h ⊢
    split
    · rename_i hb
      rw [List.takeWhile_cons, if_pos hb]
      simp
    · rename_i hb
      rw [if_neg hb] at h
      exact absurd rfl h
/-- Blanks ahead of all are passed over. -/
theorem begun_blank {t : Tk} (h : headT t ≠ []) : begun.take begun.mode t = (false, begun) := by
  show begun.initial _ = _
  unfold PS.initial
  rw [if_pos h]
theorem bare_text {r : List UInt8} (hb : r.takeWhile blankB = []) : Bare (tkT (bs r)) := ⟨.inl rfl, (headT_text r).trans hb⟩
theorem run_text {r : List UInt8} (hr : r ≠ []) (hb : r.takeWhile blankB = []) (f : Nat) : PS.oneO (f + 6) (tkT (bs r)) begun = some (p7 (bs r)) :=
  bare_run (bare_text hb) f (p7 (bs r)) (body_text (bs r) (fun e => hr (List.length_eq_zero_iff.1 e)))
/-- The three ways of a text. -/
theorem text_ways (l : List UInt8) : (l.takeWhile blankB = [] ∧ l.dropWhile blankB = l) ∨ (l.takeWhile blankB ≠ [] ∧ l.dropWhile blankB = []) ∨ (l.takeWhile blankB ≠ [] ∧ l.dropWhile blankB ≠ [] ∧ begun.parted (tkT (bs l)) = true) := by
  by_cases h1 : l.takeWhile blankB = []
  · refine .inl ⟨h1, ?_⟩
    have := List.takeWhile_append_dropWhile (p := blankB) (l := l)
    rw [h1] at this
    exact this
  · by_cases h2 : l.dropWhile blankB = []
    · exact .inr (.inl ⟨h1, h2⟩)
    · refine .inr (.inr ⟨h1, h2, ?_⟩)
      unfold PS.parted
      rw [headT_text, restT_text, show parts begun.mode = true from rfl]
      simp [List.isEmpty_eq_false_iff.2 h1, List.isEmpty_eq_false_iff.2 h2]
theorem one_text (f : Nat) (l : List UInt8) (hl : l ≠ []) : begun.one_ (f + 7) (tkT (bs l)) = some (if l.dropWhile blankB = [] then begun else p7 (bs (l.dropWhile blankB))) := by
  unfold PS.one_
  show (if _ then _ else PS.oneO (f + 7) (tkT (bs l)) begun) = _
  rw [if_neg (by
    rintro (⟨_, h⟩ | ⟨h, _⟩)
    · exact hl (List.length_eq_zero_iff.1 h)
    · exact absurd (show (3 : Int) = 5 from h) (by decide))]
  rcases text_ways l with ⟨h1, h2⟩ | ⟨h1, h2⟩ | ⟨h1, h2, h3⟩
  · rw [h2, if_neg hl]
    exact run_text hl h1 (f + 1)
  · rw [if_pos h2, PS.oneO, begun_blank (t := tkT (bs l)) h1, show begun.parted (tkT (bs l)) = false from by unfold PS.parted; rw [headT_text, restT_text, h2]; simp]
    rfl
  · rw [if_neg h2, PS.oneO, if_pos h3, PS.takesO, begun_blank (t := onlyT (tkT (bs l))) (head_head l h1)]
    exact run_text h2 (drop_head l) f
/-- One text alone: what is of it behind its blanks is the body's. -/
theorem all_text (f : Nat) (l : List UInt8) (hl : l ≠ []) : begun.allO (f + 7) [tkT (bs l)] = some (if l.dropWhile blankB = [] then p6 else p7 (bs (l.dropWhile blankB))) := by
  unfold PS.allO
  rw [PS.onesO, one_text f l hl]
  show Option.bind (some _) _ = _
  split
  · exact over_none (f + 1)
  · exact over_text (f + 6) _
theorem all_none (f : Nat) : begun.allO (f + 6) [] = some p6 := over_none f
end PS
end Go.Proofs.YtegcedboeemedaaGreatDoor

/-
What each mode makes of a token that opens nothing and closes nothing (printed by gen/bdmode.py).
-/
namespace Go.Proofs.YtegcedboeemedaaGreatDoor
open Go.RowKit Go.Cl
open PS (Bare)
attribute [local go_sem ↓] Go.wp_at_zero Go.wp_at_succ
section
variable {m : Int} {wt w w' w2 : World} {X base Bp : Nat} {P Q : PS}
set_option maxRecDepth 100000 in
set_option maxHeartbeats 1000000 in
theorem initial_bare (h : BdAt m wt w X base Bp P) (_hl : P.Lim 5000000) {t : Tk} {A : Option Addr} {n c : Nat} (a z : Int) (ht : TkAt wt Bp t A n c) (hb : Bare t) :
    Calls Tryz.prog 187 #[.pointer (some ⟨X, 0, none⟩), tkV t A n c a z] w fun e w' => e = .returned (.bool true) ∧ BdTo m wt w w' X base Bp ({ P with quirks := true, mode := 1 }) := by
  obtain ⟨w1, hw1⟩ : ∃ w1, w1 = w.alloc (.cells (tkC7 t A n c a z) 170) := ⟨_, rfl⟩
  have hb1 : Below w.heap.size w w1 := by rw [hw1]; exact (Below.refl _ w).alloc (Nat.le_refl _) _
  have hk1 : w1.heap[w.heap.size]? = some (.cells (tkC7 t A n c a z) 170 (0, 0)) := by rw [hw1]; exact heap_alloc_new w _
  have T1 := Lib.hid (h.to hb1)
  have K1 := Lib.hid hk1
  have HNM : Hid (t.name.size ≤ 1000000000) := ht.name
  have HTX : Hid (t.text.size ≤ 1000000000) := ht.text
  have HHD : Hid (bs (PS.headT t) = ⟨#[]⟩) := by show _ = _; rw [hb.head]; rfl
  have HST : Hid (∀ l, PS.st t l = false) := hb.st
  have HEN : Hid (∀ l, PS.en t l = false) := hb.en
  have e4 : (t.kind == 4) = false := beq_eq_false_iff_ne.2 hb.k4
  have e5 : (t.kind == 5) = false := beq_eq_false_iff_ne.2 hb.k5
  have e2 : (t.kind == 2) = false := beq_eq_false_iff_ne.2 hb.k2
  have e1 : (t.kind == 1) = false := beq_eq_false_iff_ne.2 hb.k1
  have HS1 := Lib.hid (fun (v : World) (hv : BdAt m wt v X base Bp (P)) => hv.store (i := 8) (v := .bool true) (Q := { P with quirks := true }) (fun _ _ _ => rfl) rfl rfl rfl)
  have a1_0 := cell_blk (i := 0) (v := .int .i64 t.kind) hk1 rfl
  have a1_1 := cell_blk (i := 1) (v := .string t.name) hk1 rfl
  have a1_2 := cell_blk (i := 2) (v := .slice A n c) hk1 rfl
  have a1_3 := cell_blk (i := 3) (v := .string t.text) hk1 rfl
  have a1_4 := cell_blk (i := 4) (v := .bool t.self) hk1 rfl
  have a1_5 := cell_blk (i := 5) (v := .int .i64 a) hk1 rfl
  have a1_6 := cell_blk (i := 6) (v := .int .i64 z) hk1 rfl
  clear h ht hb hk1 hb1
  go_enter Tryz.func187, Tryz.ntmps187
  go_upto_region 1 with fail
  rw [← hw1]
  clear hw1
  go_wp2_with (first
    | (go_at_call 227; refine (to_at (T2.out.trans (HS1.out _ T2.out.at_)).at_ 1 true).mono ?_; rintro e w3 ⟨rfl, hb⟩; have T3 := Lib.hid ((T2.out.trans (HS1.out _ T2.out.at_)).trans hb); have hk := hb.other (b := w.heap.size) ((HS1.out _ T2.out.at_).other (b := w.heap.size) (K2.out) (by decide)) (by decide); clear a2_0 a2_1 a2_2 a2_3 a2_4 a2_5 a2_6; have a3_0 := cell_blk (i := 0) (v := .int .i64 t.kind) hk rfl; have a3_1 := cell_blk (i := 1) (v := .string t.name) hk rfl; have a3_2 := cell_blk (i := 2) (v := .slice A n c) hk rfl; have a3_3 := cell_blk (i := 3) (v := .string t.text) hk rfl; have a3_4 := cell_blk (i := 4) (v := .bool t.self) hk rfl; have a3_5 := cell_blk (i := 5) (v := .int .i64 a) hk rfl; have a3_6 := cell_blk (i := 6) (v := .int .i64 z) hk rfl; have K3 := Lib.hid hk; clear hk hb)
    | (go_at_call 154; refine (blanks_any t A n c a z _ HTX.out).mono ?_; rintro e w2 ⟨rfl, hb⟩; have T2 := Lib.hid (T1.out.next hb); have hk := (hb.block _ (Array.getElem?_eq_some_iff.1 (K1.out)).1).trans (K1.out); clear a1_0 a1_1 a1_2 a1_3 a1_4 a1_5 a1_6; have a2_0 := cell_blk (i := 0) (v := .int .i64 t.kind) hk rfl; have a2_1 := cell_blk (i := 1) (v := .string t.name) hk rfl; have a2_2 := cell_blk (i := 2) (v := .slice A n c) hk rfl; have a2_3 := cell_blk (i := 3) (v := .string t.text) hk rfl; have a2_4 := cell_blk (i := 4) (v := .bool t.self) hk rfl; have a2_5 := cell_blk (i := 5) (v := .int .i64 a) hk rfl; have a2_6 := cell_blk (i := 6) (v := .int .i64 z) hk rfl; have K2 := Lib.hid hk; clear hk hb; have q8 := T2.out.at_.cell 8 (v := .bool P.quirks) (fun _ _ _ => rfl); have g8 := T2.out.at_.fr 8; rw [HHD.out])
    | fail)
  go_ret
  exact ⟨rfl, T3.out⟩
set_option maxRecDepth 100000 in
set_option maxHeartbeats 1000000 in
theorem initial_head (h : BdAt m wt w X base Bp P) (_hl : P.Lim 5000000) {t : Tk} {A : Option Addr} {n c : Nat} (a z : Int) (ht : TkAt wt Bp t A n c) (hb : PS.headT t ≠ []) :
    Calls Tryz.prog 187 #[.pointer (some ⟨X, 0, none⟩), tkV t A n c a z] w fun e w' => e = .returned (.bool false) ∧ BdTo m wt w w' X base Bp (P) := by
  obtain ⟨w1, hw1⟩ : ∃ w1, w1 = w.alloc (.cells (tkC7 t A n c a z) 170) := ⟨_, rfl⟩
  have hb1 : Below w.heap.size w w1 := by rw [hw1]; exact (Below.refl _ w).alloc (Nat.le_refl _) _
  have hk1 : w1.heap[w.heap.size]? = some (.cells (tkC7 t A n c a z) 170 (0, 0)) := by rw [hw1]; exact heap_alloc_new w _
  have T1 := Lib.hid (h.to hb1)
  have K1 := Lib.hid hk1
  have HNM : Hid (t.name.size ≤ 1000000000) := ht.name
  have HTX : Hid (t.text.size ≤ 1000000000) := ht.text
  have HNE : ((bs (PS.headT t)).toList == []) = false := str_ne (fun e => hb (List.length_eq_zero_iff.1 e))
  have a1_0 := cell_blk (i := 0) (v := .int .i64 t.kind) hk1 rfl
  have a1_1 := cell_blk (i := 1) (v := .string t.name) hk1 rfl
  have a1_2 := cell_blk (i := 2) (v := .slice A n c) hk1 rfl
  have a1_3 := cell_blk (i := 3) (v := .string t.text) hk1 rfl
  have a1_4 := cell_blk (i := 4) (v := .bool t.self) hk1 rfl
  have a1_5 := cell_blk (i := 5) (v := .int .i64 a) hk1 rfl
  have a1_6 := cell_blk (i := 6) (v := .int .i64 z) hk1 rfl
  clear h ht hb hk1 hb1
  go_enter Tryz.func187, Tryz.ntmps187
  go_upto_region 1 with fail
  rw [← hw1]
  clear hw1
  go_wp2_with (first
    | (go_at_call 154; refine (blanks_any t A n c a z _ HTX.out).mono ?_; rintro e w2 ⟨rfl, hb⟩; have T2 := Lib.hid (T1.out.next hb); have hk := (hb.block _ (Array.getElem?_eq_some_iff.1 (K1.out)).1).trans (K1.out); clear a1_0 a1_1 a1_2 a1_3 a1_4 a1_5 a1_6; have a2_0 := cell_blk (i := 0) (v := .int .i64 t.kind) hk rfl; have a2_1 := cell_blk (i := 1) (v := .string t.name) hk rfl; have a2_2 := cell_blk (i := 2) (v := .slice A n c) hk rfl; have a2_3 := cell_blk (i := 3) (v := .string t.text) hk rfl; have a2_4 := cell_blk (i := 4) (v := .bool t.self) hk rfl; have a2_5 := cell_blk (i := 5) (v := .int .i64 a) hk rfl; have a2_6 := cell_blk (i := 6) (v := .int .i64 z) hk rfl; have K2 := Lib.hid hk; clear hk hb)
    | fail)
  go_ret
  exact ⟨rfl, T2.out⟩
set_option maxRecDepth 100000 in
set_option maxHeartbeats 1000000 in
theorem said_no (h : BdAt m wt w X base Bp P) (_hl : P.Lim 5000000) {t : Tk} {A : Option Addr} {n c : Nat} (a z : Int) (ht : TkAt wt Bp t A n c) (hb : Bare t) :
    Calls Tryz.prog 231 #[.pointer (some ⟨X, 0, none⟩), tkV t A n c a z] w fun e w' => e = .returned (.bool false) ∧ Below w.heap.size w w' := by
  obtain ⟨w1, hw1⟩ : ∃ w1, w1 = w.alloc (.cells (tkC7 t A n c a z) 170) := ⟨_, rfl⟩
  have hb1 : Below w.heap.size w w1 := by rw [hw1]; exact (Below.refl _ w).alloc (Nat.le_refl _) _
  have hk1 : w1.heap[w.heap.size]? = some (.cells (tkC7 t A n c a z) 170 (0, 0)) := by rw [hw1]; exact heap_alloc_new w _
  have T1 := Lib.hid (h.to hb1)
  have K1 := Lib.hid hk1
  have HB1 := Lib.hid hb1
  have HNM : Hid (t.name.size ≤ 1000000000) := ht.name
  have HTX : Hid (t.text.size ≤ 1000000000) := ht.text
  have HHD : Hid (bs (PS.headT t) = ⟨#[]⟩) := by show _ = _; rw [hb.head]; rfl
  have HST : Hid (∀ l, PS.st t l = false) := hb.st
  have HEN : Hid (∀ l, PS.en t l = false) := hb.en
  have e4 : (t.kind == 4) = false := beq_eq_false_iff_ne.2 hb.k4
  have e5 : (t.kind == 5) = false := beq_eq_false_iff_ne.2 hb.k5
  have e2 : (t.kind == 2) = false := beq_eq_false_iff_ne.2 hb.k2
  have e1 : (t.kind == 1) = false := beq_eq_false_iff_ne.2 hb.k1
  have a1_0 := cell_blk (i := 0) (v := .int .i64 t.kind) hk1 rfl
  have a1_1 := cell_blk (i := 1) (v := .string t.name) hk1 rfl
  have a1_2 := cell_blk (i := 2) (v := .slice A n c) hk1 rfl
  have a1_3 := cell_blk (i := 3) (v := .string t.text) hk1 rfl
  have a1_4 := cell_blk (i := 4) (v := .bool t.self) hk1 rfl
  have a1_5 := cell_blk (i := 5) (v := .int .i64 a) hk1 rfl
  have a1_6 := cell_blk (i := 6) (v := .int .i64 z) hk1 rfl
  clear h ht hb hk1 hb1
  go_enter Tryz.func231, Tryz.ntmps231
  go_upto_region 2 with fail
  rw [← hw1]
  clear hw1
  go_wp2_with (first
    | (go_at_call 228; refine (tokStart_any t A n c a z _ m _ HNM.out (by decide) T1.out.at_.len).mono ?_; rintro e w2 ⟨rfl, hb⟩; have HB2 := Lib.hid (HB1.out.trans (hb.mono HB1.out.size)); have T2 := Lib.hid (T1.out.next hb); have hk := (hb.block _ (Array.getElem?_eq_some_iff.1 (K1.out)).1).trans (K1.out); clear a1_0 a1_1 a1_2 a1_3 a1_4 a1_5 a1_6; have a2_0 := cell_blk (i := 0) (v := .int .i64 t.kind) hk rfl; have a2_1 := cell_blk (i := 1) (v := .string t.name) hk rfl; have a2_2 := cell_blk (i := 2) (v := .slice A n c) hk rfl; have a2_3 := cell_blk (i := 3) (v := .string t.text) hk rfl; have a2_4 := cell_blk (i := 4) (v := .bool t.self) hk rfl; have a2_5 := cell_blk (i := 5) (v := .int .i64 a) hk rfl; have a2_6 := cell_blk (i := 6) (v := .int .i64 z) hk rfl; have K2 := Lib.hid hk; clear hk hb; rw [HST.out])
    | fail)
  go_ret
  exact ⟨rfl, HB2.out⟩
set_option maxRecDepth 100000 in
set_option maxHeartbeats 1000000 in
theorem beforeHTML_bare (h : BdAt m wt w X base Bp P) (hl : P.Lim 5000000) {t : Tk} {A : Option Addr} {n c : Nat} (a z : Int) (ht : TkAt wt Bp t A n c) (hb : Bare t) :
    Calls Tryz.prog 188 #[.pointer (some ⟨X, 0, none⟩), tkV t A n c a z] w fun e w' => e = .returned (.bool true) ∧ BdTo m wt w w' X base Bp ({ P.html [] with mode := 2 }) := by
  obtain ⟨w1, hw1⟩ : ∃ w1, w1 = w.alloc (.cells (tkC7 t A n c a z) 170) := ⟨_, rfl⟩
  have hb1 : Below w.heap.size w w1 := by rw [hw1]; exact (Below.refl _ w).alloc (Nat.le_refl _) _
  have hk1 : w1.heap[w.heap.size]? = some (.cells (tkC7 t A n c a z) 170 (0, 0)) := by rw [hw1]; exact heap_alloc_new w _
  have T1 := Lib.hid (h.to hb1)
  have K1 := Lib.hid hk1
  have HNM : Hid (t.name.size ≤ 1000000000) := ht.name
  have HTX : Hid (t.text.size ≤ 1000000000) := ht.text
  have HHD : Hid (bs (PS.headT t) = ⟨#[]⟩) := by show _ = _; rw [hb.head]; rfl
  have HST : Hid (∀ l, PS.st t l = false) := hb.st
  have HEN : Hid (∀ l, PS.en t l = false) := hb.en
  have e4 : (t.kind == 4) = false := beq_eq_false_iff_ne.2 hb.k4
  have e5 : (t.kind == 5) = false := beq_eq_false_iff_ne.2 hb.k5
  have e2 : (t.kind == 2) = false := beq_eq_false_iff_ne.2 hb.k2
  have e1 : (t.kind == 1) = false := beq_eq_false_iff_ne.2 hb.k1
  have HHT := Lib.hid (fun (v : World) (hv : BdAt m wt v X base Bp P) => html_at hv (hl.more (by decide)) (ats := []) (fun _ _ => Sl.nil) (Nat.zero_le _))
  have a1_0 := cell_blk (i := 0) (v := .int .i64 t.kind) hk1 rfl
  have a1_1 := cell_blk (i := 1) (v := .string t.name) hk1 rfl
  have a1_2 := cell_blk (i := 2) (v := .slice A n c) hk1 rfl
  have a1_3 := cell_blk (i := 3) (v := .string t.text) hk1 rfl
  have a1_4 := cell_blk (i := 4) (v := .bool t.self) hk1 rfl
  have a1_5 := cell_blk (i := 5) (v := .int .i64 a) hk1 rfl
  have a1_6 := cell_blk (i := 6) (v := .int .i64 z) hk1 rfl
  clear h ht hl hb hk1 hb1
  go_enter Tryz.func188, Tryz.ntmps188
  go_upto_region 1 with fail
  rw [← hw1]
  clear hw1
  go_wp2_with (first
    | (go_at_call 227; refine (to_at T4.out.at_ 2 true).mono ?_; rintro e w5 ⟨rfl, hb⟩; have T5 := Lib.hid (T4.out.trans hb); have hk := hb.other (b := w.heap.size) (K4.out) (by decide); clear a4_0 a4_1 a4_2 a4_3 a4_4 a4_5 a4_6; have a5_0 := cell_blk (i := 0) (v := .int .i64 t.kind) hk rfl; have a5_1 := cell_blk (i := 1) (v := .string t.name) hk rfl; have a5_2 := cell_blk (i := 2) (v := .slice A n c) hk rfl; have a5_3 := cell_blk (i := 3) (v := .string t.text) hk rfl; have a5_4 := cell_blk (i := 4) (v := .bool t.self) hk rfl; have a5_5 := cell_blk (i := 5) (v := .int .i64 a) hk rfl; have a5_6 := cell_blk (i := 6) (v := .int .i64 z) hk rfl; have K5 := Lib.hid hk; clear hk hb)
    | (go_at_call 229; refine (HHT.out _ T3.out.at_).mono ?_; rintro e w4 ⟨rfl, hb⟩; have T4 := Lib.hid (T3.out.trans hb); have hk := hb.other (b := w.heap.size) (K3.out) (by decide); clear a3_0 a3_1 a3_2 a3_3 a3_4 a3_5 a3_6; have a4_0 := cell_blk (i := 0) (v := .int .i64 t.kind) hk rfl; have a4_1 := cell_blk (i := 1) (v := .string t.name) hk rfl; have a4_2 := cell_blk (i := 2) (v := .slice A n c) hk rfl; have a4_3 := cell_blk (i := 3) (v := .string t.text) hk rfl; have a4_4 := cell_blk (i := 4) (v := .bool t.self) hk rfl; have a4_5 := cell_blk (i := 5) (v := .int .i64 a) hk rfl; have a4_6 := cell_blk (i := 6) (v := .int .i64 z) hk rfl; have K4 := Lib.hid hk; clear hk hb)
    | (go_at_call 228; refine (tokStart_any t A n c a z _ m _ HNM.out (by decide) T2.out.at_.len).mono ?_; rintro e w3 ⟨rfl, hb⟩; have T3 := Lib.hid (T2.out.next hb); have hk := (hb.block _ (Array.getElem?_eq_some_iff.1 (K2.out)).1).trans (K2.out); clear a2_0 a2_1 a2_2 a2_3 a2_4 a2_5 a2_6; have a3_0 := cell_blk (i := 0) (v := .int .i64 t.kind) hk rfl; have a3_1 := cell_blk (i := 1) (v := .string t.name) hk rfl; have a3_2 := cell_blk (i := 2) (v := .slice A n c) hk rfl; have a3_3 := cell_blk (i := 3) (v := .string t.text) hk rfl; have a3_4 := cell_blk (i := 4) (v := .bool t.self) hk rfl; have a3_5 := cell_blk (i := 5) (v := .int .i64 a) hk rfl; have a3_6 := cell_blk (i := 6) (v := .int .i64 z) hk rfl; have K3 := Lib.hid hk; clear hk hb; rw [HST.out])
    | (go_at_call 154; refine (blanks_any t A n c a z _ HTX.out).mono ?_; rintro e w2 ⟨rfl, hb⟩; have T2 := Lib.hid (T1.out.next hb); have hk := (hb.block _ (Array.getElem?_eq_some_iff.1 (K1.out)).1).trans (K1.out); clear a1_0 a1_1 a1_2 a1_3 a1_4 a1_5 a1_6; have a2_0 := cell_blk (i := 0) (v := .int .i64 t.kind) hk rfl; have a2_1 := cell_blk (i := 1) (v := .string t.name) hk rfl; have a2_2 := cell_blk (i := 2) (v := .slice A n c) hk rfl; have a2_3 := cell_blk (i := 3) (v := .string t.text) hk rfl; have a2_4 := cell_blk (i := 4) (v := .bool t.self) hk rfl; have a2_5 := cell_blk (i := 5) (v := .int .i64 a) hk rfl; have a2_6 := cell_blk (i := 6) (v := .int .i64 z) hk rfl; have K2 := Lib.hid hk; clear hk hb; rw [HHD.out])
    | fail)
  go_ret
  exact ⟨rfl, T5.out⟩
set_option maxRecDepth 100000 in
set_option maxHeartbeats 1000000 in
theorem beforeHead_bare (h : BdAt m wt w X base Bp P) (hl : P.Lim 5000000) {t : Tk} {A : Option Addr} {n c : Nat} (a z : Int) (ht : TkAt wt Bp t A n c) (hb : Bare t) :
    Calls Tryz.prog 189 #[.pointer (some ⟨X, 0, none⟩), tkV t A n c a z] w fun e w' => e = .returned (.bool true) ∧ BdTo m wt w w' X base Bp ({ P.start (⟨#[104, 101, 97, 100]⟩ : ByteArray) [] with head := P.next, mode := 3 }) := by
  obtain ⟨w1, hw1⟩ : ∃ w1, w1 = w.alloc (.cells (tkC7 t A n c a z) 170) := ⟨_, rfl⟩
  have hb1 : Below w.heap.size w w1 := by rw [hw1]; exact (Below.refl _ w).alloc (Nat.le_refl _) _
  have hk1 : w1.heap[w.heap.size]? = some (.cells (tkC7 t A n c a z) 170 (0, 0)) := by rw [hw1]; exact heap_alloc_new w _
  have T1 := Lib.hid (h.to hb1)
  have K1 := Lib.hid hk1
  have HNM : Hid (t.name.size ≤ 1000000000) := ht.name
  have HTX : Hid (t.text.size ≤ 1000000000) := ht.text
  have HHD : Hid (bs (PS.headT t) = ⟨#[]⟩) := by show _ = _; rw [hb.head]; rfl
  have HST : Hid (∀ l, PS.st t l = false) := hb.st
  have HEN : Hid (∀ l, PS.en t l = false) := hb.en
  have e4 : (t.kind == 4) = false := beq_eq_false_iff_ne.2 hb.k4
  have e5 : (t.kind == 5) = false := beq_eq_false_iff_ne.2 hb.k5
  have e2 : (t.kind == 2) = false := beq_eq_false_iff_ne.2 hb.k2
  have e1 : (t.kind == 1) = false := beq_eq_false_iff_ne.2 hb.k1
  have HSA := Lib.hid (fun (v : World) (hv : BdAt m wt v X base Bp P) => said_no hv hl a z ht hb)
  have HTS := Lib.hid (fun (v : World) (hv : BdAt m wt v X base Bp P) => start_at hv (hl.more (by decide)) (⟨#[104, 101, 97, 100]⟩ : ByteArray) (by decide) (ats := []) Sl.nil (Nat.zero_le _))
  have HS1 := Lib.hid (fun (v : World) (hv : BdAt m wt v X base Bp (P.start (⟨#[104, 101, 97, 100]⟩ : ByteArray) [])) => hv.store (i := 6) (v := .int .i64 P.next) (Q := { P.start (⟨#[104, 101, 97, 100]⟩ : ByteArray) [] with head := P.next }) (fun _ _ _ => rfl) rfl rfl rfl)
  have a1_0 := cell_blk (i := 0) (v := .int .i64 t.kind) hk1 rfl
  have a1_1 := cell_blk (i := 1) (v := .string t.name) hk1 rfl
  have a1_2 := cell_blk (i := 2) (v := .slice A n c) hk1 rfl
  have a1_3 := cell_blk (i := 3) (v := .string t.text) hk1 rfl
  have a1_4 := cell_blk (i := 4) (v := .bool t.self) hk1 rfl
  have a1_5 := cell_blk (i := 5) (v := .int .i64 a) hk1 rfl
  have a1_6 := cell_blk (i := 6) (v := .int .i64 z) hk1 rfl
  clear h ht hl hb hk1 hb1
  go_enter Tryz.func189, Tryz.ntmps189
  go_upto_region 1 with fail
  rw [← hw1]
  clear hw1
  go_wp2_with (first
    | (go_at_call 227; refine (to_at (T5.out.trans (HS1.out _ T5.out.at_)).at_ 3 true).mono ?_; rintro e w6 ⟨rfl, hb⟩; have T6 := Lib.hid ((T5.out.trans (HS1.out _ T5.out.at_)).trans hb); have hk := hb.other (b := w.heap.size) ((HS1.out _ T5.out.at_).other (b := w.heap.size) (K5.out) (by decide)) (by decide); clear a5_0 a5_1 a5_2 a5_3 a5_4 a5_5 a5_6; have a6_0 := cell_blk (i := 0) (v := .int .i64 t.kind) hk rfl; have a6_1 := cell_blk (i := 1) (v := .string t.name) hk rfl; have a6_2 := cell_blk (i := 2) (v := .slice A n c) hk rfl; have a6_3 := cell_blk (i := 3) (v := .string t.text) hk rfl; have a6_4 := cell_blk (i := 4) (v := .bool t.self) hk rfl; have a6_5 := cell_blk (i := 5) (v := .int .i64 a) hk rfl; have a6_6 := cell_blk (i := 6) (v := .int .i64 z) hk rfl; have K6 := Lib.hid hk; clear hk hb)
    | (go_at_call 232; refine (HTS.out _ T4.out.at_).mono ?_; rintro e w5 ⟨rfl, hb⟩; have T5 := Lib.hid (T4.out.trans hb); have hk := hb.other (b := w.heap.size) (K4.out) (by decide); clear a4_0 a4_1 a4_2 a4_3 a4_4 a4_5 a4_6; have a5_0 := cell_blk (i := 0) (v := .int .i64 t.kind) hk rfl; have a5_1 := cell_blk (i := 1) (v := .string t.name) hk rfl; have a5_2 := cell_blk (i := 2) (v := .slice A n c) hk rfl; have a5_3 := cell_blk (i := 3) (v := .string t.text) hk rfl; have a5_4 := cell_blk (i := 4) (v := .bool t.self) hk rfl; have a5_5 := cell_blk (i := 5) (v := .int .i64 a) hk rfl; have a5_6 := cell_blk (i := 6) (v := .int .i64 z) hk rfl; have K5 := Lib.hid hk; clear hk hb; have q6 := T5.out.at_.cell 6 (v := .int .i64 (P.start (⟨#[104, 101, 97, 100]⟩ : ByteArray) []).head) (fun _ _ _ => rfl); have g6 := T5.out.at_.fr 6)
    | (go_at_call 228; refine (tokStart_any t A n c a z _ m _ HNM.out (by decide) T3.out.at_.len).mono ?_; rintro e w4 ⟨rfl, hb⟩; have T4 := Lib.hid (T3.out.next hb); have hk := (hb.block _ (Array.getElem?_eq_some_iff.1 (K3.out)).1).trans (K3.out); clear a3_0 a3_1 a3_2 a3_3 a3_4 a3_5 a3_6; have a4_0 := cell_blk (i := 0) (v := .int .i64 t.kind) hk rfl; have a4_1 := cell_blk (i := 1) (v := .string t.name) hk rfl; have a4_2 := cell_blk (i := 2) (v := .slice A n c) hk rfl; have a4_3 := cell_blk (i := 3) (v := .string t.text) hk rfl; have a4_4 := cell_blk (i := 4) (v := .bool t.self) hk rfl; have a4_5 := cell_blk (i := 5) (v := .int .i64 a) hk rfl; have a4_6 := cell_blk (i := 6) (v := .int .i64 z) hk rfl; have K4 := Lib.hid hk; clear hk hb; rw [HST.out])
    | (go_at_call 231; refine (HSA.out _ T2.out.at_).mono ?_; rintro e w3 ⟨rfl, hb⟩; have T3 := Lib.hid (T2.out.next hb); have hk := (hb.block _ (Array.getElem?_eq_some_iff.1 (K2.out)).1).trans (K2.out); clear a2_0 a2_1 a2_2 a2_3 a2_4 a2_5 a2_6; have a3_0 := cell_blk (i := 0) (v := .int .i64 t.kind) hk rfl; have a3_1 := cell_blk (i := 1) (v := .string t.name) hk rfl; have a3_2 := cell_blk (i := 2) (v := .slice A n c) hk rfl; have a3_3 := cell_blk (i := 3) (v := .string t.text) hk rfl; have a3_4 := cell_blk (i := 4) (v := .bool t.self) hk rfl; have a3_5 := cell_blk (i := 5) (v := .int .i64 a) hk rfl; have a3_6 := cell_blk (i := 6) (v := .int .i64 z) hk rfl; have K3 := Lib.hid hk; clear hk hb)
    | (go_at_call 154; refine (blanks_any t A n c a z _ HTX.out).mono ?_; rintro e w2 ⟨rfl, hb⟩; have T2 := Lib.hid (T1.out.next hb); have hk := (hb.block _ (Array.getElem?_eq_some_iff.1 (K1.out)).1).trans (K1.out); clear a1_0 a1_1 a1_2 a1_3 a1_4 a1_5 a1_6; have a2_0 := cell_blk (i := 0) (v := .int .i64 t.kind) hk rfl; have a2_1 := cell_blk (i := 1) (v := .string t.name) hk rfl; have a2_2 := cell_blk (i := 2) (v := .slice A n c) hk rfl; have a2_3 := cell_blk (i := 3) (v := .string t.text) hk rfl; have a2_4 := cell_blk (i := 4) (v := .bool t.self) hk rfl; have a2_5 := cell_blk (i := 5) (v := .int .i64 a) hk rfl; have a2_6 := cell_blk (i := 6) (v := .int .i64 z) hk rfl; have K2 := Lib.hid hk; clear hk hb; rw [HHD.out])
    | fail)
  go_ret
  exact ⟨rfl, T6.out⟩
set_option maxRecDepth 100000 in
set_option maxHeartbeats 1000000 in
theorem inHead_bare (h : BdAt m wt w X base Bp P) (hl : P.Lim 5000000) {t : Tk} {A : Option Addr} {n c : Nat} (a z : Int) (ht : TkAt wt Bp t A n c) (hb : Bare t) :
    Calls Tryz.prog 190 #[.pointer (some ⟨X, 0, none⟩), tkV t A n c a z] w fun e w' => e = .returned (.bool true) ∧ BdTo m wt w w' X base Bp ({ P.pop with mode := 5 }) := by
  obtain ⟨w1, hw1⟩ : ∃ w1, w1 = w.alloc (.cells (tkC7 t A n c a z) 170) := ⟨_, rfl⟩
  have hb1 : Below w.heap.size w w1 := by rw [hw1]; exact (Below.refl _ w).alloc (Nat.le_refl _) _
  have hk1 : w1.heap[w.heap.size]? = some (.cells (tkC7 t A n c a z) 170 (0, 0)) := by rw [hw1]; exact heap_alloc_new w _
  have T1 := Lib.hid (h.to hb1)
  have K1 := Lib.hid hk1
  have HNM : Hid (t.name.size ≤ 1000000000) := ht.name
  have HTX : Hid (t.text.size ≤ 1000000000) := ht.text
  have HHD : Hid (bs (PS.headT t) = ⟨#[]⟩) := by show _ = _; rw [hb.head]; rfl
  have HST : Hid (∀ l, PS.st t l = false) := hb.st
  have HEN : Hid (∀ l, PS.en t l = false) := hb.en
  have e4 : (t.kind == 4) = false := beq_eq_false_iff_ne.2 hb.k4
  have e5 : (t.kind == 5) = false := beq_eq_false_iff_ne.2 hb.k5
  have e2 : (t.kind == 2) = false := beq_eq_false_iff_ne.2 hb.k2
  have e1 : (t.kind == 1) = false := beq_eq_false_iff_ne.2 hb.k1
  have HSA := Lib.hid (fun (v : World) (hv : BdAt m wt v X base Bp P) => said_no hv hl a z ht hb)
  have HOK := Lib.hid (hl.ok (by decide))
  have a1_0 := cell_blk (i := 0) (v := .int .i64 t.kind) hk1 rfl
  have a1_1 := cell_blk (i := 1) (v := .string t.name) hk1 rfl
  have a1_2 := cell_blk (i := 2) (v := .slice A n c) hk1 rfl
  have a1_3 := cell_blk (i := 3) (v := .string t.text) hk1 rfl
  have a1_4 := cell_blk (i := 4) (v := .bool t.self) hk1 rfl
  have a1_5 := cell_blk (i := 5) (v := .int .i64 a) hk1 rfl
  have a1_6 := cell_blk (i := 6) (v := .int .i64 z) hk1 rfl
  clear h ht hl hb hk1 hb1
  go_enter Tryz.func190, Tryz.ntmps190
  go_upto_region 1 with fail
  rw [← hw1]
  clear hw1
  go_wp2_with (first
    | (go_at_call 227; refine (to_at T8.out.at_ 5 true).mono ?_; rintro e w9 ⟨rfl, hb⟩; have T9 := Lib.hid (T8.out.trans hb); have hk := hb.other (b := w.heap.size) (K8.out) (by decide); clear a8_0 a8_1 a8_2 a8_3 a8_4 a8_5 a8_6; have a9_0 := cell_blk (i := 0) (v := .int .i64 t.kind) hk rfl; have a9_1 := cell_blk (i := 1) (v := .string t.name) hk rfl; have a9_2 := cell_blk (i := 2) (v := .slice A n c) hk rfl; have a9_3 := cell_blk (i := 3) (v := .string t.text) hk rfl; have a9_4 := cell_blk (i := 4) (v := .bool t.self) hk rfl; have a9_5 := cell_blk (i := 5) (v := .int .i64 a) hk rfl; have a9_6 := cell_blk (i := 6) (v := .int .i64 z) hk rfl; have K9 := Lib.hid hk; clear hk hb)
    | (go_at_call 236; refine (pop_at T7.out.at_ HOK.out).mono ?_; rintro e w8 ⟨rfl, hb⟩; have T8 := Lib.hid (T7.out.trans hb); have hk := hb.other (b := w.heap.size) (K7.out) (by decide); clear a7_0 a7_1 a7_2 a7_3 a7_4 a7_5 a7_6; have a8_0 := cell_blk (i := 0) (v := .int .i64 t.kind) hk rfl; have a8_1 := cell_blk (i := 1) (v := .string t.name) hk rfl; have a8_2 := cell_blk (i := 2) (v := .slice A n c) hk rfl; have a8_3 := cell_blk (i := 3) (v := .string t.text) hk rfl; have a8_4 := cell_blk (i := 4) (v := .bool t.self) hk rfl; have a8_5 := cell_blk (i := 5) (v := .int .i64 a) hk rfl; have a8_6 := cell_blk (i := 6) (v := .int .i64 z) hk rfl; have K8 := Lib.hid hk; clear hk hb)
    | (go_at_call 230; refine (tokEnd_any t A n c a z _ m _ HNM.out (by decide) T6.out.at_.len).mono ?_; rintro e w7 ⟨rfl, hb⟩; have T7 := Lib.hid (T6.out.next hb); have hk := (hb.block _ (Array.getElem?_eq_some_iff.1 (K6.out)).1).trans (K6.out); clear a6_0 a6_1 a6_2 a6_3 a6_4 a6_5 a6_6; have a7_0 := cell_blk (i := 0) (v := .int .i64 t.kind) hk rfl; have a7_1 := cell_blk (i := 1) (v := .string t.name) hk rfl; have a7_2 := cell_blk (i := 2) (v := .slice A n c) hk rfl; have a7_3 := cell_blk (i := 3) (v := .string t.text) hk rfl; have a7_4 := cell_blk (i := 4) (v := .bool t.self) hk rfl; have a7_5 := cell_blk (i := 5) (v := .int .i64 a) hk rfl; have a7_6 := cell_blk (i := 6) (v := .int .i64 z) hk rfl; have K7 := Lib.hid hk; clear hk hb; rw [HEN.out])
    | (go_at_call 228; refine (tokStart_any t A n c a z _ m _ HNM.out (by decide) T5.out.at_.len).mono ?_; rintro e w6 ⟨rfl, hb⟩; have T6 := Lib.hid (T5.out.next hb); have hk := (hb.block _ (Array.getElem?_eq_some_iff.1 (K5.out)).1).trans (K5.out); clear a5_0 a5_1 a5_2 a5_3 a5_4 a5_5 a5_6; have a6_0 := cell_blk (i := 0) (v := .int .i64 t.kind) hk rfl; have a6_1 := cell_blk (i := 1) (v := .string t.name) hk rfl; have a6_2 := cell_blk (i := 2) (v := .slice A n c) hk rfl; have a6_3 := cell_blk (i := 3) (v := .string t.text) hk rfl; have a6_4 := cell_blk (i := 4) (v := .bool t.self) hk rfl; have a6_5 := cell_blk (i := 5) (v := .int .i64 a) hk rfl; have a6_6 := cell_blk (i := 6) (v := .int .i64 z) hk rfl; have K6 := Lib.hid hk; clear hk hb; rw [HST.out])
    | (go_at_call 228; refine (tokStart_any t A n c a z _ m _ HNM.out (by decide) T4.out.at_.len).mono ?_; rintro e w5 ⟨rfl, hb⟩; have T5 := Lib.hid (T4.out.next hb); have hk := (hb.block _ (Array.getElem?_eq_some_iff.1 (K4.out)).1).trans (K4.out); clear a4_0 a4_1 a4_2 a4_3 a4_4 a4_5 a4_6; have a5_0 := cell_blk (i := 0) (v := .int .i64 t.kind) hk rfl; have a5_1 := cell_blk (i := 1) (v := .string t.name) hk rfl; have a5_2 := cell_blk (i := 2) (v := .slice A n c) hk rfl; have a5_3 := cell_blk (i := 3) (v := .string t.text) hk rfl; have a5_4 := cell_blk (i := 4) (v := .bool t.self) hk rfl; have a5_5 := cell_blk (i := 5) (v := .int .i64 a) hk rfl; have a5_6 := cell_blk (i := 6) (v := .int .i64 z) hk rfl; have K5 := Lib.hid hk; clear hk hb; rw [HST.out])
    | (go_at_call 228; refine (tokStart_any t A n c a z _ m _ HNM.out (by decide) T3.out.at_.len).mono ?_; rintro e w4 ⟨rfl, hb⟩; have T4 := Lib.hid (T3.out.next hb); have hk := (hb.block _ (Array.getElem?_eq_some_iff.1 (K3.out)).1).trans (K3.out); clear a3_0 a3_1 a3_2 a3_3 a3_4 a3_5 a3_6; have a4_0 := cell_blk (i := 0) (v := .int .i64 t.kind) hk rfl; have a4_1 := cell_blk (i := 1) (v := .string t.name) hk rfl; have a4_2 := cell_blk (i := 2) (v := .slice A n c) hk rfl; have a4_3 := cell_blk (i := 3) (v := .string t.text) hk rfl; have a4_4 := cell_blk (i := 4) (v := .bool t.self) hk rfl; have a4_5 := cell_blk (i := 5) (v := .int .i64 a) hk rfl; have a4_6 := cell_blk (i := 6) (v := .int .i64 z) hk rfl; have K4 := Lib.hid hk; clear hk hb; rw [HST.out])
    | (go_at_call 231; refine (HSA.out _ T2.out.at_).mono ?_; rintro e w3 ⟨rfl, hb⟩; have T3 := Lib.hid (T2.out.next hb); have hk := (hb.block _ (Array.getElem?_eq_some_iff.1 (K2.out)).1).trans (K2.out); clear a2_0 a2_1 a2_2 a2_3 a2_4 a2_5 a2_6; have a3_0 := cell_blk (i := 0) (v := .int .i64 t.kind) hk rfl; have a3_1 := cell_blk (i := 1) (v := .string t.name) hk rfl; have a3_2 := cell_blk (i := 2) (v := .slice A n c) hk rfl; have a3_3 := cell_blk (i := 3) (v := .string t.text) hk rfl; have a3_4 := cell_blk (i := 4) (v := .bool t.self) hk rfl; have a3_5 := cell_blk (i := 5) (v := .int .i64 a) hk rfl; have a3_6 := cell_blk (i := 6) (v := .int .i64 z) hk rfl; have K3 := Lib.hid hk; clear hk hb)
    | (go_at_call 154; refine (blanks_any t A n c a z _ HTX.out).mono ?_; rintro e w2 ⟨rfl, hb⟩; have T2 := Lib.hid (T1.out.next hb); have hk := (hb.block _ (Array.getElem?_eq_some_iff.1 (K1.out)).1).trans (K1.out); clear a1_0 a1_1 a1_2 a1_3 a1_4 a1_5 a1_6; have a2_0 := cell_blk (i := 0) (v := .int .i64 t.kind) hk rfl; have a2_1 := cell_blk (i := 1) (v := .string t.name) hk rfl; have a2_2 := cell_blk (i := 2) (v := .slice A n c) hk rfl; have a2_3 := cell_blk (i := 3) (v := .string t.text) hk rfl; have a2_4 := cell_blk (i := 4) (v := .bool t.self) hk rfl; have a2_5 := cell_blk (i := 5) (v := .int .i64 a) hk rfl; have a2_6 := cell_blk (i := 6) (v := .int .i64 z) hk rfl; have K2 := Lib.hid hk; clear hk hb; rw [HHD.out])
    | fail)
  go_ret
  exact ⟨rfl, T9.out⟩
set_option maxRecDepth 100000 in
set_option maxHeartbeats 1000000 in
theorem afterHead_bare (h : BdAt m wt w X base Bp P) (hl : P.Lim 5000000) {t : Tk} {A : Option Addr} {n c : Nat} (a z : Int) (ht : TkAt wt Bp t A n c) (hb : Bare t) :
    Calls Tryz.prog 192 #[.pointer (some ⟨X, 0, none⟩), tkV t A n c a z] w fun e w' => e = .returned (.bool true) ∧ BdTo m wt w w' X base Bp ({ P.start (⟨#[98, 111, 100, 121]⟩ : ByteArray) [] with mode := 6 }) := by
  obtain ⟨w1, hw1⟩ : ∃ w1, w1 = w.alloc (.cells (tkC7 t A n c a z) 170) := ⟨_, rfl⟩
  have hb1 : Below w.heap.size w w1 := by rw [hw1]; exact (Below.refl _ w).alloc (Nat.le_refl _) _
  have hk1 : w1.heap[w.heap.size]? = some (.cells (tkC7 t A n c a z) 170 (0, 0)) := by rw [hw1]; exact heap_alloc_new w _
  have T1 := Lib.hid (h.to hb1)
  have K1 := Lib.hid hk1
  have HNM : Hid (t.name.size ≤ 1000000000) := ht.name
  have HTX : Hid (t.text.size ≤ 1000000000) := ht.text
  have HHD : Hid (bs (PS.headT t) = ⟨#[]⟩) := by show _ = _; rw [hb.head]; rfl
  have HST : Hid (∀ l, PS.st t l = false) := hb.st
  have HEN : Hid (∀ l, PS.en t l = false) := hb.en
  have e4 : (t.kind == 4) = false := beq_eq_false_iff_ne.2 hb.k4
  have e5 : (t.kind == 5) = false := beq_eq_false_iff_ne.2 hb.k5
  have e2 : (t.kind == 2) = false := beq_eq_false_iff_ne.2 hb.k2
  have e1 : (t.kind == 1) = false := beq_eq_false_iff_ne.2 hb.k1
  have HSA := Lib.hid (fun (v : World) (hv : BdAt m wt v X base Bp P) => said_no hv hl a z ht hb)
  have HTS := Lib.hid (fun (v : World) (hv : BdAt m wt v X base Bp P) => start_at hv (hl.more (by decide)) (⟨#[98, 111, 100, 121]⟩ : ByteArray) (by decide) (ats := []) Sl.nil (Nat.zero_le _))
  have a1_0 := cell_blk (i := 0) (v := .int .i64 t.kind) hk1 rfl
  have a1_1 := cell_blk (i := 1) (v := .string t.name) hk1 rfl
  have a1_2 := cell_blk (i := 2) (v := .slice A n c) hk1 rfl
  have a1_3 := cell_blk (i := 3) (v := .string t.text) hk1 rfl
  have a1_4 := cell_blk (i := 4) (v := .bool t.self) hk1 rfl
  have a1_5 := cell_blk (i := 5) (v := .int .i64 a) hk1 rfl
  have a1_6 := cell_blk (i := 6) (v := .int .i64 z) hk1 rfl
  clear h ht hl hb hk1 hb1
  go_enter Tryz.func192, Tryz.ntmps192
  go_upto_region 1 with fail
  rw [← hw1]
  clear hw1
  go_wp2_with (first
    | (go_at_call 227; refine (to_at T8.out.at_ 6 true).mono ?_; rintro e w9 ⟨rfl, hb⟩; have T9 := Lib.hid (T8.out.trans hb); have hk := hb.other (b := w.heap.size) (K8.out) (by decide); clear a8_0 a8_1 a8_2 a8_3 a8_4 a8_5 a8_6; have a9_0 := cell_blk (i := 0) (v := .int .i64 t.kind) hk rfl; have a9_1 := cell_blk (i := 1) (v := .string t.name) hk rfl; have a9_2 := cell_blk (i := 2) (v := .slice A n c) hk rfl; have a9_3 := cell_blk (i := 3) (v := .string t.text) hk rfl; have a9_4 := cell_blk (i := 4) (v := .bool t.self) hk rfl; have a9_5 := cell_blk (i := 5) (v := .int .i64 a) hk rfl; have a9_6 := cell_blk (i := 6) (v := .int .i64 z) hk rfl; have K9 := Lib.hid hk; clear hk hb)
    | (go_at_call 232; refine (HTS.out _ T7.out.at_).mono ?_; rintro e w8 ⟨rfl, hb⟩; have T8 := Lib.hid (T7.out.trans hb); have hk := hb.other (b := w.heap.size) (K7.out) (by decide); clear a7_0 a7_1 a7_2 a7_3 a7_4 a7_5 a7_6; have a8_0 := cell_blk (i := 0) (v := .int .i64 t.kind) hk rfl; have a8_1 := cell_blk (i := 1) (v := .string t.name) hk rfl; have a8_2 := cell_blk (i := 2) (v := .slice A n c) hk rfl; have a8_3 := cell_blk (i := 3) (v := .string t.text) hk rfl; have a8_4 := cell_blk (i := 4) (v := .bool t.self) hk rfl; have a8_5 := cell_blk (i := 5) (v := .int .i64 a) hk rfl; have a8_6 := cell_blk (i := 6) (v := .int .i64 z) hk rfl; have K8 := Lib.hid hk; clear hk hb)
    | (go_at_call 228; refine (tokStart_any t A n c a z _ m _ HNM.out (by decide) T6.out.at_.len).mono ?_; rintro e w7 ⟨rfl, hb⟩; have T7 := Lib.hid (T6.out.next hb); have hk := (hb.block _ (Array.getElem?_eq_some_iff.1 (K6.out)).1).trans (K6.out); clear a6_0 a6_1 a6_2 a6_3 a6_4 a6_5 a6_6; have a7_0 := cell_blk (i := 0) (v := .int .i64 t.kind) hk rfl; have a7_1 := cell_blk (i := 1) (v := .string t.name) hk rfl; have a7_2 := cell_blk (i := 2) (v := .slice A n c) hk rfl; have a7_3 := cell_blk (i := 3) (v := .string t.text) hk rfl; have a7_4 := cell_blk (i := 4) (v := .bool t.self) hk rfl; have a7_5 := cell_blk (i := 5) (v := .int .i64 a) hk rfl; have a7_6 := cell_blk (i := 6) (v := .int .i64 z) hk rfl; have K7 := Lib.hid hk; clear hk hb; rw [HST.out])
    | (go_at_call 228; refine (tokStart_any t A n c a z _ m _ HNM.out (by decide) T5.out.at_.len).mono ?_; rintro e w6 ⟨rfl, hb⟩; have T6 := Lib.hid (T5.out.next hb); have hk := (hb.block _ (Array.getElem?_eq_some_iff.1 (K5.out)).1).trans (K5.out); clear a5_0 a5_1 a5_2 a5_3 a5_4 a5_5 a5_6; have a6_0 := cell_blk (i := 0) (v := .int .i64 t.kind) hk rfl; have a6_1 := cell_blk (i := 1) (v := .string t.name) hk rfl; have a6_2 := cell_blk (i := 2) (v := .slice A n c) hk rfl; have a6_3 := cell_blk (i := 3) (v := .string t.text) hk rfl; have a6_4 := cell_blk (i := 4) (v := .bool t.self) hk rfl; have a6_5 := cell_blk (i := 5) (v := .int .i64 a) hk rfl; have a6_6 := cell_blk (i := 6) (v := .int .i64 z) hk rfl; have K6 := Lib.hid hk; clear hk hb; rw [HST.out])
    | (go_at_call 228; refine (tokStart_any t A n c a z _ m _ HNM.out (by decide) T4.out.at_.len).mono ?_; rintro e w5 ⟨rfl, hb⟩; have T5 := Lib.hid (T4.out.next hb); have hk := (hb.block _ (Array.getElem?_eq_some_iff.1 (K4.out)).1).trans (K4.out); clear a4_0 a4_1 a4_2 a4_3 a4_4 a4_5 a4_6; have a5_0 := cell_blk (i := 0) (v := .int .i64 t.kind) hk rfl; have a5_1 := cell_blk (i := 1) (v := .string t.name) hk rfl; have a5_2 := cell_blk (i := 2) (v := .slice A n c) hk rfl; have a5_3 := cell_blk (i := 3) (v := .string t.text) hk rfl; have a5_4 := cell_blk (i := 4) (v := .bool t.self) hk rfl; have a5_5 := cell_blk (i := 5) (v := .int .i64 a) hk rfl; have a5_6 := cell_blk (i := 6) (v := .int .i64 z) hk rfl; have K5 := Lib.hid hk; clear hk hb; rw [HST.out])
    | (go_at_call 228; refine (tokStart_any t A n c a z _ m _ HNM.out (by decide) T3.out.at_.len).mono ?_; rintro e w4 ⟨rfl, hb⟩; have T4 := Lib.hid (T3.out.next hb); have hk := (hb.block _ (Array.getElem?_eq_some_iff.1 (K3.out)).1).trans (K3.out); clear a3_0 a3_1 a3_2 a3_3 a3_4 a3_5 a3_6; have a4_0 := cell_blk (i := 0) (v := .int .i64 t.kind) hk rfl; have a4_1 := cell_blk (i := 1) (v := .string t.name) hk rfl; have a4_2 := cell_blk (i := 2) (v := .slice A n c) hk rfl; have a4_3 := cell_blk (i := 3) (v := .string t.text) hk rfl; have a4_4 := cell_blk (i := 4) (v := .bool t.self) hk rfl; have a4_5 := cell_blk (i := 5) (v := .int .i64 a) hk rfl; have a4_6 := cell_blk (i := 6) (v := .int .i64 z) hk rfl; have K4 := Lib.hid hk; clear hk hb; rw [HST.out])
    | (go_at_call 231; refine (HSA.out _ T2.out.at_).mono ?_; rintro e w3 ⟨rfl, hb⟩; have T3 := Lib.hid (T2.out.next hb); have hk := (hb.block _ (Array.getElem?_eq_some_iff.1 (K2.out)).1).trans (K2.out); clear a2_0 a2_1 a2_2 a2_3 a2_4 a2_5 a2_6; have a3_0 := cell_blk (i := 0) (v := .int .i64 t.kind) hk rfl; have a3_1 := cell_blk (i := 1) (v := .string t.name) hk rfl; have a3_2 := cell_blk (i := 2) (v := .slice A n c) hk rfl; have a3_3 := cell_blk (i := 3) (v := .string t.text) hk rfl; have a3_4 := cell_blk (i := 4) (v := .bool t.self) hk rfl; have a3_5 := cell_blk (i := 5) (v := .int .i64 a) hk rfl; have a3_6 := cell_blk (i := 6) (v := .int .i64 z) hk rfl; have K3 := Lib.hid hk; clear hk hb)
    | (go_at_call 154; refine (blanks_any t A n c a z _ HTX.out).mono ?_; rintro e w2 ⟨rfl, hb⟩; have T2 := Lib.hid (T1.out.next hb); have hk := (hb.block _ (Array.getElem?_eq_some_iff.1 (K1.out)).1).trans (K1.out); clear a1_0 a1_1 a1_2 a1_3 a1_4 a1_5 a1_6; have a2_0 := cell_blk (i := 0) (v := .int .i64 t.kind) hk rfl; have a2_1 := cell_blk (i := 1) (v := .string t.name) hk rfl; have a2_2 := cell_blk (i := 2) (v := .slice A n c) hk rfl; have a2_3 := cell_blk (i := 3) (v := .string t.text) hk rfl; have a2_4 := cell_blk (i := 4) (v := .bool t.self) hk rfl; have a2_5 := cell_blk (i := 5) (v := .int .i64 a) hk rfl; have a2_6 := cell_blk (i := 6) (v := .int .i64 z) hk rfl; have K2 := Lib.hid hk; clear hk hb; rw [HHD.out])
    | fail)
  go_ret
  exact ⟨rfl, T9.out⟩
set_option maxRecDepth 100000 in
set_option maxHeartbeats 1000000 in
theorem inBody_text (h : BdAt m wt w X base Bp P) (hl : P.Lim 5000000) {t : Tk} {A : Option Addr} {n c : Nat} (a z : Int) (ht : TkAt wt Bp t A n c) (hb : t.kind = 3) (hi : P.items.length ≤ 1000000) (hm : missRev P.opens P.items.reverse = P.items.length) :
    Calls Tryz.prog 193 #[.pointer (some ⟨X, 0, none⟩), tkV t A n c a z] w fun e w' => e = .returned (.bool false) ∧ BdTo m wt w w' X base Bp (P.text t.text) := by
  obtain ⟨w1, hw1⟩ : ∃ w1, w1 = w.alloc (.cells (tkC7 t A n c a z) 170) := ⟨_, rfl⟩
  have hb1 : Below w.heap.size w w1 := by rw [hw1]; exact (Below.refl _ w).alloc (Nat.le_refl _) _
  have hk1 : w1.heap[w.heap.size]? = some (.cells (tkC7 t A n c a z) 170 (0, 0)) := by rw [hw1]; exact heap_alloc_new w _
  have T1 := Lib.hid (h.to hb1)
  have K1 := Lib.hid hk1
  have HNM : Hid (t.name.size ≤ 1000000000) := ht.name
  have HTX : Hid (t.text.size ≤ 1000000000) := ht.text
  have e3 : (t.kind == 3) = true := beq_iff_eq.2 hb
  have HRE := Lib.hid (fun (v : World) (hv : BdAt m wt v X base Bp P) => reopen_no hv (hl.more (by decide)) hi hm)
  have HTT := Lib.hid (fun (v : World) (hv : BdAt m wt v X base Bp P) => text_at hv (hl.more (by decide)) t.text ht.text)
  have a1_0 := cell_blk (i := 0) (v := .int .i64 t.kind) hk1 rfl
  have a1_1 := cell_blk (i := 1) (v := .string t.name) hk1 rfl
  have a1_2 := cell_blk (i := 2) (v := .slice A n c) hk1 rfl
  have a1_3 := cell_blk (i := 3) (v := .string t.text) hk1 rfl
  have a1_4 := cell_blk (i := 4) (v := .bool t.self) hk1 rfl
  have a1_5 := cell_blk (i := 5) (v := .int .i64 a) hk1 rfl
  have a1_6 := cell_blk (i := 6) (v := .int .i64 z) hk1 rfl
  clear h ht hl hb hm hi hk1 hb1
  go_enter Tryz.func193, Tryz.ntmps193
  go_upto_region 1 with fail
  rw [← hw1]
  clear hw1
  go_upto_region 3 with (first
    | (go_at_call 239; refine (HRE.out _ T1.out.at_).mono ?_; rintro e w2 ⟨rfl, hb⟩; have T2 := Lib.hid (T1.out.trans hb); have hk := hb.other (b := w.heap.size) (K1.out) (by decide); clear a1_0 a1_1 a1_2 a1_3 a1_4 a1_5 a1_6; have a2_0 := cell_blk (i := 0) (v := .int .i64 t.kind) hk rfl; have a2_1 := cell_blk (i := 1) (v := .string t.name) hk rfl; have a2_2 := cell_blk (i := 2) (v := .slice A n c) hk rfl; have a2_3 := cell_blk (i := 3) (v := .string t.text) hk rfl; have a2_4 := cell_blk (i := 4) (v := .bool t.self) hk rfl; have a2_5 := cell_blk (i := 5) (v := .int .i64 a) hk rfl; have a2_6 := cell_blk (i := 6) (v := .int .i64 z) hk rfl; have K2 := Lib.hid hk; clear hk hb)
    | fail)
  go_region_held3 (fun w' => w'.cell? ⟨w.heap.size, 3, none⟩ = some (.string t.text)) (first | exact a2_3 | exact a3_3)
    (first
      | (go_at_call 233; refine (HTT.out _ T2.out.drew.at_).mono ?_; rintro e w3 ⟨rfl, hb⟩; have T3 := Lib.hid (T2.out.drew.trans hb); have hk := hb.other (b := w.heap.size) (K2.out) (by decide); skip; have a3_0 := cell_blk (i := 0) (v := .int .i64 t.kind) hk rfl; have a3_1 := cell_blk (i := 1) (v := .string t.name) hk rfl; have a3_2 := cell_blk (i := 2) (v := .slice A n c) hk rfl; have a3_3 := cell_blk (i := 3) (v := .string t.text) hk rfl; have a3_4 := cell_blk (i := 4) (v := .bool t.self) hk rfl; have a3_5 := cell_blk (i := 5) (v := .int .i64 a) hk rfl; have a3_6 := cell_blk (i := 6) (v := .int .i64 z) hk rfl; have K3 := Lib.hid hk; clear hk hb)
      | fail)
  go_wp2_with (first
    | fail)
  go_ret
  exact ⟨rfl, T3.out⟩
set_option maxRecDepth 100000 in
set_option maxHeartbeats 1000000 in
theorem inBody_over (h : BdAt m wt w X base Bp P) (hl : P.Lim 5000000) {t : Tk} {A : Option Addr} {n c : Nat} (a z : Int) (ht : TkAt wt Bp t A n c) (hb : Bare t) (h0 : t.kind = 0) :
    Calls Tryz.prog 193 #[.pointer (some ⟨X, 0, none⟩), tkV t A n c a z] w fun e w' => e = .returned (.bool false) ∧ BdTo m wt w w' X base Bp (P) := by
  obtain ⟨w1, hw1⟩ : ∃ w1, w1 = w.alloc (.cells (tkC7 t A n c a z) 170) := ⟨_, rfl⟩
  have hb1 : Below w.heap.size w w1 := by rw [hw1]; exact (Below.refl _ w).alloc (Nat.le_refl _) _
  have hk1 : w1.heap[w.heap.size]? = some (.cells (tkC7 t A n c a z) 170 (0, 0)) := by rw [hw1]; exact heap_alloc_new w _
  have T1 := Lib.hid (h.to hb1)
  have K1 := Lib.hid hk1
  have HNM : Hid (t.name.size ≤ 1000000000) := ht.name
  have HTX : Hid (t.text.size ≤ 1000000000) := ht.text
  have HHD : Hid (bs (PS.headT t) = ⟨#[]⟩) := by show _ = _; rw [hb.head]; rfl
  have HST : Hid (∀ l, PS.st t l = false) := hb.st
  have HEN : Hid (∀ l, PS.en t l = false) := hb.en
  have e4 : (t.kind == 4) = false := beq_eq_false_iff_ne.2 hb.k4
  have e5 : (t.kind == 5) = false := beq_eq_false_iff_ne.2 hb.k5
  have e2 : (t.kind == 2) = false := beq_eq_false_iff_ne.2 hb.k2
  have e1 : (t.kind == 1) = false := beq_eq_false_iff_ne.2 hb.k1
  have HSA := Lib.hid (fun (v : World) (hv : BdAt m wt v X base Bp P) => said_no hv hl a z ht hb)
  have e3 : (t.kind == 3) = false := beq_eq_false_iff_ne.2 (by omega)
  have HOV : Hid (PS.over t = true) := beq_iff_eq.2 h0
  have a1_0 := cell_blk (i := 0) (v := .int .i64 t.kind) hk1 rfl
  have a1_1 := cell_blk (i := 1) (v := .string t.name) hk1 rfl
  have a1_2 := cell_blk (i := 2) (v := .slice A n c) hk1 rfl
  have a1_3 := cell_blk (i := 3) (v := .string t.text) hk1 rfl
  have a1_4 := cell_blk (i := 4) (v := .bool t.self) hk1 rfl
  have a1_5 := cell_blk (i := 5) (v := .int .i64 a) hk1 rfl
  have a1_6 := cell_blk (i := 6) (v := .int .i64 z) hk1 rfl
  clear h ht hl hb h0 hk1 hb1
  go_enter Tryz.func193, Tryz.ntmps193
  go_upto_region 1 with fail
  rw [← hw1]
  clear hw1
  go_wp2_with (first
    | (go_at_call 237; refine (tokOver_any t A n c a z _).mono ?_; rintro e w3 ⟨rfl, hb⟩; have T3 := Lib.hid (T2.out.next hb); have hk := (hb.block _ (Array.getElem?_eq_some_iff.1 (K2.out)).1).trans (K2.out); clear a2_0 a2_1 a2_2 a2_3 a2_4 a2_5 a2_6; have a3_0 := cell_blk (i := 0) (v := .int .i64 t.kind) hk rfl; have a3_1 := cell_blk (i := 1) (v := .string t.name) hk rfl; have a3_2 := cell_blk (i := 2) (v := .slice A n c) hk rfl; have a3_3 := cell_blk (i := 3) (v := .string t.text) hk rfl; have a3_4 := cell_blk (i := 4) (v := .bool t.self) hk rfl; have a3_5 := cell_blk (i := 5) (v := .int .i64 a) hk rfl; have a3_6 := cell_blk (i := 6) (v := .int .i64 z) hk rfl; have K3 := Lib.hid hk; clear hk hb; rw [HOV.out])
    | (go_at_call 231; refine (HSA.out _ T1.out.at_).mono ?_; rintro e w2 ⟨rfl, hb⟩; have T2 := Lib.hid (T1.out.next hb); have hk := (hb.block _ (Array.getElem?_eq_some_iff.1 (K1.out)).1).trans (K1.out); clear a1_0 a1_1 a1_2 a1_3 a1_4 a1_5 a1_6; have a2_0 := cell_blk (i := 0) (v := .int .i64 t.kind) hk rfl; have a2_1 := cell_blk (i := 1) (v := .string t.name) hk rfl; have a2_2 := cell_blk (i := 2) (v := .slice A n c) hk rfl; have a2_3 := cell_blk (i := 3) (v := .string t.text) hk rfl; have a2_4 := cell_blk (i := 4) (v := .bool t.self) hk rfl; have a2_5 := cell_blk (i := 5) (v := .int .i64 a) hk rfl; have a2_6 := cell_blk (i := 6) (v := .int .i64 z) hk rfl; have K2 := Lib.hid hk; clear hk hb)
    | fail)
  go_ret
  exact ⟨rfl, T3.out⟩
set_option maxRecDepth 100000 in
set_option maxHeartbeats 1000000 in
theorem inCell_bare (h : BdAt m wt w X base Bp P) (_hl : P.Lim 5000000) {t : Tk} {A : Option Addr} {n c : Nat} (a z : Int) (ht : TkAt wt Bp t A n c) (hb : Bare t) {Q : PS} (hbody : ∀ v, BdAt m wt v X base Bp P → Calls Tryz.prog 193 #[.pointer (some ⟨X, 0, none⟩), tkV t A n c a z] v fun e w' => e = .returned (.bool false) ∧ BdTo m wt v w' X base Bp Q) :
    Calls Tryz.prog 199 #[.pointer (some ⟨X, 0, none⟩), tkV t A n c a z] w fun e w' => e = .returned (.bool false) ∧ BdTo m wt w w' X base Bp (Q) := by
  obtain ⟨w1, hw1⟩ : ∃ w1, w1 = w.alloc (.cells (tkC7 t A n c a z) 170) := ⟨_, rfl⟩
  have hb1 : Below w.heap.size w w1 := by rw [hw1]; exact (Below.refl _ w).alloc (Nat.le_refl _) _
  have hk1 : w1.heap[w.heap.size]? = some (.cells (tkC7 t A n c a z) 170 (0, 0)) := by rw [hw1]; exact heap_alloc_new w _
  have T1 := Lib.hid (h.to hb1)
  have K1 := Lib.hid hk1
  have HNM : Hid (t.name.size ≤ 1000000000) := ht.name
  have HTX : Hid (t.text.size ≤ 1000000000) := ht.text
  have HHD : Hid (bs (PS.headT t) = ⟨#[]⟩) := by show _ = _; rw [hb.head]; rfl
  have HST : Hid (∀ l, PS.st t l = false) := hb.st
  have HEN : Hid (∀ l, PS.en t l = false) := hb.en
  have e4 : (t.kind == 4) = false := beq_eq_false_iff_ne.2 hb.k4
  have e5 : (t.kind == 5) = false := beq_eq_false_iff_ne.2 hb.k5
  have e2 : (t.kind == 2) = false := beq_eq_false_iff_ne.2 hb.k2
  have e1 : (t.kind == 1) = false := beq_eq_false_iff_ne.2 hb.k1
  have HBD := Lib.hid hbody
  have a1_0 := cell_blk (i := 0) (v := .int .i64 t.kind) hk1 rfl
  have a1_1 := cell_blk (i := 1) (v := .string t.name) hk1 rfl
  have a1_2 := cell_blk (i := 2) (v := .slice A n c) hk1 rfl
  have a1_3 := cell_blk (i := 3) (v := .string t.text) hk1 rfl
  have a1_4 := cell_blk (i := 4) (v := .bool t.self) hk1 rfl
  have a1_5 := cell_blk (i := 5) (v := .int .i64 a) hk1 rfl
  have a1_6 := cell_blk (i := 6) (v := .int .i64 z) hk1 rfl
  clear h ht hb hbody hk1 hb1
  go_enter Tryz.func199, Tryz.ntmps199
  go_upto_region 2 with fail
  rw [← hw1]
  clear hw1
  go_wp2_with (first
    | (go_at_call 193; refine (HBD.out _ T5.out.at_).mono ?_; rintro e w6 ⟨rfl, hb⟩; have T6 := Lib.hid (T5.out.trans hb); have hk := hb.other (b := w.heap.size) (K5.out) (by decide); clear a5_0 a5_1 a5_2 a5_3 a5_4 a5_5 a5_6; have a6_0 := cell_blk (i := 0) (v := .int .i64 t.kind) hk rfl; have a6_1 := cell_blk (i := 1) (v := .string t.name) hk rfl; have a6_2 := cell_blk (i := 2) (v := .slice A n c) hk rfl; have a6_3 := cell_blk (i := 3) (v := .string t.text) hk rfl; have a6_4 := cell_blk (i := 4) (v := .bool t.self) hk rfl; have a6_5 := cell_blk (i := 5) (v := .int .i64 a) hk rfl; have a6_6 := cell_blk (i := 6) (v := .int .i64 z) hk rfl; have K6 := Lib.hid hk; clear hk hb)
    | (go_at_call 230; refine (tokEnd_any t A n c a z _ m _ HNM.out (by decide) T4.out.at_.len).mono ?_; rintro e w5 ⟨rfl, hb⟩; have T5 := Lib.hid (T4.out.next hb); have hk := (hb.block _ (Array.getElem?_eq_some_iff.1 (K4.out)).1).trans (K4.out); clear a4_0 a4_1 a4_2 a4_3 a4_4 a4_5 a4_6; have a5_0 := cell_blk (i := 0) (v := .int .i64 t.kind) hk rfl; have a5_1 := cell_blk (i := 1) (v := .string t.name) hk rfl; have a5_2 := cell_blk (i := 2) (v := .slice A n c) hk rfl; have a5_3 := cell_blk (i := 3) (v := .string t.text) hk rfl; have a5_4 := cell_blk (i := 4) (v := .bool t.self) hk rfl; have a5_5 := cell_blk (i := 5) (v := .int .i64 a) hk rfl; have a5_6 := cell_blk (i := 6) (v := .int .i64 z) hk rfl; have K5 := Lib.hid hk; clear hk hb; rw [HEN.out])
    | (go_at_call 230; refine (tokEnd_any t A n c a z _ m _ HNM.out (by decide) T3.out.at_.len).mono ?_; rintro e w4 ⟨rfl, hb⟩; have T4 := Lib.hid (T3.out.next hb); have hk := (hb.block _ (Array.getElem?_eq_some_iff.1 (K3.out)).1).trans (K3.out); clear a3_0 a3_1 a3_2 a3_3 a3_4 a3_5 a3_6; have a4_0 := cell_blk (i := 0) (v := .int .i64 t.kind) hk rfl; have a4_1 := cell_blk (i := 1) (v := .string t.name) hk rfl; have a4_2 := cell_blk (i := 2) (v := .slice A n c) hk rfl; have a4_3 := cell_blk (i := 3) (v := .string t.text) hk rfl; have a4_4 := cell_blk (i := 4) (v := .bool t.self) hk rfl; have a4_5 := cell_blk (i := 5) (v := .int .i64 a) hk rfl; have a4_6 := cell_blk (i := 6) (v := .int .i64 z) hk rfl; have K4 := Lib.hid hk; clear hk hb; rw [HEN.out])
    | (go_at_call 228; refine (tokStart_any t A n c a z _ m _ HNM.out (by decide) T2.out.at_.len).mono ?_; rintro e w3 ⟨rfl, hb⟩; have T3 := Lib.hid (T2.out.next hb); have hk := (hb.block _ (Array.getElem?_eq_some_iff.1 (K2.out)).1).trans (K2.out); clear a2_0 a2_1 a2_2 a2_3 a2_4 a2_5 a2_6; have a3_0 := cell_blk (i := 0) (v := .int .i64 t.kind) hk rfl; have a3_1 := cell_blk (i := 1) (v := .string t.name) hk rfl; have a3_2 := cell_blk (i := 2) (v := .slice A n c) hk rfl; have a3_3 := cell_blk (i := 3) (v := .string t.text) hk rfl; have a3_4 := cell_blk (i := 4) (v := .bool t.self) hk rfl; have a3_5 := cell_blk (i := 5) (v := .int .i64 a) hk rfl; have a3_6 := cell_blk (i := 6) (v := .int .i64 z) hk rfl; have K3 := Lib.hid hk; clear hk hb; rw [HST.out])
    | (go_at_call 230; refine (tokEnd_any t A n c a z _ m _ HNM.out (by decide) T1.out.at_.len).mono ?_; rintro e w2 ⟨rfl, hb⟩; have T2 := Lib.hid (T1.out.next hb); have hk := (hb.block _ (Array.getElem?_eq_some_iff.1 (K1.out)).1).trans (K1.out); clear a1_0 a1_1 a1_2 a1_3 a1_4 a1_5 a1_6; have a2_0 := cell_blk (i := 0) (v := .int .i64 t.kind) hk rfl; have a2_1 := cell_blk (i := 1) (v := .string t.name) hk rfl; have a2_2 := cell_blk (i := 2) (v := .slice A n c) hk rfl; have a2_3 := cell_blk (i := 3) (v := .string t.text) hk rfl; have a2_4 := cell_blk (i := 4) (v := .bool t.self) hk rfl; have a2_5 := cell_blk (i := 5) (v := .int .i64 a) hk rfl; have a2_6 := cell_blk (i := 6) (v := .int .i64 z) hk rfl; have K2 := Lib.hid hk; clear hk hb; rw [HEN.out])
    | fail)
  go_ret
  exact ⟨rfl, T6.out⟩
end
end Go.Proofs.YtegcedboeemedaaGreatDoor

/-
Doc of a text without markup: html, head, body, and the text in it.
-/
namespace Go.Proofs.YtegcedboeemedaaGreatDoor
open Go.RowKit Go.Cl
open PS (Bare)
/-! ### its tokens -/
theorem textF_plain : ∀ l : List UInt8, (∀ b ∈ l, b ≠ 60) → textF l = (l, []) := by
  intro l
  induction l with
  | nil => intro _; rfl
  | cons b t ih =>
    intro h
    have hm : markF (b :: t) = 0 := by
      cases t with
      | nil => rfl
      | cons c t => rw [mark_cons, if_pos (h b (by simp))]
    rw [textF, if_pos hm, ih fun x hx => h x (by simp [hx])]
theorem readF_plain (l : List UInt8) (h : ∀ b ∈ l, b ≠ 60) (h2 : ∀ b ∈ l, b ≠ 38) : (readF l).1.map (·.1) = if l = [] then [] else [tkT (bs l)] := by
  have he : entT l = l := by
    have := read_plain (p := bs l) (by rw [bs_list]; exact h2) false
    unfold entT
    have h3 := congrArg (fun x : ByteArray => x.data.toList) this
    exact h3
  unfold readF
  rw [textF_plain l h, he]
  unfold readM
  rw [if_pos rfl]
  unfold putT
  by_cases e : l = []
  · rw [if_pos e, if_pos e]; rfl
  · rw [if_neg e, if_neg e]; rfl
/-! ### its states -/
namespace PS
theorem lim_first {P : PS} {N : Nat} (ht : P.Tr) (h0 : P.has 0) (ho : P.opens = []) (hn : P.nodes.length ≤ N) (htx : ∀ x ∈ P.nodes, x.text.size ≤ N) {s : Int × Nat} (hs : P.Spot s) (nm : ByteArray) (ats : List DAttr) : (P.element s nm ats).Lim (N + 1) :=
  ⟨element_wf ht h0 (fun n hn => by rw [ho] at hn; cases hn) hs nm ats, by show ((P.make _).put s P.next).nodes.length ≤ _; rw [made_len]; omega, by show (P.opens ++ [P.next]).length ≤ _; rw [ho]; simp, made_text hs (fun x hx => by have := htx x hx; omega) (Nat.zero_le _)⟩
theorem Lim.html {P : PS} {N : Nat} (h : P.Lim N) (ats : List DAttr) : (P.html ats).Lim (N + 1) :=
  lim_first (P := { P with opens := [] }) (h.wf.tr.same rfl) h.wf.zero rfl h.nodes h.text (spot_behind (P := { P with opens := [] }) h.wf.zero) (⟨#[104, 116, 109, 108]⟩ : ByteArray) ats
theorem lim0 : begun.Lim 1 := by
  refine ⟨⟨⟨fun n hn h0 => ?_, fun q hq k hk => ?_, fun q hq => ?_⟩, by simp [begun], fun n hn => ?_, ⟨by decide, by decide⟩⟩, by decide, by decide, fun x hx => ?_⟩
  · obtain ⟨a, rfl, ha, hl⟩ := has_at hn
    have : a = 0 := by have : a < 1 := hl; omega
    subst this
    exact absurd h0 (by decide)
  · obtain ⟨a, rfl, ha, hl⟩ := has_at hq
    have : a = 0 := by have : a < 1 := hl; omega
    subst this
    cases hk
  · obtain ⟨a, rfl, ha, hl⟩ := has_at hq
    have : a = 0 := by have : a < 1 := hl; omega
    subst this
    exact List.nodup_nil
  · obtain rfl : n = 0 := by simpa [begun] using hn
    exact ⟨by decide, by decide⟩
  · obtain rfl : x = ⟨1, ⟨#[]⟩, [], ⟨#[]⟩, -1, []⟩ := by simpa [begun] using hx
    exact Nat.zero_le _
theorem lim1 : p1.Lim 1 := lim0.same rfl rfl
theorem lim2 : p2.Lim 2 := (lim1.html []).same rfl rfl
theorem lim3 : p3.Lim 3 := (lim2.start (⟨#[104, 101, 97, 100]⟩ : ByteArray) []).same rfl rfl
theorem lim5 : p5.Lim 3 := lim3.pop.same rfl rfl
theorem lim6 : p6.Lim 4 := (lim5.start (⟨#[98, 111, 100, 121]⟩ : ByteArray) []).same rfl rfl
theorem text6 (s : ByteArray) (hs : s.size ≠ 0) : p6.text s = p7 s := by
  have := congrArg Prod.snd (body_text s hs)
  exact this
theorem lim7 (s : ByteArray) (hs : s.size ≠ 0) : (p7 s).Lim (5 + s.size) := by
  rw [← text6 s hs]
  exact (lim6.text_ s)
end PS
section
variable {m : Int} {wt : World} {X base Bp : Nat} {A : Option Addr} {n c : Nat} {a z : Int} {t : Tk}
theorem tc0 (hb : Bare t) (ht : TkAt wt Bp t A n c) : TakeC m wt X base Bp A n c a z t PS.begun := fun u hu => by
  have h := take0_at hu a z (hc := fun w hw => initial_bare hw (PS.lim0.more (by decide)) a z ht hb)
  rw [show PS.begun.take PS.begun.mode t = (true, PS.p1) from PS.bare0 hb]
  exact h
theorem tc0h (hb : PS.headT t ≠ []) (ht : TkAt wt Bp t A n c) : TakeC m wt X base Bp A n c a z t PS.begun := fun u hu => by
  have h := take0_at hu a z (hc := fun w hw => initial_head hw (PS.lim0.more (by decide)) a z ht hb)
  rw [PS.begun_blank hb]
  exact h
theorem tc1 (hb : Bare t) (ht : TkAt wt Bp t A n c) : TakeC m wt X base Bp A n c a z t PS.p1 := fun u hu => by
  have h := take1_at hu a z (hc := fun w hw => beforeHTML_bare hw (PS.lim1.more (by decide)) a z ht hb)
  rw [show PS.p1.take PS.p1.mode t = (true, PS.p2) from PS.bare1 hb]
  exact h
theorem tc2 (hb : Bare t) (ht : TkAt wt Bp t A n c) : TakeC m wt X base Bp A n c a z t PS.p2 := fun u hu => by
  have h := take2_at hu a z (hc := fun w hw => beforeHead_bare hw (PS.lim2.more (by decide)) a z ht hb)
  rw [show PS.p2.take PS.p2.mode t = (true, PS.p3) from PS.bare2 hb]
  exact h
theorem tc3 (hb : Bare t) (ht : TkAt wt Bp t A n c) : TakeC m wt X base Bp A n c a z t PS.p3 := fun u hu => by
  have h := take3_at hu a z (hc := fun w hw => inHead_bare hw (PS.lim3.more (by decide)) a z ht hb)
  rw [show PS.p3.take PS.p3.mode t = (true, PS.p5) from PS.bare3 hb]
  exact h
theorem tc5 (hb : Bare t) (ht : TkAt wt Bp t A n c) : TakeC m wt X base Bp A n c a z t PS.p5 := fun u hu => by
  have h := take5_at hu a z (hc := fun w hw => afterHead_bare hw (PS.lim5.more (by decide)) a z ht hb)
  rw [show PS.p5.take PS.p5.mode t = (true, PS.p6) from PS.bare5 hb]
  exact h
theorem tc6 {s : ByteArray} (hs : s.size ≠ 0) (ht : TkAt wt Bp (tkT s) A n c) : TakeC m wt X base Bp A n c a z (tkT s) PS.p6 := fun u hu => by
  have h := take6_at hu a z (hc := fun w hw => inBody_text hw (PS.lim6.more (by decide)) a z ht rfl (Nat.zero_le _) rfl)
  rw [show PS.p6.take PS.p6.mode (tkT s) = (false, PS.p7 s) from PS.body_text s hs]
  rw [show PS.p6.text (tkT s).text = PS.p7 s from PS.text6 s hs] at h
  exact h
theorem tk_over : TkAt wt Bp PS.overT none 0 0 := ⟨Sl.nil, Nat.zero_le _, Nat.zero_le _, Nat.zero_le _⟩
theorem tco {P : PS} {N : Nat} (hm : P.mode = 6) (hl : P.Lim N) (hN : N ≤ 5000000) : TakeC m wt X base Bp none 0 0 0 0 PS.overT P := fun u hu => by
  have h := take6_at hu 0 0 (hc := fun w hw => inBody_over hw (hl.more hN) 0 0 tk_over PS.over_bare rfl)
  rw [hm, PS.body_over]
  exact h
/-! ### a token that is taken as it is -/
theorem oneC_on {C : Tk → PS → Prop} {k : Nat} {P Q : PS} (hb : Bare t) (hC : C t P) (e : P.take P.mode t = (true, Q)) (hn : OneC C k t Q) : OneC C (k + 1) t P := by
  rw [OneC, if_neg (by rw [PS.bare_part hb]; simp), e]
  exact ⟨hC, fun _ => hn⟩
theorem oneC_off {C : Tk → PS → Prop} {k : Nat} {P Q : PS} (hp : P.parted t = false) (hC : C t P) (e : P.take P.mode t = (false, Q)) : OneC C (k + 1) t P := by
  rw [OneC, if_neg (by rw [hp]; simp), e]
  exact ⟨hC, fun h => by cases h⟩
theorem oneC_up (hb : Bare t) (ht : TkAt wt Bp t A n c) {k : Nat} (h6 : OneC (TakeC m wt X base Bp A n c a z) k t PS.p6) : OneC (TakeC m wt X base Bp A n c a z) (k + 5) t PS.begun :=
  oneC_on hb (tc0 hb ht) (PS.bare0 hb) (oneC_on hb (tc1 hb ht) (PS.bare1 hb) (oneC_on hb (tc2 hb ht) (PS.bare2 hb) (oneC_on hb (tc3 hb ht) (PS.bare3 hb) (oneC_on hb (tc5 hb ht) (PS.bare5 hb) h6))))
theorem oneC_over {k : Nat} : OneC (TakeC m wt X base Bp none 0 0 0 0) (k + 6) PS.overT PS.begun :=
  oneC_up PS.over_bare tk_over (oneC_off (PS.bare_part PS.over_bare _) (tco rfl PS.lim6 (by decide)) (PS.body_over _))
theorem oneC_text {r : List UInt8} (hr : r ≠ []) (hb : r.takeWhile blankB = []) (ht : TkAt wt Bp (tkT (bs r)) A n c) {k : Nat} : OneC (TakeC m wt X base Bp A n c a z) (k + 6) (tkT (bs r)) PS.begun :=
  oneC_up (PS.bare_text hb) ht (oneC_off (PS.bare_part (PS.bare_text hb) _) (tc6 (fun e => hr (List.length_eq_zero_iff.1 e)) ht) (PS.body_text _ (fun e => hr (List.length_eq_zero_iff.1 e))))
end
theorem tk_sub {wt : World} {Bp : Nat} {A : Option Addr} {n c : Nat} {l r : List UInt8} (ht : TkAt wt Bp (tkT (bs l)) A n c) (hr : r.length ≤ l.length) : TkAt wt Bp (tkT (bs r)) A n c :=
  ⟨ht.attrs, ht.name, by have h : l.length ≤ 1000000000 := ht.text; show r.length ≤ _; omega, ht.few⟩
/-- What the builder makes of a text without markup. -/
def plainR (l : List UInt8) : PS := if l.dropWhile blankB = [] then PS.p6 else PS.p7 (bs (l.dropWhile blankB))
theorem plain_run (l : List UInt8) (h : ∀ b ∈ l, b ≠ 60) (h2 : ∀ b ∈ l, b ≠ 38) : PS.begun.allO 12 ((readF l).1.map (·.1)) = some (plainR l) := by
  rw [readF_plain l h h2]
  unfold plainR
  by_cases e : l = []
  · subst e
    exact PS.all_none 6
  · rw [if_neg e]
    exact PS.all_text 5 l e
theorem plain_cond (m : Int) (v : World) (X base B : Nat) (l : List UInt8) (h : ∀ b ∈ l, b ≠ 60) (h2 : ∀ b ∈ l, b ≠ 38) (hl : l.length ≤ 1000000) :
    OnesC m v X base B 12 ((readF l).1.map (·.1)) PS.begun ∧ ∀ Q, PS.onesO 12 ((readF l).1.map (·.1)) PS.begun = some Q → Q.fresh = false ∧ OneC (TakeC m v X base B none 0 0 0 0) 12 PS.overT { Q with fresh := false } := by
  rw [readF_plain l h h2]
  by_cases e : l = []
  · rw [if_pos e]
    refine ⟨trivial, fun Q hQ => ?_⟩
    obtain rfl := Option.some.inj hQ
    exact ⟨rfl, oneC_over⟩
  · rw [if_neg e]
    have hone := PS.all_text 5 l e
    refine ⟨⟨rfl, fun A n c a z ht => ?_, fun Q _ => trivial⟩, fun Q hQ => ?_⟩
    · show OneC _ 12 (tkT (bs l)) PS.begun
      rcases PS.text_ways l with ⟨q1, q2⟩ | ⟨q1, q2⟩ | ⟨q1, q2, q3⟩
      · exact oneC_text e q1 ht
      · exact oneC_off (by unfold PS.parted; rw [PS.headT_text, PS.restT_text, q2]; simp) (tc0h (by rw [PS.headT_text]; exact q1) ht) (PS.begun_blank (by rw [PS.headT_text]; exact q1))
      · rw [OneC, if_pos q3]
        have hh : PS.headT (PS.onlyT (tkT (bs l))) ≠ [] := PS.head_head l q1
        have htl := head_rest l
        refine ⟨⟨tc0h hh (tk_sub ht (by rw [PS.headT_text]; omega)), fun k => by rw [PS.begun_blank hh] at k; cases k⟩, fun Q hQ => ?_⟩
        rw [PS.takesO, PS.begun_blank hh] at hQ
        obtain rfl := Option.some.inj hQ
        exact oneC_text q2 (PS.drop_head l) (tk_sub ht (by omega))
    · have hQ2 : Q = if l.dropWhile blankB = [] then PS.begun else PS.p7 (bs (l.dropWhile blankB)) := by
        have h3 := PS.one_text 5 l e
        rw [PS.onesO, h3] at hQ
        exact (Option.some.inj hQ).symm
      rw [hQ2]
      split
      · exact ⟨rfl, oneC_over⟩
      · rename_i hne
        refine ⟨rfl, oneC_off (PS.bare_part PS.over_bare _) (tco rfl (PS.lim7 _ (fun q => hne (List.length_eq_zero_iff.1 q))) (by have := head_rest l; show 5 + (l.dropWhile blankB).length ≤ _; omega)) (PS.body_over _)⟩
set_option maxRecDepth 100000 in
theorem docPlain_at (m : Int) (w : World) (hm : maxLenAt w m) (hT : FoldTabs w) (s cs : ByteArray) (hcs : Hid (cs = ⟨(cleanL (signsL 0 s.data.toList)).1.toArray⟩)) (hsz : s.size ≤ 4000) (hcz : cs.size ≤ 4000) (h : ∀ b ∈ cs.data.toList, b ≠ 60) (h2 : ∀ b ∈ cs.data.toList, b ≠ 38) :
    Calls Tryz.prog 14 #[.string s] w fun e w' => DoneV w.heap.size w' (plainR cs.data.toList).nodes true e ∧ Below w.heap.size w w' := by
  have hln : cs.data.toList.length = cs.size := by simp
  have hq : (plainR cs.data.toList).quirks = true := by unfold plainR; split <;> rfl
  have := buildDoc_at m w hm hT s cs hcs hsz hcz (R := plainR cs.data.toList) (plain_run _ h h2) (fun x hx => by
    have hx1 : x.1 ∈ (readF cs.data.toList).1.map (·.1) := List.mem_map_of_mem hx
    rw [readF_plain _ h h2] at hx1
    split at hx1
    · cases hx1
    · obtain hx1 := List.mem_singleton.1 hx1
      rw [hx1]
      exact ⟨Nat.zero_le _, by show cs.data.toList.length ≤ _; omega, Nat.zero_le _⟩) (fun v X base B _ => plain_cond m v X base B _ h h2 (by omega)) (by unfold plainR; split <;> rfl)
  rw [hq] at this
  exact this
end Go.Proofs.YtegcedboeemedaaGreatDoor
