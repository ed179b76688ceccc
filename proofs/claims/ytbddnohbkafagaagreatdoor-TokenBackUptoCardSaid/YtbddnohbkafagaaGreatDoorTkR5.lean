/-
Tokens: the reader's next.
-/
import Derived.Test.YtbddnohbkafagaaGreatDoorTkR4
namespace Go.Proofs.YtbddnohbkafagaaGreatDoor
open Go.RowKit Go.Cl
attribute [local go_sem ↓] Go.wp_at_zero Go.wp_at_succ
def tkZ : Tk := ⟨0, ⟨#[]⟩, [], ⟨#[]⟩, false⟩
/-- What next tells. -/
def NextPost (X : Nat) (s : ByteArray) (r : List UInt8) (E : Int) (O : Value) (w : World) (e : Ending) (w' : World) : Prop :=
  w.grownBy w' (some X) ∧ match nextF r with
    | none => (∃ kd nm A n c, (kd = 1 ∨ kd = 2) ∧ e = .returned (.tuple #[.agg (tokC kd nm (.slice A n c) ⟨#[]⟩ false 0 0), .bool false])) ∧ Rd w' X s [] E O
    | some (t, en, r2) => (∃ v, e = .returned (.tuple #[.agg (tokC (t.getD tkZ).kind (t.getD tkZ).name v (t.getD tkZ).text (t.getD tkZ).self 0 0), .bool en]) ∧ OwnF tDA w' w.heap.size 55 v (t.getD tkZ).attrs.length (t.getD tkZ).attrs) ∧ Rd w' X s r2 E O
theorem decl_attrs (r : List UInt8) : (declF r).1.attrs = [] := by
  unfold declF
  split
  · split
    · rfl
    · split
      · rfl
      · rfl
  · split
    · rfl
    · rfl
theorem mark_len2 {r : List UInt8} (h : markF r ≠ 0) : 2 ≤ r.length := by
  match r, h with
  | [], h => exact absurd rfl h
  | [_], h => exact absurd rfl h
  | _ :: _ :: _, _ => simp
theorem mark_end {r : List UInt8} (h : markF r = 47) : ∃ b t, r = 60 :: 47 :: b :: t := by
  match r, h with
  | [], h => exact absurd h (by decide)
  | [_], h => exact absurd h (by simp [markF])
  | c :: b :: t, h =>
    rw [mark_cons] at h
    split at h
    · exact absurd h (by decide)
    · rename_i hc
      split at h
      · exact absurd h (by decide)
      · split at h
        · rename_i hb
          subst h
          exact absurd hb (by decide)
        · split at h
          · rename_i hb
            obtain ⟨rfl, ht⟩ := hb
            cases t with
            | nil => exact absurd rfl ht
            | cons d t2 =>
              have : c = 60 := Decidable.not_not.1 hc
              exact ⟨d, t2, by rw [this]⟩
          · exact absurd h (by decide)
set_option maxRecDepth 100000 in
set_option maxHeartbeats 8000000 in
theorem tkNext_any (w0 w : World) (X : Nat) (s : ByteArray) (r : List UInt8) (E : Int) (O : Value) (hs : s.size ≤ 1000000) (h : Rd w X s r E O) (hlow : Below X w0 w) (hmk : markF r = 33 ∨ markF r = 63 ∨ markF r = 97 ∨ markF r = 47) (hF : FoldOk w0 X) (hY : AnyOk w0 X) :
    Calls Tryz.prog 32 #[.pointer (some ⟨X, 0, none⟩), .int .u8 ((markF r).toNat : Int)] w (NextPost X s r E O w) := by
  have h2 : 2 ≤ r.length := mark_len2 (by rcases hmk with h | h | h | h <;> (rw [h]; decide))
  obtain ⟨a, haz, hr, hc0⟩ := rd_at h
  have hX : X < w.heap.size := hc0.lt
  have HTX : Hid (X < w.heap.size) := hX
  obtain ⟨w1, hw1⟩ : ∃ w1, w1 = w.alloc (.cells (tokC 0 ⟨#[]⟩ (.slice none 0 0) ⟨#[]⟩ false 0 0) 32) := ⟨_, rfl⟩
  have z1 : w1.heap.size = w.heap.size + 1 := by rw [hw1]; exact World.size_alloc w _
  have hb1 : Below w.heap.size w w1 := by rw [hw1]; exact tal (Below.refl _ _) _
  have HX1 := Lib.hid (show w1.heap[w.heap.size]? = some (.cells (tokC 0 ⟨#[]⟩ (.slice none 0 0) ⟨#[]⟩ false 0 0) 32 (0, 0)) from by rw [hw1]; exact heap_alloc_new w _)
  have HB1 := Lib.hid hb1
  have HR1 := Lib.hid (h.next hb1)
  have HC1 := Lib.hid (hc0.next hb1)
  have HL1 := Lib.hid (hlow.trans (hb1.mono (Nat.le_of_lt hX)))
  have HZ1 := Lib.hid z1
  have HAZ := Lib.hid haz
  have HDR := Lib.hid hr
  have HFO := Lib.hid hF
  have HYO := Lib.hid hY
  have H2 := Lib.hid h2
  have c0 := HC1.out.c0
  have c1 := HC1.out.c1
  have f1 := HC1.out.fr 1
  have i0 : (0 : Int) ≤ (a : Int) := by omega
  have i1 : (a : Int) ≤ (s.size : Int) := by omega
  have i2 : (a : Int) + 2 ≤ (s.size : Int) := by omega
  have HCM := Lib.hid (fun (r' : List UInt8) (u : World) (h : Rd u X s r' E O) => (show Calls Tryz.prog 45 #[.pointer (some ⟨X, 0, none⟩), .string ⟨#[62]⟩] u fun e w' => e = .returned (.tuple #[.agg (tokC 4 ⟨#[]⟩ (.slice none 0 0) (bs (Lib.cut r' [62]).1) false 0 0), .bool (Lib.cut r' [62]).2.2]) ∧ u.grownBy w' (some X) ∧ Rd w' X s (Lib.cut r' [62]).2.1 E O from tkComment_any X s r' ⟨#[62]⟩ E O u hs (by decide) h))
  have HST := Lib.hid (fun (k : Nat) (hk : k ≤ 2) => Rd.step (w := w1) (n := (a : Int) + k) (b := a + k) (by omega) (by have := HAZ.out; have := H2.out; omega) (by rw [← List.drop_drop, HDR.out]) HC1.out HR1.out.mx)
  clear h hlow hF hY haz hr hc0 hX hb1 h2 z1
  rcases hmk with hk | hk | hk | hk
  · rw [hk]
    change Calls Tryz.prog _ #[.pointer (some ⟨X, 0, none⟩), .int .u8 33] w _
    have hn : nextF r = some (some (declF r).1, (declF r).2) := by unfold nextF; rw [if_pos hk]
    have hat := decl_attrs r
    have hde := tkDecl_any w0 w1 X s r E O hs HR1.out HL1.out H2.out HFO.out HYO.out
    generalize declF r = dd at hn hat hde
    obtain ⟨⟨tk, tn, ta, tx, ts⟩, en, r2⟩ := dd
    subst hat
    have HDE := Lib.hid hde
    have HN := Lib.hid hn
    clear hde hn hk
    go_enter Tryz.func32, Tryz.ntmps32
    go_upto_region 1 with fail
    rw [← hw1]
    clear hw1
    go_wp2_with (go_at_call 44; refine HDE.out.mono ?_; rintro e w5 ⟨rfl, hg15, hr5⟩; have hZ5 := (hg15.block w.heap.size (Array.getElem?_eq_some_iff.1 HX1.out).1 (by have := HTX.out; simp; omega)).trans HX1.out; have HZ5 := Lib.hid hZ5; have HG5 := Lib.hid ((grown_below HB1.out (some X)).trans hg15); have HR5 := Lib.hid hr5; have d0 := cell_blk (i := 0) hZ5 rfl; have d1 := cell_blk (i := 1) hZ5 rfl; have d2 := cell_blk (i := 2) hZ5 rfl; have d3 := cell_blk (i := 3) hZ5 rfl; have d4 := cell_blk (i := 4) hZ5 rfl; have d5 := cell_blk (i := 5) hZ5 rfl; have d6 := cell_blk (i := 6) hZ5 rfl; have fd0 := free_blk (i := 0) hZ5; have fd1 := free_blk (i := 1) hZ5; have fd2 := free_blk (i := 2) hZ5; have fd3 := free_blk (i := 3) hZ5; have fd4 := free_blk (i := 4) hZ5; have fd5 := free_blk (i := 5) hZ5; have fd6 := free_blk (i := 6) hZ5; clear hZ5 hr5 hg15)
    have hF := put7_blk (c0 := .int .i64 tk) (c1 := .string tn) (c2 := .slice none 0 0) (c3 := .string tx) (c4 := .bool ts) (c5 := .int .i64 0) (c6 := .int .i64 0) HZ5.out
    have cF0 := cell_blk (i := 0) hF rfl
    have cF1 := cell_blk (i := 1) hF rfl
    have cF2 := cell_blk (i := 2) hF rfl
    have cF3 := cell_blk (i := 3) hF rfl
    have cF4 := cell_blk (i := 4) hF rfl
    have cF5 := cell_blk (i := 5) hF rfl
    have cF6 := cell_blk (i := 6) hF rfl
    have hX0 := HTX.out
    have hRF := put7_rd (c0 := .int .i64 tk) (c1 := .string tn) (c2 := .slice none 0 0) (c3 := .string tx) (c4 := .bool ts) (c5 := .int .i64 0) (c6 := .int .i64 0) HR5.out (show X ≠ w.heap.size by omega) (show w.heap.size ≠ 0 by omega)
    refine bodyPost_ret (v := .tuple #[.agg #[.int .i64 tk, .string tn, .slice none 0 0, .string tx, .bool ts, .int .i64 0, .int .i64 0], .bool en]) ?_ rfl ⟨put7_grown HG5.out (Nat.le_refl _), by rw [HN.out]; exact ⟨⟨.slice none 0 0, rfl, OwnF.nil _ _ _⟩, hRF⟩⟩
    clear hF hRF
    simp [results, Tryz.results32, go_sem, cF0, cF1, cF2, cF3, cF4, cF5, cF6]
  · rw [hk]
    change Calls Tryz.prog _ #[.pointer (some ⟨X, 0, none⟩), .int .u8 63] w _
    have hn : nextF r = some (some (tkC (Lib.cut (r.drop 1) [62]).1), (Lib.cut (r.drop 1) [62]).2.2, (Lib.cut (r.drop 1) [62]).2.1) := by unfold nextF; rw [if_neg (by rw [hk]; decide), if_pos hk]; rfl
    have hcm := HCM.out (r.drop 1)
    clear HCM
    generalize Lib.cut (r.drop 1) [62] = ct at hn hcm
    obtain ⟨k1, k2, k3⟩ := ct
    have HN := Lib.hid (show nextF r = some (some ⟨4, ⟨#[]⟩, [], bs k1, false⟩, k3, k2) from hn)
    have HCM := Lib.hid hcm
    clear hn hcm
    have HST := Lib.hid (show Rd (w1.setCell ⟨X, 1, none⟩ (.int .i64 ((a : Int) + 1))) X s (r.drop 1) E O ∧ w1.grownBy (w1.setCell ⟨X, 1, none⟩ (.int .i64 ((a : Int) + 1))) (some X) from HST.out 1 (by decide))
    clear hk
    go_enter Tryz.func32, Tryz.ntmps32
    go_upto_region 1 with fail
    rw [← hw1]
    clear hw1
    go_wp2_with (go_at_call 45; refine (HCM.out  _ HST.out.1).mono ?_; rintro e w5 ⟨rfl, hg5, hr5⟩; have hg15 := HST.out.2.trans hg5; have hZ5 := (hg15.block w.heap.size (Array.getElem?_eq_some_iff.1 HX1.out).1 (by have := HTX.out; simp; omega)).trans HX1.out; have HZ5 := Lib.hid hZ5; have HG5 := Lib.hid ((grown_below HB1.out (some X)).trans hg15); have HR5 := Lib.hid hr5; have d0 := cell_blk (i := 0) hZ5 rfl; have d1 := cell_blk (i := 1) hZ5 rfl; have d2 := cell_blk (i := 2) hZ5 rfl; have d3 := cell_blk (i := 3) hZ5 rfl; have d4 := cell_blk (i := 4) hZ5 rfl; have d5 := cell_blk (i := 5) hZ5 rfl; have d6 := cell_blk (i := 6) hZ5 rfl; have fd0 := free_blk (i := 0) hZ5; have fd1 := free_blk (i := 1) hZ5; have fd2 := free_blk (i := 2) hZ5; have fd3 := free_blk (i := 3) hZ5; have fd4 := free_blk (i := 4) hZ5; have fd5 := free_blk (i := 5) hZ5; have fd6 := free_blk (i := 6) hZ5; clear hZ5 hg5 hr5 hg15)
    have hF := put7_blk (c0 := .int .i64 4) (c1 := .string ⟨#[]⟩) (c2 := .slice none 0 0) (c3 := .string (bs k1)) (c4 := .bool false) (c5 := .int .i64 0) (c6 := .int .i64 0) HZ5.out
    have cF0 := cell_blk (i := 0) hF rfl
    have cF1 := cell_blk (i := 1) hF rfl
    have cF2 := cell_blk (i := 2) hF rfl
    have cF3 := cell_blk (i := 3) hF rfl
    have cF4 := cell_blk (i := 4) hF rfl
    have cF5 := cell_blk (i := 5) hF rfl
    have cF6 := cell_blk (i := 6) hF rfl
    have hX0 := HTX.out
    have hRF := put7_rd (c0 := .int .i64 4) (c1 := .string ⟨#[]⟩) (c2 := .slice none 0 0) (c3 := .string (bs k1)) (c4 := .bool false) (c5 := .int .i64 0) (c6 := .int .i64 0) HR5.out (show X ≠ w.heap.size by omega) (show w.heap.size ≠ 0 by omega)
    refine bodyPost_ret (v := .tuple #[.agg #[.int .i64 4, .string ⟨#[]⟩, .slice none 0 0, .string (bs k1), .bool false, .int .i64 0, .int .i64 0], .bool k3]) ?_ rfl ⟨put7_grown HG5.out (Nat.le_refl _), by rw [HN.out]; exact ⟨⟨.slice none 0 0, rfl, OwnF.nil _ _ _⟩, hRF⟩⟩
    clear hF hRF
    simp [results, Tryz.results32, go_sem, cF0, cF1, cF2, cF3, cF4, cF5, cF6]
  · rw [hk]
    change Calls Tryz.prog _ #[.pointer (some ⟨X, 0, none⟩), .int .u8 97] w _
    have hnx : nextF r = (tagT 1 (r.drop 1)).map fun x => (some x.1, true, x.2) := by unfold nextF; rw [if_neg (by rw [hk]; decide), if_neg (by rw [hk]; decide), if_pos hk]
    have HST := Lib.hid (show Rd (w1.setCell ⟨X, 1, none⟩ (.int .i64 ((a : Int) + 1))) X s (r.drop 1) E O ∧ w1.grownBy (w1.setCell ⟨X, 1, none⟩ (.int .i64 ((a : Int) + 1))) (some X) from HST.out 1 (by decide))
    have htg := fun (u : World) (h : Rd u X s (r.drop 1) E O) => tkTag_any X s (r.drop 1) 1 E O u hs h
    unfold TagPost at htg
    unfold tagT at hnx
    clear hk
    cases hta : tagF [] ((r.drop 1).dropWhile tagB) with
    | none =>
      rw [hta] at htg hnx
      dsimp only at htg
      have HN := Lib.hid (show nextF r = none from hnx)
      have HTG := Lib.hid htg
      clear htg hnx hta
      go_enter Tryz.func32, Tryz.ntmps32
      go_upto_region 1 with fail
      rw [← hw1]
      clear hw1
      go_wp2_with (go_at_call 46; refine (HTG.out _ HST.out.1).mono ?_; rintro e w5 ⟨hg5, ⟨tn, vA, vn, vc, rfl⟩, hr5⟩; have hg15 := HST.out.2.trans hg5; have hZ5 := (hg15.block w.heap.size (Array.getElem?_eq_some_iff.1 HX1.out).1 (by have := HTX.out; simp; omega)).trans HX1.out; have HZ5 := Lib.hid hZ5; have HG5 := Lib.hid ((grown_below HB1.out (some X)).trans hg15); have HR5 := Lib.hid hr5; have d0 := cell_blk (i := 0) hZ5 rfl; have d1 := cell_blk (i := 1) hZ5 rfl; have d2 := cell_blk (i := 2) hZ5 rfl; have d3 := cell_blk (i := 3) hZ5 rfl; have d4 := cell_blk (i := 4) hZ5 rfl; have d5 := cell_blk (i := 5) hZ5 rfl; have d6 := cell_blk (i := 6) hZ5 rfl; have fd0 := free_blk (i := 0) hZ5; have fd1 := free_blk (i := 1) hZ5; have fd2 := free_blk (i := 2) hZ5; have fd3 := free_blk (i := 3) hZ5; have fd4 := free_blk (i := 4) hZ5; have fd5 := free_blk (i := 5) hZ5; have fd6 := free_blk (i := 6) hZ5; clear hZ5 hg5 hr5 hg15)
      have hF := put7_blk (c0 := .int .i64 1) (c1 := .string tn) (c2 := .slice vA vn vc) (c3 := .string ⟨#[]⟩) (c4 := .bool false) (c5 := .int .i64 0) (c6 := .int .i64 0) HZ5.out
      have cF0 := cell_blk (i := 0) hF rfl
      have cF1 := cell_blk (i := 1) hF rfl
      have cF2 := cell_blk (i := 2) hF rfl
      have cF3 := cell_blk (i := 3) hF rfl
      have cF4 := cell_blk (i := 4) hF rfl
      have cF5 := cell_blk (i := 5) hF rfl
      have cF6 := cell_blk (i := 6) hF rfl
      have hX0 := HTX.out
      have hRF := put7_rd (c0 := .int .i64 1) (c1 := .string tn) (c2 := .slice vA vn vc) (c3 := .string ⟨#[]⟩) (c4 := .bool false) (c5 := .int .i64 0) (c6 := .int .i64 0) HR5.out (show X ≠ w.heap.size by omega) (show w.heap.size ≠ 0 by omega)
      refine bodyPost_ret (v := .tuple #[.agg #[.int .i64 1, .string tn, .slice vA vn vc, .string ⟨#[]⟩, .bool false, .int .i64 0, .int .i64 0], .bool false]) ?_ rfl ⟨put7_grown HG5.out (Nat.le_refl _), by rw [HN.out]; exact ⟨⟨1, tn, vA, vn, vc, .inl rfl, rfl⟩, hRF⟩⟩
      clear hF hRF
      simp [results, Tryz.results32, go_sem, cF0, cF1, cF2, cF3, cF4, cF5, cF6]
    | some ta =>
      obtain ⟨acc, self, r2⟩ := ta
      rw [hta] at htg hnx
      dsimp only at htg
      obtain ⟨nm, hnm⟩ : ∃ nm, bs (nameL ((r.drop 1).takeWhile tagB)) = nm := ⟨_, rfl⟩
      rw [hnm] at htg
      have HN := Lib.hid (show nextF r = some (some ⟨1, nm, acc, ⟨#[]⟩, self⟩, true, r2) from by rw [hnx, ← hnm]; rfl)
      have HTG := Lib.hid htg
      clear htg hnx hta hnm
      go_enter Tryz.func32, Tryz.ntmps32
      go_upto_region 1 with fail
      rw [← hw1]
      clear hw1
      go_wp2_with (go_at_call 46; refine (HTG.out _ HST.out.1).mono ?_; rintro e w5 ⟨hg5, v, rfl, ho5, hr5⟩; obtain ⟨vA, vc, rfl⟩ := Cl.Own.form ho5; have hg15 := HST.out.2.trans hg5; have hZ5 := (hg15.block w.heap.size (Array.getElem?_eq_some_iff.1 HX1.out).1 (by have := HTX.out; simp; omega)).trans HX1.out; have HZ5 := Lib.hid hZ5; have HG5 := Lib.hid ((grown_below HB1.out (some X)).trans hg15); have HR5 := Lib.hid hr5; have d0 := cell_blk (i := 0) hZ5 rfl; have d1 := cell_blk (i := 1) hZ5 rfl; have d2 := cell_blk (i := 2) hZ5 rfl; have d3 := cell_blk (i := 3) hZ5 rfl; have d4 := cell_blk (i := 4) hZ5 rfl; have d5 := cell_blk (i := 5) hZ5 rfl; have d6 := cell_blk (i := 6) hZ5 rfl; have fd0 := free_blk (i := 0) hZ5; have fd1 := free_blk (i := 1) hZ5; have fd2 := free_blk (i := 2) hZ5; have fd3 := free_blk (i := 3) hZ5; have fd4 := free_blk (i := 4) hZ5; have fd5 := free_blk (i := 5) hZ5; have fd6 := free_blk (i := 6) hZ5; have HO5 := Lib.hid ho5; clear hZ5 hg5 hr5 hg15 ho5)
      have hF := put7_blk (c0 := .int .i64 1) (c1 := .string nm) (c2 := .slice vA acc.length vc) (c3 := .string ⟨#[]⟩) (c4 := .bool self) (c5 := .int .i64 0) (c6 := .int .i64 0) HZ5.out
      have cF0 := cell_blk (i := 0) hF rfl
      have cF1 := cell_blk (i := 1) hF rfl
      have cF2 := cell_blk (i := 2) hF rfl
      have cF3 := cell_blk (i := 3) hF rfl
      have cF4 := cell_blk (i := 4) hF rfl
      have cF5 := cell_blk (i := 5) hF rfl
      have cF6 := cell_blk (i := 6) hF rfl
      have hX0 := HTX.out
      have hRF := put7_rd (c0 := .int .i64 1) (c1 := .string nm) (c2 := .slice vA acc.length vc) (c3 := .string ⟨#[]⟩) (c4 := .bool self) (c5 := .int .i64 0) (c6 := .int .i64 0) HR5.out (show X ≠ w.heap.size by omega) (show w.heap.size ≠ 0 by omega)
      refine bodyPost_ret (v := .tuple #[.agg #[.int .i64 1, .string nm, .slice vA acc.length vc, .string ⟨#[]⟩, .bool self, .int .i64 0, .int .i64 0], .bool true]) ?_ rfl ⟨put7_grown HG5.out (Nat.le_refl _), by rw [HN.out]; exact ⟨⟨.slice vA acc.length vc, rfl, ((put7_own HO5.out (by have := HZ1.out; show w.heap.size < (World.setCell _ _ _).heap.size; rw [World.size_setCell]; omega)).down (by have := HZ1.out; show w.heap.size ≤ (World.setCell _ _ _).heap.size; rw [World.size_setCell]; omega))⟩, hRF⟩⟩
      clear hF hRF
      simp [results, Tryz.results32, go_sem, cF0, cF1, cF2, cF3, cF4, cF5, cF6]
  · obtain ⟨b, t, hrt⟩ := mark_end hk
    rw [hk]
    change Calls Tryz.prog _ #[.pointer (some ⟨X, 0, none⟩), .int .u8 47] w _
    have hnx : nextF r = if b = 62 then some (none, true, t) else if letterB b then (tagT 2 (b :: t)).map fun x => (some x.1, true, x.2) else some (some (tkC (Lib.cut (b :: t) [62]).1), (Lib.cut (b :: t) [62]).2.2, (Lib.cut (b :: t) [62]).2.1) := by
      unfold nextF
      rw [if_neg (by rw [hk]; decide), if_neg (by rw [hk]; decide), if_neg (by rw [hk]; decide), hrt]
      rfl
    have HST := Lib.hid (show Rd (w1.setCell ⟨X, 1, none⟩ (.int .i64 ((a : Int) + 2))) X s (b :: t) E O ∧ w1.grownBy (w1.setCell ⟨X, 1, none⟩ (.int .i64 ((a : Int) + 2))) (some X) from by have := HST.out 2 (by decide); rw [show r.drop 2 = b :: t by rw [hrt]; rfl] at this; exact this)
    clear hk hrt
    go_enter Tryz.func32, Tryz.ntmps32
    go_upto_region 1 with fail
    rw [← hw1]
    clear hw1
    go_upto_region 10 with fail
    obtain ⟨w2, hw2⟩ : ∃ w2, w2 = w1.setCell ⟨X, 1, none⟩ (.int .i64 ((a : Int) + 2)) := ⟨_, rfl⟩
    rw [← hw2]
    rw [← hw2] at HST
    have hz2 : w2.heap.size = w1.heap.size := by rw [hw2]; exact World.size_setCell _ _ _
    have HZ2 := Lib.hid (show w2.heap.size = w.heap.size + 1 by rw [hz2]; exact HZ1.out)
    clear hw2 hz2 c0 c1 f1 i0 i1 i2
    obtain ⟨a2, haz2, hra2, hc2⟩ := rd_at HST.out.1
    have hm2 := HST.out.1.mx
    obtain ⟨hlt2, hsa2, hr3⟩ := at_head hra2
    have c0 := hc2.c0
    have c1 := hc2.c1
    have f1 := hc2.fr 1
    have j0 : (0 : Int) ≤ (a2 : Int) := by omega
    have j1 : (a2 : Int) < (s.size : Int) := by omega
    have HS6 := Lib.hid fun (k : Nat) => Rd.step (w := w2.drewN k) (n := (a2 : Int) + 1) (b := a2 + 1) (by omega) (by omega) hr3 hc2 hm2
    have HSA := Lib.hid hsa2
    clear haz2 hra2 hc2 hm2 hr3 hsa2
    go_quiet (fail)
    go_upto_region 11 with fail
    by_cases h62 : b = 62
    · rw [if_pos h62] at hnx
      have HN := Lib.hid hnx
      have e62 : ((s[a2].toNat : Int) == 62) = true := by rw [HSA.out, h62]; rfl
      have p62 : 62 ≤ s[a2].toNat := by rw [HSA.out, h62]; decide
      have p63 : s[a2].toNat ≤ 62 := by rw [HSA.out, h62]; decide
      clear hnx h62
      go_upto_region 13 with fail
      have hst := HS6.out nq
      obtain ⟨w5, hw5⟩ : ∃ w5, w5 = (w2.drewN nq).setCell ⟨X, 1, none⟩ (.int .i64 ((a2 : Int) + 1)) := ⟨_, rfl⟩
      rw [← hw5]
      rw [← hw5] at hst
      have hr5 := hst.1
      have hg15 := HST.out.2.trans ((grown_below (tdrewN w2 nq) (some X)).trans hst.2)
      have hZ5 := (hg15.block w.heap.size (Array.getElem?_eq_some_iff.1 HX1.out).1 (by have := HTX.out; simp; omega)).trans HX1.out
      have HZ5 := Lib.hid hZ5
      have HG5 := Lib.hid ((grown_below HB1.out (some X)).trans hg15)
      have HR5 := Lib.hid hr5
      have d0 := cell_blk (i := 0) hZ5 rfl
      have d1 := cell_blk (i := 1) hZ5 rfl
      have d2 := cell_blk (i := 2) hZ5 rfl
      have d3 := cell_blk (i := 3) hZ5 rfl
      have d4 := cell_blk (i := 4) hZ5 rfl
      have d5 := cell_blk (i := 5) hZ5 rfl
      have d6 := cell_blk (i := 6) hZ5 rfl
      have fd0 := free_blk (i := 0) hZ5
      have fd1 := free_blk (i := 1) hZ5
      have fd2 := free_blk (i := 2) hZ5
      have fd3 := free_blk (i := 3) hZ5
      have fd4 := free_blk (i := 4) hZ5
      have fd5 := free_blk (i := 5) hZ5
      have fd6 := free_blk (i := 6) hZ5
      clear hZ5 hr5 hg15 hst hw5 c0 c1 f1
      go_wp2_with fail
      have hF := put7_blk (c0 := .int .i64 0) (c1 := .string ⟨#[]⟩) (c2 := .slice none 0 0) (c3 := .string ⟨#[]⟩) (c4 := .bool false) (c5 := .int .i64 0) (c6 := .int .i64 0) HZ5.out
      have cF0 := cell_blk (i := 0) hF rfl
      have cF1 := cell_blk (i := 1) hF rfl
      have cF2 := cell_blk (i := 2) hF rfl
      have cF3 := cell_blk (i := 3) hF rfl
      have cF4 := cell_blk (i := 4) hF rfl
      have cF5 := cell_blk (i := 5) hF rfl
      have cF6 := cell_blk (i := 6) hF rfl
      have hX0 := HTX.out
      have hRF := put7_rd (c0 := .int .i64 0) (c1 := .string ⟨#[]⟩) (c2 := .slice none 0 0) (c3 := .string ⟨#[]⟩) (c4 := .bool false) (c5 := .int .i64 0) (c6 := .int .i64 0) HR5.out (show X ≠ w.heap.size by omega) (show w.heap.size ≠ 0 by omega)
      refine bodyPost_ret (v := .tuple #[.agg #[.int .i64 0, .string ⟨#[]⟩, .slice none 0 0, .string ⟨#[]⟩, .bool false, .int .i64 0, .int .i64 0], .bool true]) ?_ rfl ⟨put7_grown HG5.out (Nat.le_refl _), by rw [HN.out]; exact ⟨⟨.slice none 0 0, rfl, OwnF.nil _ _ _⟩, hRF⟩⟩
      clear hF hRF
      simp [results, Tryz.results32, go_sem, cF0, cF1, cF2, cF3, cF4, cF5, cF6]
    · rw [if_neg h62] at hnx
      have e62 : ((s[a2].toNat : Int) == 62) = false := by rw [HSA.out]; exact u8_ne (c := 62) (by decide) h62
      have p62 : ¬ s[a2].toNat = 62 := by rw [HSA.out]; exact fun e => h62 (UInt8.toNat_inj.1 e)
      have HLT := Lib.hid (fun u : World => letter_any s[a2] u)
      clear h62
      cases hl : letterB b with
      | false =>
        rw [HSA.out, hl, ← HSA.out] at HLT
        rw [hl, if_neg (by decide)] at hnx
        have hcm := HCM.out (b :: t)
        clear HCM
        generalize Lib.cut (b :: t) [62] = ct at hnx hcm
        obtain ⟨k1, k2, k3⟩ := ct
        have HN := Lib.hid (show nextF r = some (some ⟨4, ⟨#[]⟩, [], bs k1, false⟩, k3, k2) from hnx)
        have HCM := Lib.hid hcm
        clear hnx hcm hl
        go_wp2_with (first | (go_at_call 35; refine (HLT.out _).mono ?_; rintro e w3 ⟨rfl, rfl⟩) | (go_at_call 45; refine (HCM.out  _ (HST.out.1.next (tdrewN w2 _))).mono ?_; rintro e w5 ⟨rfl, hg5, hr5⟩; have hg15 := HST.out.2.trans ((grown_below (tdrewN w2 _) (some X)).trans hg5); have hZ5 := (hg15.block w.heap.size (Array.getElem?_eq_some_iff.1 HX1.out).1 (by have := HTX.out; simp; omega)).trans HX1.out; have HZ5 := Lib.hid hZ5; have HG5 := Lib.hid ((grown_below HB1.out (some X)).trans hg15); have HR5 := Lib.hid hr5; have d0 := cell_blk (i := 0) hZ5 rfl; have d1 := cell_blk (i := 1) hZ5 rfl; have d2 := cell_blk (i := 2) hZ5 rfl; have d3 := cell_blk (i := 3) hZ5 rfl; have d4 := cell_blk (i := 4) hZ5 rfl; have d5 := cell_blk (i := 5) hZ5 rfl; have d6 := cell_blk (i := 6) hZ5 rfl; have fd0 := free_blk (i := 0) hZ5; have fd1 := free_blk (i := 1) hZ5; have fd2 := free_blk (i := 2) hZ5; have fd3 := free_blk (i := 3) hZ5; have fd4 := free_blk (i := 4) hZ5; have fd5 := free_blk (i := 5) hZ5; have fd6 := free_blk (i := 6) hZ5; clear hZ5 hg5 hr5 hg15))
        have hF := put7_blk (c0 := .int .i64 4) (c1 := .string ⟨#[]⟩) (c2 := .slice none 0 0) (c3 := .string (bs k1)) (c4 := .bool false) (c5 := .int .i64 0) (c6 := .int .i64 0) HZ5.out
        have cF0 := cell_blk (i := 0) hF rfl
        have cF1 := cell_blk (i := 1) hF rfl
        have cF2 := cell_blk (i := 2) hF rfl
        have cF3 := cell_blk (i := 3) hF rfl
        have cF4 := cell_blk (i := 4) hF rfl
        have cF5 := cell_blk (i := 5) hF rfl
        have cF6 := cell_blk (i := 6) hF rfl
        have hX0 := HTX.out
        have hRF := put7_rd (c0 := .int .i64 4) (c1 := .string ⟨#[]⟩) (c2 := .slice none 0 0) (c3 := .string (bs k1)) (c4 := .bool false) (c5 := .int .i64 0) (c6 := .int .i64 0) HR5.out (show X ≠ w.heap.size by omega) (show w.heap.size ≠ 0 by omega)
        refine bodyPost_ret (v := .tuple #[.agg #[.int .i64 4, .string ⟨#[]⟩, .slice none 0 0, .string (bs k1), .bool false, .int .i64 0, .int .i64 0], .bool k3]) ?_ rfl ⟨put7_grown HG5.out (Nat.le_refl _), by rw [HN.out]; exact ⟨⟨.slice none 0 0, rfl, OwnF.nil _ _ _⟩, hRF⟩⟩
        clear hF hRF
        simp [results, Tryz.results32, go_sem, cF0, cF1, cF2, cF3, cF4, cF5, cF6]
      | true =>
        rw [HSA.out, hl, ← HSA.out] at HLT
        rw [hl, if_pos rfl] at hnx
        have htg := fun (u : World) (h : Rd u X s (b :: t) E O) => tkTag_any X s (b :: t) 2 E O u hs h
        unfold TagPost at htg
        unfold tagT at hnx
        cases hta : tagF [] ((b :: t).dropWhile tagB) with
        | none =>
          rw [hta] at htg hnx
          dsimp only at htg
          have HN := Lib.hid (show nextF r = none from hnx)
          have HTG := Lib.hid htg
          clear htg hnx hta hl
          go_upto_region 17 with (first | (go_at_call 35; refine (HLT.out _).mono ?_; rintro e w3 ⟨rfl, rfl⟩) | (go_at_call 46; refine (HTG.out _ (HST.out.1.next (tdrewN w2 _))).mono ?_; rintro e w5 ⟨hg5, ⟨tn, vA, vn, vc, rfl⟩, hr5⟩; have hg15 := HST.out.2.trans ((grown_below (tdrewN w2 _) (some X)).trans hg5); have hZ5 := (hg15.block w.heap.size (Array.getElem?_eq_some_iff.1 HX1.out).1 (by have := HTX.out; simp; omega)).trans HX1.out; have HZ5 := Lib.hid hZ5; have HG5 := Lib.hid ((grown_below HB1.out (some X)).trans hg15); have HR5 := Lib.hid hr5; have d0 := cell_blk (i := 0) hZ5 rfl; have d1 := cell_blk (i := 1) hZ5 rfl; have d2 := cell_blk (i := 2) hZ5 rfl; have d3 := cell_blk (i := 3) hZ5 rfl; have d4 := cell_blk (i := 4) hZ5 rfl; have d5 := cell_blk (i := 5) hZ5 rfl; have d6 := cell_blk (i := 6) hZ5 rfl; have fd0 := free_blk (i := 0) hZ5; have fd1 := free_blk (i := 1) hZ5; have fd2 := free_blk (i := 2) hZ5; have fd3 := free_blk (i := 3) hZ5; have fd4 := free_blk (i := 4) hZ5; have fd5 := free_blk (i := 5) hZ5; have fd6 := free_blk (i := 6) hZ5; clear hZ5 hg5 hr5 hg15))
          have hX0 := HTX.out
          have hF6 := put7_blk (c0 := .int .i64 2) (c1 := .string tn) (c2 := .slice vA vn vc) (c3 := .string ⟨#[]⟩) (c4 := .bool false) (c5 := .int .i64 0) (c6 := .int .i64 0) HZ5.out
          have hG6 := put7_grown (c0 := .int .i64 2) (c1 := .string tn) (c2 := .slice vA vn vc) (c3 := .string ⟨#[]⟩) (c4 := .bool false) (c5 := .int .i64 0) (c6 := .int .i64 0) HG5.out (Nat.le_refl _)
          have hR6 := put7_rd (c0 := .int .i64 2) (c1 := .string tn) (c2 := .slice vA vn vc) (c3 := .string ⟨#[]⟩) (c4 := .bool false) (c5 := .int .i64 0) (c6 := .int .i64 0) HR5.out (show X ≠ w.heap.size by omega) (show w.heap.size ≠ 0 by omega)
          clear d0 d1 d2 d3 d4 d5 d6 fd0 fd1 fd2 fd3 fd4 fd5 fd6
          obtain ⟨w6, hw6⟩ : ∃ w6, w6 = put7 w5 w.heap.size (.int .i64 2) (.string tn) (.slice vA vn vc) (.string ⟨#[]⟩) (.bool false) (.int .i64 0) (.int .i64 0) := ⟨_, rfl⟩
          change Code.wp _ _ _ _ (put7 w5 w.heap.size (.int .i64 2) (.string tn) (.slice vA vn vc) (.string ⟨#[]⟩) (.bool false) (.int .i64 0) (.int .i64 0))
          rw [← hw6]
          rw [← hw6] at hF6 hG6 hR6
          have e2 := free_blk (i := 2) hF6
          have e4 := free_blk (i := 4) hF6
          have b2 := cell_blk (i := 2) hF6 rfl
          have b4 := cell_blk (i := 4) hF6 rfl
          have HF6 := Lib.hid hF6
          have HG6 := Lib.hid hG6
          have HR6 := Lib.hid hR6
          clear hF6 hG6 hR6 hw6 hX0
          go_upto_region 18 with fail
          have hX0 := HTX.out
          have hZ5 := set_blk (i := 4) (set_blk (i := 2) HF6.out (.slice none 0 0)) (.bool false)
          have hG7 := grown_at (grown_at HG6.out (Nat.le_refl _) (i := 2) (.slice none 0 0)) (Nat.le_refl _) (i := 4) (.bool false)
          have hR7 := (HR6.out.far (Z := w.heap.size) (i := 2) (by omega) (by omega) (.slice none 0 0)).far (Z := w.heap.size) (i := 4) (by omega) (by omega) (.bool false)
          obtain ⟨w7, hw7⟩ : ∃ w7, w7 = (w6.setCell ⟨w.heap.size, 2, none⟩ (.slice none 0 0)).setCell ⟨w.heap.size, 4, none⟩ (.bool false) := ⟨_, rfl⟩
          rw [← hw7]
          rw [← hw7] at hZ5 hG7 hR7
          change w7.heap[w.heap.size]? = some (.cells #[.int .i64 2, .string tn, .slice none 0 0, .string ⟨#[]⟩, .bool false, .int .i64 0, .int .i64 0] 32 (0, 0)) at hZ5
          have HZ7 := Lib.hid hZ5
          have HG7 := Lib.hid hG7
          have HR7 := Lib.hid hR7
          have d0 := cell_blk (i := 0) hZ5 rfl
          have d1 := cell_blk (i := 1) hZ5 rfl
          have d2 := cell_blk (i := 2) hZ5 rfl
          have d3 := cell_blk (i := 3) hZ5 rfl
          have d4 := cell_blk (i := 4) hZ5 rfl
          have d5 := cell_blk (i := 5) hZ5 rfl
          have d6 := cell_blk (i := 6) hZ5 rfl
          have fd0 := free_blk (i := 0) hZ5
          have fd1 := free_blk (i := 1) hZ5
          have fd2 := free_blk (i := 2) hZ5
          have fd3 := free_blk (i := 3) hZ5
          have fd4 := free_blk (i := 4) hZ5
          have fd5 := free_blk (i := 5) hZ5
          have fd6 := free_blk (i := 6) hZ5
          clear hZ5 hG7 hR7 hw7 hX0 e2 e4 b2 b4
          go_wp2_with fail
          have hF := put7_blk (c0 := .int .i64 2) (c1 := .string tn) (c2 := .slice none 0 0) (c3 := .string ⟨#[]⟩) (c4 := .bool false) (c5 := .int .i64 0) (c6 := .int .i64 0) HZ7.out
          have cF0 := cell_blk (i := 0) hF rfl
          have cF1 := cell_blk (i := 1) hF rfl
          have cF2 := cell_blk (i := 2) hF rfl
          have cF3 := cell_blk (i := 3) hF rfl
          have cF4 := cell_blk (i := 4) hF rfl
          have cF5 := cell_blk (i := 5) hF rfl
          have cF6 := cell_blk (i := 6) hF rfl
          have hX0 := HTX.out
          have hRF := put7_rd (c0 := .int .i64 2) (c1 := .string tn) (c2 := .slice none 0 0) (c3 := .string ⟨#[]⟩) (c4 := .bool false) (c5 := .int .i64 0) (c6 := .int .i64 0) HR7.out (show X ≠ w.heap.size by omega) (show w.heap.size ≠ 0 by omega)
          refine bodyPost_ret (v := .tuple #[.agg #[.int .i64 2, .string tn, .slice none 0 0, .string ⟨#[]⟩, .bool false, .int .i64 0, .int .i64 0], .bool false]) ?_ rfl ⟨put7_grown HG7.out (Nat.le_refl _), by rw [HN.out]; exact ⟨⟨2, tn, none, 0, 0, .inr rfl, rfl⟩, hRF⟩⟩
          clear hF hRF
          simp [results, Tryz.results32, go_sem, cF0, cF1, cF2, cF3, cF4, cF5, cF6]
        | some ta =>
          obtain ⟨acc, self, r2⟩ := ta
          rw [hta] at htg hnx
          dsimp only at htg
          obtain ⟨nm, hnm⟩ : ∃ nm, bs (nameL ((b :: t).takeWhile tagB)) = nm := ⟨_, rfl⟩
          rw [hnm] at htg
          have HN := Lib.hid (show nextF r = some (some ⟨2, nm, [], ⟨#[]⟩, false⟩, true, r2) from by rw [hnx, ← hnm]; rfl)
          have HTG := Lib.hid htg
          clear htg hnx hta hnm hl
          go_upto_region 17 with (first | (go_at_call 35; refine (HLT.out _).mono ?_; rintro e w3 ⟨rfl, rfl⟩) | (go_at_call 46; refine (HTG.out _ (HST.out.1.next (tdrewN w2 _))).mono ?_; rintro e w5 ⟨hg5, v, rfl, ho5, hr5⟩; obtain ⟨vA, vc, rfl⟩ := Cl.Own.form ho5; have hg15 := HST.out.2.trans ((grown_below (tdrewN w2 _) (some X)).trans hg5); have hZ5 := (hg15.block w.heap.size (Array.getElem?_eq_some_iff.1 HX1.out).1 (by have := HTX.out; simp; omega)).trans HX1.out; have HZ5 := Lib.hid hZ5; have HG5 := Lib.hid ((grown_below HB1.out (some X)).trans hg15); have HR5 := Lib.hid hr5; have d0 := cell_blk (i := 0) hZ5 rfl; have d1 := cell_blk (i := 1) hZ5 rfl; have d2 := cell_blk (i := 2) hZ5 rfl; have d3 := cell_blk (i := 3) hZ5 rfl; have d4 := cell_blk (i := 4) hZ5 rfl; have d5 := cell_blk (i := 5) hZ5 rfl; have d6 := cell_blk (i := 6) hZ5 rfl; have fd0 := free_blk (i := 0) hZ5; have fd1 := free_blk (i := 1) hZ5; have fd2 := free_blk (i := 2) hZ5; have fd3 := free_blk (i := 3) hZ5; have fd4 := free_blk (i := 4) hZ5; have fd5 := free_blk (i := 5) hZ5; have fd6 := free_blk (i := 6) hZ5; clear hZ5 hg5 hr5 hg15 ho5))
          have hX0 := HTX.out
          have hF6 := put7_blk (c0 := .int .i64 2) (c1 := .string nm) (c2 := .slice vA acc.length vc) (c3 := .string ⟨#[]⟩) (c4 := .bool self) (c5 := .int .i64 0) (c6 := .int .i64 0) HZ5.out
          have hG6 := put7_grown (c0 := .int .i64 2) (c1 := .string nm) (c2 := .slice vA acc.length vc) (c3 := .string ⟨#[]⟩) (c4 := .bool self) (c5 := .int .i64 0) (c6 := .int .i64 0) HG5.out (Nat.le_refl _)
          have hR6 := put7_rd (c0 := .int .i64 2) (c1 := .string nm) (c2 := .slice vA acc.length vc) (c3 := .string ⟨#[]⟩) (c4 := .bool self) (c5 := .int .i64 0) (c6 := .int .i64 0) HR5.out (show X ≠ w.heap.size by omega) (show w.heap.size ≠ 0 by omega)
          clear d0 d1 d2 d3 d4 d5 d6 fd0 fd1 fd2 fd3 fd4 fd5 fd6
          obtain ⟨w6, hw6⟩ : ∃ w6, w6 = put7 w5 w.heap.size (.int .i64 2) (.string nm) (.slice vA acc.length vc) (.string ⟨#[]⟩) (.bool self) (.int .i64 0) (.int .i64 0) := ⟨_, rfl⟩
          change Code.wp _ _ _ _ (put7 w5 w.heap.size (.int .i64 2) (.string nm) (.slice vA acc.length vc) (.string ⟨#[]⟩) (.bool self) (.int .i64 0) (.int .i64 0))
          rw [← hw6]
          rw [← hw6] at hF6 hG6 hR6
          have e2 := free_blk (i := 2) hF6
          have e4 := free_blk (i := 4) hF6
          have b2 := cell_blk (i := 2) hF6 rfl
          have b4 := cell_blk (i := 4) hF6 rfl
          have HF6 := Lib.hid hF6
          have HG6 := Lib.hid hG6
          have HR6 := Lib.hid hR6
          clear hF6 hG6 hR6 hw6 hX0
          go_upto_region 18 with fail
          have hX0 := HTX.out
          have hZ5 := set_blk (i := 4) (set_blk (i := 2) HF6.out (.slice none 0 0)) (.bool false)
          have hG7 := grown_at (grown_at HG6.out (Nat.le_refl _) (i := 2) (.slice none 0 0)) (Nat.le_refl _) (i := 4) (.bool false)
          have hR7 := (HR6.out.far (Z := w.heap.size) (i := 2) (by omega) (by omega) (.slice none 0 0)).far (Z := w.heap.size) (i := 4) (by omega) (by omega) (.bool false)
          obtain ⟨w7, hw7⟩ : ∃ w7, w7 = (w6.setCell ⟨w.heap.size, 2, none⟩ (.slice none 0 0)).setCell ⟨w.heap.size, 4, none⟩ (.bool false) := ⟨_, rfl⟩
          rw [← hw7]
          rw [← hw7] at hZ5 hG7 hR7
          change w7.heap[w.heap.size]? = some (.cells #[.int .i64 2, .string nm, .slice none 0 0, .string ⟨#[]⟩, .bool false, .int .i64 0, .int .i64 0] 32 (0, 0)) at hZ5
          have HZ7 := Lib.hid hZ5
          have HG7 := Lib.hid hG7
          have HR7 := Lib.hid hR7
          have d0 := cell_blk (i := 0) hZ5 rfl
          have d1 := cell_blk (i := 1) hZ5 rfl
          have d2 := cell_blk (i := 2) hZ5 rfl
          have d3 := cell_blk (i := 3) hZ5 rfl
          have d4 := cell_blk (i := 4) hZ5 rfl
          have d5 := cell_blk (i := 5) hZ5 rfl
          have d6 := cell_blk (i := 6) hZ5 rfl
          have fd0 := free_blk (i := 0) hZ5
          have fd1 := free_blk (i := 1) hZ5
          have fd2 := free_blk (i := 2) hZ5
          have fd3 := free_blk (i := 3) hZ5
          have fd4 := free_blk (i := 4) hZ5
          have fd5 := free_blk (i := 5) hZ5
          have fd6 := free_blk (i := 6) hZ5
          clear hZ5 hG7 hR7 hw7 hX0 e2 e4 b2 b4
          go_wp2_with fail
          have hF := put7_blk (c0 := .int .i64 2) (c1 := .string nm) (c2 := .slice none 0 0) (c3 := .string ⟨#[]⟩) (c4 := .bool false) (c5 := .int .i64 0) (c6 := .int .i64 0) HZ7.out
          have cF0 := cell_blk (i := 0) hF rfl
          have cF1 := cell_blk (i := 1) hF rfl
          have cF2 := cell_blk (i := 2) hF rfl
          have cF3 := cell_blk (i := 3) hF rfl
          have cF4 := cell_blk (i := 4) hF rfl
          have cF5 := cell_blk (i := 5) hF rfl
          have cF6 := cell_blk (i := 6) hF rfl
          have hX0 := HTX.out
          have hRF := put7_rd (c0 := .int .i64 2) (c1 := .string nm) (c2 := .slice none 0 0) (c3 := .string ⟨#[]⟩) (c4 := .bool false) (c5 := .int .i64 0) (c6 := .int .i64 0) HR7.out (show X ≠ w.heap.size by omega) (show w.heap.size ≠ 0 by omega)
          refine bodyPost_ret (v := .tuple #[.agg #[.int .i64 2, .string nm, .slice none 0 0, .string ⟨#[]⟩, .bool false, .int .i64 0, .int .i64 0], .bool true]) ?_ rfl ⟨put7_grown HG7.out (Nat.le_refl _), by rw [HN.out]; exact ⟨⟨.slice none 0 0, rfl, OwnF.nil _ _ _⟩, hRF⟩⟩
          clear hF hRF
          simp [results, Tryz.results32, go_sem, cF0, cF1, cF2, cF3, cF4, cF5, cF6]
end Go.Proofs.YtbddnohbkafagaaGreatDoor

/-
Tokens: what read needs of the plain law.
-/
namespace Go.Proofs.YtbddnohbkafagaaGreatDoor
open Go.RowKit Go.Cl
theorem mark_cases {r : List UInt8} (h : markF r ≠ 0) : markF r = 33 ∨ markF r = 63 ∨ markF r = 97 ∨ markF r = 47 := by
  match r, h with
  | [], h => exact absurd rfl h
  | [_], h => exact absurd rfl h
  | c :: b :: t, h =>
    rw [mark_cons] at h ⊢
    split at h
    · exact absurd rfl h
    · rename_i hc
      rw [if_neg hc]
      split at h
      · rename_i hl
        rw [if_pos hl]
        exact .inr (.inr (.inl rfl))
      · rename_i hl
        rw [if_neg hl]
        split at h
        · rename_i hb
          rw [if_pos hb]
          rcases hb with hb | hb
          · exact .inl hb
          · exact .inr (.inl hb)
        · rename_i hb
          rw [if_neg hb]
          split at h
          · rename_i hd
            rw [if_pos hd]
            exact .inr (.inr (.inr hd.1))
          · exact absurd rfl h
/-- Where the last token that has an end of its own ended. -/
def endOf (s : ByteArray) (E : Int) : Option Nat → Int
  | none => E
  | some k => ((s.size - k : Nat) : Int)
theorem end_or (s : ByteArray) (E : Int) (a b : Option Nat) : endOf s E (a.or b) = endOf s (endOf s E b) a := by
  cases a with
  | none => rfl
  | some k => rfl
theorem tagT_small {k : Int} {r : List UInt8} {x : Tk × List UInt8} (h : tagT k r = some x) : x.1.kind = k ∧ x.1.name.size ≤ 40 ∧ x.1.text = ⟨#[]⟩ := by
  unfold tagT at h
  cases ht : tagF [] (r.dropWhile tagB) with
  | none => rw [ht] at h; exact absurd h (by simp)
  | some y =>
    rw [ht] at h
    have h2 := Option.some.inj h
    subst h2
    dsimp only
    split
    · rename_i hk
      exact ⟨hk.symm, nameL_len _, rfl⟩
    · exact ⟨rfl, nameL_len _, rfl⟩
theorem com_small (mark r : List UInt8) : (comF mark r).1.kind = 4 ∧ (comF mark r).1.name.size ≤ 40 ∧ (comF mark r).1.text.size ≤ r.length :=
  ⟨rfl, Nat.zero_le _, tcut_fst r mark⟩
theorem decl_small (r : List UInt8) : ((declF r).1.kind = 4 ∨ (declF r).1.kind = 5) ∧ (declF r).1.name.size ≤ 40 ∧ (declF r).1.text.size ≤ r.length := by
  unfold declF
  split
  · split
    · exact ⟨.inl rfl, Nat.zero_le _, Nat.zero_le _⟩
    · split
      · exact ⟨.inl rfl, Nat.zero_le _, Nat.zero_le _⟩
      · have h := com_small [45, 45, 62] (r.drop 4)
        rw [List.length_drop] at h
        exact ⟨.inl h.1, h.2.1, by omega⟩
  · split
    · exact ⟨.inr rfl, nameL_len _, Nat.zero_le _⟩
    · have h := com_small [62] (r.drop 2)
      rw [List.length_drop] at h
      exact ⟨.inl h.1, h.2.1, by omega⟩
/-- A token of markup is small. -/
theorem next_small {r : List UInt8} {t : Tk} {en : Bool} {r2 : List UInt8} (h : nextF r = some (some t, en, r2)) : (t.kind = 1 ∨ t.kind = 2 ∨ t.kind = 4 ∨ t.kind = 5) ∧ t.name.size ≤ 40 ∧ t.text.size ≤ r.length ∧ (en = false → t.kind = 4 ∨ t.kind = 5) := by
  unfold nextF at h
  split at h
  · have h2 := Option.some.inj h
    injection h2 with h3 h4
    injection h3 with h3
    subst h3
    have h5 := decl_small r
    exact ⟨by rcases h5.1 with h | h <;> simp [h], h5.2.1, h5.2.2, fun _ => h5.1⟩
  · split at h
    · have h2 := Option.some.inj h
      injection h2 with h3 h4
      injection h3 with h3
      subst h3
      have h5 := com_small [62] (r.drop 1)
      rw [List.length_drop] at h5
      exact ⟨.inr (.inr (.inl h5.1)), h5.2.1, by omega, fun _ => .inl h5.1⟩
    · split at h
      · cases ht : tagT 1 (r.drop 1) with
        | none => rw [ht] at h; exact absurd h (by simp)
        | some x =>
          rw [ht] at h
          have h2 := Option.some.inj h
          injection h2 with h3 h4
          injection h3 with h3
          injection h4 with h4 h6
          subst h3
          subst h4
          have h5 := tagT_small ht
          exact ⟨.inl h5.1, h5.2.1, by rw [h5.2.2]; exact Nat.zero_le _, fun h => by cases h⟩
      · cases hd : r.drop 2 with
        | nil => rw [hd] at h; exact absurd h (by simp)
        | cons b q =>
          have hl : (b :: q).length ≤ r.length := by rw [← hd, List.length_drop]; omega
          rw [hd] at h
          dsimp only at h
          split at h
          · have h2 := Option.some.inj h
            injection h2 with h3 h4
            exact absurd h3 (by simp)
          · split at h
            · cases ht : tagT 2 (b :: q) with
              | none => rw [ht] at h; exact absurd h (by simp)
              | some x =>
                rw [ht] at h
                have h2 := Option.some.inj h
                injection h2 with h3 h4
                injection h3 with h3
                injection h4 with h4 h6
                subst h3
                subst h4
                have h5 := tagT_small ht
                exact ⟨.inr (.inl h5.1), h5.2.1, by rw [h5.2.2]; exact Nat.zero_le _, fun h => by cases h⟩
            · have h2 := Option.some.inj h
              injection h2 with h3 h4
              injection h3 with h3
              subst h3
              have h5 := com_small [62] (b :: q)
              exact ⟨.inr (.inr (.inl h5.1)), h5.2.1, by omega, fun _ => .inl h5.1⟩
theorem addA_len (acc : List DAttr) (a : DAttr) : (addA acc a).length ≤ acc.length + 1 := by
  unfold addA
  split
  · omega
  · simp
theorem tagF_few {acc : List DAttr} {r : List UInt8} {x : List DAttr × Bool × List UInt8} (h : tagF acc r = some x) : x.1.length ≤ acc.length + r.length := by
  induction hn : r.length using Nat.strongRecOn generalizing acc r with
  | ind n ih =>
    subst hn
    rw [tagF_step] at h
    have h1 := dropW_le skipB r
    cases hd : r.dropWhile skipB with
    | nil => rw [hd] at h; cases h
    | cons b t =>
      rw [hd] at h h1
      rw [List.length_cons] at h1
      dsimp only at h
      split at h
      · cases h; dsimp only; omega
      · have h2 := attr_le b t
        have h3 := ih _ (by omega) h rfl
        have h4 := addA_len acc (attrF b t).1
        omega
theorem tagT_few {k : Int} {r : List UInt8} {x : Tk × List UInt8} (h : tagT k r = some x) : x.1.attrs.length ≤ r.length := by
  unfold tagT at h
  cases ht : tagF [] (r.dropWhile tagB) with
  | none => rw [ht] at h; cases h
  | some y =>
    rw [ht] at h
    cases h
    have h1 := tagF_few ht
    have h2 := dropW_le tagB r
    dsimp only
    split
    · rw [List.length_nil] at h1
      dsimp only
      omega
    · exact Nat.zero_le _
theorem next_few {r : List UInt8} {t : Tk} {en : Bool} {r2 : List UInt8} (h : nextF r = some (some t, en, r2)) : t.attrs.length ≤ r.length := by
  unfold nextF at h
  split at h
  · have h2 := Option.some.inj h
    injection h2 with h3 h4
    injection h3 with h3
    subst h3
    rw [decl_attrs]
    exact Nat.zero_le _
  · split at h
    · have h2 := Option.some.inj h
      injection h2 with h3 h4
      injection h3 with h3
      subst h3
      exact Nat.zero_le _
    · split at h
      · cases ht : tagT 1 (r.drop 1) with
        | none => rw [ht] at h; exact absurd h (by simp)
        | some x =>
          rw [ht] at h
          have h2 := Option.some.inj h
          injection h2 with h3 h4
          injection h3 with h3
          subst h3
          have h5 := tagT_few ht
          rw [List.length_drop] at h5
          omega
      · cases hd : r.drop 2 with
        | nil => rw [hd] at h; exact absurd h (by simp)
        | cons b q =>
          have hl : (b :: q).length ≤ r.length := by rw [← hd, List.length_drop]; omega
          rw [hd] at h
          dsimp only at h
          split at h
          · have h2 := Option.some.inj h
            injection h2 with h3 h4
            exact absurd h3 (by simp)
          · split at h
            · cases ht : tagT 2 (b :: q) with
              | none => rw [ht] at h; exact absurd h (by simp)
              | some x =>
                rw [ht] at h
                have h2 := Option.some.inj h
                injection h2 with h3 h4
                injection h3 with h3
                subst h3
                have h5 := tagT_few ht
                omega
            · have h2 := Option.some.inj h
              injection h2 with h3 h4
              injection h3 with h3
              subst h3
              exact Nat.zero_le _
/-- The name of a raw text is short and ASCII. -/
theorem rawN_small {l : List UInt8} (h : 0 < rawN l) : l.length ≤ 1000 ∧ ∀ b ∈ l, b.toNat < 128 := by
  unfold rawN at h
  split at h
  · rename_i h1
    rcases h1 with h1 | h1 <;> (subst h1; exact ⟨by decide, by decide⟩)
  · split at h
    · rename_i h1
      rcases h1 with h1 | h1 <;> (subst h1; exact ⟨by decide, by decide⟩)
    · exact absurd h (by decide)
/-- A list that was made above the reader's tokens leads away from them. -/
theorem own_fresh {w : World} {X base : Nat} {v va : Value} {n : Nat} {xs : List DAttr} (h : OwnF tDA w base 55 va n xs) (hX : X < base) (hv : ∀ g, v.ownBlock = some g → g < base) (hn : n * 32 ≤ 140737488355328) : ∃ A c, va = .slice A n c ∧ Sl tDA w (fresh X w v) A n c xs := by
  obtain ⟨A, c, rfl⟩ := Cl.Own.form h
  exact ⟨A, c, rfl, (Cl.Own.sl h (by decide) hn).more fun b hb => hb.elim False.elim fun hb => ⟨by omega, hb.2, fun e => by have := hv b e.symm; omega⟩⟩
theorem put_few (x : List UInt8) (y : ByteArray) (a b : Nat) : (putT x y a b).length ≤ x.length := by
  unfold putT
  split
  · exact Nat.zero_le _
  · rename_i h
    cases x with
    | nil => exact absurd rfl h
    | cons c t => simp
theorem text_few (r : List UInt8) (y : ByteArray) (a b : Nat) : (putT (textF r).1 y a b).length + (textF r).2.length ≤ r.length := by
  have h1 := put_few (textF r).1 y a b
  have h2 := congrArg List.length (text_split r)
  rw [List.length_append] at h2
  omega
theorem raw_few (nm r : List UInt8) (y : ByteArray) (a b : Nat) : (putT (rawF nm r).1 y a b).length + (rawF nm r).2.length ≤ r.length := by
  have h1 := put_few (rawF nm r).1 y a b
  have h2 := congrArg List.length (raw_split nm r)
  rw [List.length_append] at h2
  omega
end Go.Proofs.YtbddnohbkafagaaGreatDoor
