/-
The walks of package active: pushing.
-/
import Derived.Test.YtabilpahmmkjkaaActiveWalks2
namespace Go.Proofs.Ytabilpahmmkjkaa
open Go.RowKit Go.Cl

/-- The current items up to k that are alike to x. -/
def sameTo (l : List Item) (x : Item) (k : Nat) : List Nat := (List.range k).filter fun i => decide (lastN l ≤ i) && (match l[i]? with | some y => alikeB y x | none => false)
/-- A list with one item more. -/
def pushedL (l : List Item) (x : Item) : List Item :=
  (if !(x.node == -1) && decide (3 ≤ (sameTo l x l.length).length) then l.eraseIdx ((sameTo l x l.length).headD 0) else l) ++ [x]

theorem sameTo_succ (l : List Item) (x y : Item) (k : Nat) (hy : l[k]? = some y) (hk : lastN l ≤ k) : sameTo l x (k + 1) = sameTo l x k ++ if alikeB y x then [k] else [] := by
  unfold sameTo
  rw [List.range_succ, List.filter_append]
  congr 1
  cases h : alikeB y x <;> simp [hy, hk, h]
theorem sameTo_first (l : List Item) (x : Item) : sameTo l x (lastN l) = [] := by
  unfold sameTo
  rw [List.filter_eq_nil_iff]
  intro i hi
  have := List.mem_range.1 hi
  simp; omega
theorem sameTo_le (l : List Item) (x : Item) (k : Nat) : (sameTo l x k).length ≤ k := by
  have := List.length_filter_le (fun i => decide (lastN l ≤ i) && (match l[i]? with | some y => alikeB y x | none => false)) (List.range k)
  rw [List.length_range] at this
  exact this

set_option maxRecDepth 100000 in
theorem pushed_any (A : Option Addr) (n c : Nat) (l : List Item) (x : Item) (Ax : Option Addr) (nx cx : Nat) (w : World) (base : Nat) (D : Nat → Prop)
    (hown : Own tItem w base 26 D (.slice A n c) n l) (hD : ∀ b, D b → b < w.heap.size ∧ some b ≠ (Value.slice A n c).ownBlock) (hx : Sl tAttr w D Ax nx cx x.attrs) (hbase : base ≤ w.heap.size) (hwf : (Lit.int .i64 x.node).wf = true) (hxs : x.name.size ≤ 1152921504606846976) (hn : n ≤ 1000) :
    Calls Try.prog 32 #[.slice A n c, .agg #[.int .i64 x.node, .string x.name, .slice Ax nx cx]] w fun e w' => ∃ n' A' c', e = .returned (.slice A' n' c') ∧ Below base w w' ∧ Own tItem w' base 26 D (.slice A' n' c') n' (pushedL l x) := by
  have hln := hown.len (by decide)
  have HL := Lib.hid hln
  clear hln
  have hl0 : Sl tItem w (lt w.heap.size) A n c l := (hown.sl (by decide) (by show n * 48 ≤ _; omega)).more fun b hb => hb.elim (fun h => (hD b h).1) fun h => h.2
  have hz : ∀ o, (w.alloc o).heap.size = w.heap.size + 1 := World.size_alloc w
  obtain ⟨w0, hw0⟩ : ∃ w0, w0 = w.alloc (.cells #[.int .i64 x.node, .string x.name, .slice Ax nx cx] 26) := ⟨_, rfl⟩
  have hb0 : Below w.heap.size w w0 := by rw [hw0]; exact (Below.refl _ _).alloc (Nat.le_refl _) _
  have hz0 : w0.heap.size = w.heap.size + 1 := by rw [hw0]; exact hz _
  have hg0 : w0.heap[w.heap.size]? = some (.cells #[.int .i64 x.node, .string x.name, .slice Ax nx cx] 26 (0, 0)) := by rw [hw0]; exact heap_alloc_new w _
  go_enter Try.func32, Try.ntmps32
  go_wp2_with fail
  rw [← hw0]
  have HLAST := Lib.hid (last_any A n c l w0 w.heap.size (hl0.below hb0 (Nat.le_refl _)) (by omega))
  clear hw0 hz
  refine HLAST.out.mono ?_
  rintro e w1 ⟨rfl, hb1⟩
  have hlastle := lastN_le l
  have HLE : Hid (lastN l ≤ n) := by have := HL.out; show _ ≤ _; omega
  clear HLAST hlastle
  generalize hq : lastN l = q at *
  have HQ := Lib.hid hq
  have hqn := HLE.out
  clear hq
  go_wp2_with fail
  go_loopw [5, 6] (fun v i wr => ∃ k : Nat, q ≤ k ∧ k ≤ n ∧ i = .int .i64 (k : Int) ∧ Below (w.heap.size + 1) w0 wr ∧ OwnF (tInt .i64) wr (w.heap.size + 1) 3 v (sameTo l x k).length ((sameTo l x k).map Int.ofNat)) (fun _ i _ => n - (intOf i).toNat)
  case atStart => exact ⟨q, Nat.le_refl _, hqn, rfl, by rw [← hz0]; exact hb1, by rw [← HQ.out, sameTo_first]; exact OwnF.nil _ _ _⟩
  case round =>
    clear hb1
    obtain ⟨k, hqk, hk, rfl, hb, hsame⟩ := hrel
    by_cases hlt : k < n
    · obtain ⟨y, hy⟩ : ∃ y, l[k]? = some y := get_some (by have := HL.out; omega)
      have HSU := Lib.hid (sameTo_succ l x y k hy (by rw [HQ.out]; exact hqk))
      have hbw : Below w.heap.size w wr := hb0.trans (hb.mono (by omega))
      have hlr := hl0.below hbw (Nat.le_refl _)
      obtain ⟨bq, oq, A1, n1, c1, rfl, hDb, y0, y1, y2, hys⟩ := sl_item hlr hy
      have hgx := (hb.block w.heap.size (by omega)).trans hg0
      have x0 := cell_blk (i := 0) hgx rfl
      have x1 := cell_blk (i := 1) hgx rfl
      have x2 := cell_blk (i := 2) hgx rfl
      have hsz := hb.size
      have hxr : Sl tAttr wr (lt wr.heap.size) Ax nx cx x.attrs := (hx.more (D' := lt w.heap.size) fun b h => (hD b h).1).below hbw (Nat.le_refl _) |>.up hbw.size
      have HCALL := Lib.hid (alike_any y x A1 n1 c1 Ax nx cx wr.drew wr.heap.size (Nat.le_refl _) (hys.up hbw.size).drew hxr.drew)
      clear hgx hxr hys hlr hx hg0 hy
      have hkk : (k : Int) < (n : Int) := by omega
      go_wp2_with fail
      go_still_tail 5, (by kernel_rfl)
      change wpList _ _ _ _ _ wr.drew
      go_wp2_with fail
      refine HCALL.out.mono ?_
      rintro e w2 ⟨rfl, hb2⟩
      have hb2' : Below wr.heap.size wr w2 := ((Below.refl _ wr).drew).trans hb2
      have hb3 : Below (w.heap.size + 1) w0 w2 := hb.trans (hb2'.mono (by omega))
      have hsame2 := hsame.below hb2' (Nat.le_refl _)
      have hsz2 := hb2'.size
      clear x0 x1 x2 y0 y1 y2 HCALL hb2 hb2' hsame hb hbw
      cases hal : alikeB y x with
      | true =>
        have hlen := sameTo_le l x k
        have HS : Hid (sameTo l x (k + 1) = sameTo l x k ++ [k]) := by have := HSU.out; rw [hal, if_pos rfl] at this; exact this
        clear hal
        generalize sameTo l x k = ss at *
        have hone : Sl (tInt .i64) (w2.alloc (.cells #[.int .i64 (k : Int)] 3)) (lt (w2.heap.size + 1)) (some ⟨w2.heap.size, 0, none⟩) 1 1 [(k : Int)] :=
          Sl.one_new (flatInt _) w2 3 (cs := [.int .i64 (k : Int)]) ⟨rfl, WalkArith.wf_i64 (by omega)⟩ (by decide)
        go_wp2_with (at_builtin; refine wpList_apf _ (flatInt _) rfl (.tmp 21) (.tmp 23) 34 rfl elemInt (v := u5) rfl (hsame2.al _) rfl hone (by omega) (by omega) (by simp; omega) ?_; intro v3 w3 hown3 hgr3 hbl3 _)
        go_roundw
        case rel => exact ⟨k + 1, by omega, by omega, by go_num, (hb3.alloc (by omega) _).trans hbl3, by rw [HS.out]; simpa using hown3⟩
        case measure => simp [intOf]; omega
      | false =>
        have HS : Hid (sameTo l x (k + 1) = sameTo l x k) := by have := HSU.out; rw [hal] at this; exact this.trans (by simp)
        clear hal
        generalize sameTo l x k = ss at *
        go_wp2_with fail
        go_roundw
        case rel => exact ⟨k + 1, by omega, by omega, by go_num, hb3, by rw [HS.out]; exact hsame2⟩
        case measure => simp [intOf]; omega
    · obtain rfl : n = k := by omega
      have hbw : Below w.heap.size w wr := hb0.trans (hb.mono (by omega))
      have hgx := (hb.block w.heap.size (by omega)).trans hg0
      have x0 := cell_blk (i := 0) hgx rfl
      have x1 := cell_blk (i := 1) hgx rfl
      have x2 := cell_blk (i := 2) hgx rfl
      have hsz := hb.size
      clear hgx
      go_wp2_with fail
      refine (marker_any x.node x.name Ax nx cx wr).mono ?_
      rintro e w3 ⟨rfl, hb3⟩
      have hb4 : Below (w.heap.size + 1) w0 w3 := hb.trans (hb3.mono (by omega))
      have hsame3 := hsame.below hb3 (Nat.le_refl _)
      have hbw3 : Below w.heap.size w w3 := hb0.trans (hb4.mono (by omega))
      have hown3 := hown.below hbw3 (fun j hj => (hown.lt j hj).2) (fun b h => (hD b h).1)
      have hgx := (hb4.block w.heap.size (by omega)).trans hg0
      have hsz3 := hb4.size
      have hx3 := (hx.keep (w' := w3) fun p hp => hbw3.cell (hD _ hp).1)
      obtain ⟨As, cs, hAs⟩ := Own.form hsame3
      subst hAs
      have hLn := hown.lt
      have hss : (sameTo l x n).length ≤ n := sameTo_le l x n
      have HPL : Hid (∀ l', l' = (if !(x.node == -1) && decide (3 ≤ (sameTo l x n).length) then l.eraseIdx ((sameTo l x n).headD 0) else l) → l' ++ [x] = pushedL l x) := fun l' e => by rw [e, pushedL, HL.out]
      clear x0 x1 x2 hb hb3 hbw hsame hown hx hl0 hg0 hb0
      cases hmk : (x.node == -1) with
      | true =>
        have x0 := cell_blk (i := 0) hgx rfl
        have x1 := cell_blk (i := 1) hgx rfl
        have x2 := cell_blk (i := 2) hgx rfl
        have HM := Lib.hid hmk
        clear hmk
        go_wp2_with (at_builtin; (refine wpList_ap1 _ rfl (.tmp 42) (.tmp 44) 23 rfl elemItem (v := .slice A n c) (D := D) rfl (hown3.alloc _ (fun b hb => by have := (hD b hb).1; omega)) (fun b hb => ⟨by have := (hD b hb).1; simp; omega, (hD b hb).2⟩) (y := x) (cs := [.int .i64 x.node, .string x.name, .slice Ax nx cx]) rfl ⟨[.int .i64 x.node], [.string x.name, .slice Ax nx cx], rfl, ⟨rfl, hwf⟩, [.string x.name], [.slice Ax nx cx], rfl, ⟨rfl, hxs⟩, Ax, nx, cx, rfl, hx3.keep fun p hp => World.cell?_alloc_lt _ _ p (by have := (hD _ hp).1; omega)⟩ (cell_new w3 _ _) (by omega) (by omega) (by simp; omega) ?_); intro v6 w6 hown6 _ hbl6 _)
        obtain ⟨A6, c6, rfl⟩ := hown6.form
        go_ret
        exact ⟨n + 1, A6, c6, rfl, ((hbw3.mono hbase).alloc (by omega) _).trans hbl6, by rw [← HPL.out l (by rw [HM.out]; rfl)]; exact hown6⟩
      | false =>
        have HM := Lib.hid hmk
        by_cases h3 : 3 ≤ (sameTo l x n).length
        · have H3 := Lib.hid h3
          have hn0 : 0 < n := by omega
          obtain ⟨gs, scells, hAs, hgs1, hgs2, hsrow, hscell, _⟩ := Own.block hsame3 (by omega)
          subst hAs
          obtain ⟨s0, hs0⟩ : ∃ s0, (sameTo l x n)[0]? = some s0 := get_some (by omega)
          have hs0n : s0 < n := by
            have := List.mem_of_getElem? hs0
            rw [sameTo, List.mem_filter, List.mem_range] at this
            exact this.1
          obtain ⟨scs, hscs, hscj⟩ := hsrow.at_ (i := 0) (x := (s0 : Int)) (by simp [hs0])
          obtain ⟨rfl, _⟩ := hscs
          have hc0 : w3.cell? ⟨gs, 0, none⟩ = some (.int .i64 (s0 : Int)) := hscell 0 _ (hscj 0 _ rfl)
          obtain ⟨g, cells, rfl, hg1, hg2, _, _, _⟩ := hown3.block hn0
          have HDEL := Lib.hid (deleteItem g n c s0 l w3.drew base D hown3.drew (fun b hb e => (hD b hb).2 (by rw [e]; rfl)) hs0n (by omega))
          have HH : Hid ((sameTo l x n).headD 0 = s0) := by show _ = _; rw [List.headD_eq_head?_getD, List.head?_eq_getElem?, hs0]; rfl
          have hgne : g < w.heap.size := hLn g rfl |>.2
          have hL3 : (3 : Int) ≤ ((sameTo l x n).length : Int) := by omega
          have hL0n : 0 < (sameTo l x n).length := by omega
          have hwr : IntKind.i64.wrap ((s0 : Int) + 1) = (s0 : Int) + 1 := IntWalk.i64_in _ (by omega)
          have hL0 : (0 : Int) < ((sameTo l x n).length : Int) := by omega
          have x0 := cell_blk (i := 0) hgx rfl
          have x1 := cell_blk (i := 1) hgx rfl
          have x2 := cell_blk (i := 2) hgx rfl
          generalize sameTo l x n = ss at *
          clear hmk h3 hs0 hsrow hscell hscj hsame3
          go_wp2_with fail
          go_still_tail 8, (by kernel_rfl)
          change wpList _ _ _ _ _ w3.drew
          go_wp2_with fail
          refine HDEL.out.mono ?_
          rintro e w5 ⟨rfl, hown5, hgr5⟩
          clear x0 x1 x2 hc0
          have hb5 : Below base w3 w5 := ((Below.refl _ w3).drew).grown hgr5 (by show base ≤ w3.heap.size; omega) (fun k hk => by have := Option.some.inj hk; omega)
          have hgx5 : w5.heap[w.heap.size]? = some (.cells #[.int .i64 x.node, .string x.name, .slice Ax nx cx] 26 (0, 0)) := (hgr5.block w.heap.size (by show w.heap.size < w3.heap.size; omega) (fun e => by have := Option.some.inj e; omega)).trans hgx
          have x0 := cell_blk (i := 0) hgx5 rfl
          have x1 := cell_blk (i := 1) hgx5 rfl
          have x2 := cell_blk (i := 2) hgx5 rfl
          have hsz5 := hb5.size
          have hx3' : Sl tAttr w5 D Ax nx cx x.attrs := hx3.keep fun p hp => World.cell?_of_block (w := w3) (hgr5.block p.block (by have := (hD _ hp).1; show p.block < w3.heap.size; omega) (fun e => (hD _ hp).2 e))
          clear hx3
          have hx3 := hx3'
          clear hx3' hgx hgx5
          have hown5' := hown5
          clear hown5
          go_wp2_with (at_builtin; (refine wpList_ap1 _ rfl (.tmp 42) (.tmp 44) 23 rfl elemItem (v := .slice (some ⟨g, 0, none⟩) (n - 1) c) (D := D) rfl (hown5'.alloc _ (fun b hb => by have := (hD b hb).1; omega)) (fun b hb => ⟨by have := (hD b hb).1; simp; omega, (hD b hb).2⟩) (y := x) (cs := [.int .i64 x.node, .string x.name, .slice Ax nx cx]) rfl ⟨[.int .i64 x.node], [.string x.name, .slice Ax nx cx], rfl, ⟨rfl, hwf⟩, [.string x.name], [.slice Ax nx cx], rfl, ⟨rfl, hxs⟩, Ax, nx, cx, rfl, hx3.keep fun p hp => World.cell?_alloc_lt _ _ p (by have := (hD _ hp).1; omega)⟩ (cell_new w5 _ _) (by omega) (by omega) (by simp; omega) ?_); intro v6 w6 hown6 _ hbl6 _)
          obtain ⟨A6, c6, rfl⟩ := hown6.form
          go_ret
          exact ⟨n - 1 + 1, A6, c6, rfl, (((hbw3.mono hbase).trans hb5).alloc (by omega) _).trans hbl6, by rw [← HPL.out (l.eraseIdx s0) (by rw [HM.out, decide_eq_true H3.out, HH.out]; rfl)]; exact hown6⟩
        · have H3 := Lib.hid h3
          have hL3 : ((sameTo l x n).length : Int) < 3 := by omega
          have x0 := cell_blk (i := 0) hgx rfl
          have x1 := cell_blk (i := 1) hgx rfl
          have x2 := cell_blk (i := 2) hgx rfl
          generalize sameTo l x n = ss at *
          clear hmk h3
          go_wp2_with (at_builtin; (refine wpList_ap1 _ rfl (.tmp 42) (.tmp 44) 23 rfl elemItem (v := .slice A n c) (D := D) rfl (hown3.alloc _ (fun b hb => by have := (hD b hb).1; omega)) (fun b hb => ⟨by have := (hD b hb).1; simp; omega, (hD b hb).2⟩) (y := x) (cs := [.int .i64 x.node, .string x.name, .slice Ax nx cx]) rfl ⟨[.int .i64 x.node], [.string x.name, .slice Ax nx cx], rfl, ⟨rfl, hwf⟩, [.string x.name], [.slice Ax nx cx], rfl, ⟨rfl, hxs⟩, Ax, nx, cx, rfl, hx3.keep fun p hp => World.cell?_alloc_lt _ _ p (by have := (hD _ hp).1; omega)⟩ (cell_new w3 _ _) (by omega) (by omega) (by simp; omega) ?_); intro v6 w6 hown6 _ hbl6 _)
          obtain ⟨A6, c6, rfl⟩ := hown6.form
          go_ret
          exact ⟨n + 1, A6, c6, rfl, ((hbw3.mono hbase).alloc (by omega) _).trans hbl6, by rw [← HPL.out l (by rw [HM.out, decide_eq_false H3.out]; rfl)]; exact hown6⟩

end Go.Proofs.Ytabilpahmmkjkaa
