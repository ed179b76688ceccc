/-
The walks of package active: Push, Clear, Again.
-/
import Derived.Test.YtabilpahmmkjkaaActiveWalks3
import Derived.Deep.DeepCutAuto
namespace Go.Proofs.Ytabilpahmmkjkaa
open Go.RowKit Go.Cl

/-- What Push leaves: the error of the longer list; without one the list with the item. -/
def PushPost (w : World) (l : List Item) (x : Item) (e : Ending) (w' : World) : Prop :=
  ∃ A' n' c', e = .returned (.tuple #[.slice A' n' c', .int .i64 (checkE (l ++ [x]))]) ∧ Below w.heap.size w w' ∧ (checkE (l ++ [x]) = 0 → Sl tItem w' (lt w'.heap.size) A' n' c' (pushedL l x)) ∧ (checkE (l ++ [x]) ≠ 0 → n' = 0)
set_option maxRecDepth 100000 in
theorem push_any (A : Option Addr) (n c : Nat) (l : List Item) (x : Item) (Ax : Option Addr) (nx cx : Nat) (w : World) (hl : Sl tItem w (lt w.heap.size) A n c l) (hx : Sl tAttr w (lt w.heap.size) Ax nx cx x.attrs) (hwf : (Lit.int .i64 x.node).wf = true) (hxs : x.name.size ≤ 1152921504606846976) (hn : n ≤ 900) :
    Calls Try.prog 10 #[.slice A n c, .agg #[.int .i64 x.node, .string x.name, .slice Ax nx cx]] w (PushPost w l x) := by
  have HL := Lib.hid hl.hn
  obtain ⟨w0, hw0⟩ : ∃ w0, w0 = w.alloc (.cells #[.int .i64 x.node, .string x.name, .slice Ax nx cx] 26) := ⟨_, rfl⟩
  have hb0 : Below w.heap.size w w0 := by rw [hw0]; exact (Below.refl _ _).alloc (Nat.le_refl _) _
  have hz0 : w0.heap.size = w.heap.size + 1 := by rw [hw0]; exact World.size_alloc w _
  have hg0 : w0.heap[w.heap.size]? = some (.cells #[.int .i64 x.node, .string x.name, .slice Ax nx cx] 26 (0, 0)) := by rw [hw0]; exact heap_alloc_new w _
  have hlW : ∀ W, Below w.heap.size w W → Sl tItem W (lt w.heap.size) A n c l := fun W hW => hl.below hW (Nat.le_refl _)
  have hxW : ∀ W, Below w.heap.size w W → Sl tAttr W (lt w.heap.size) Ax nx cx x.attrs := fun W hW => hx.below hW (Nat.le_refl _)
  have b0 : w0.cell? ⟨w.heap.size, 0, none⟩ = some (.int .i64 x.node) := cell_blk hg0 rfl
  have b1 : w0.cell? ⟨w.heap.size, 1, none⟩ = some (.string x.name) := cell_blk hg0 rfl
  have b2 : w0.cell? ⟨w.heap.size, 2, none⟩ = some (.slice Ax nx cx) := cell_blk hg0 rfl
  have HK3 : Hid (∀ W W' : World, Below (w.heap.size + 1) W W' → W.cell? ⟨w.heap.size, 0, none⟩ = some (.int .i64 x.node) ∧ W.cell? ⟨w.heap.size, 1, none⟩ = some (.string x.name) ∧ W.cell? ⟨w.heap.size, 2, none⟩ = some (.slice Ax nx cx) →
      W'.cell? ⟨w.heap.size, 0, none⟩ = some (.int .i64 x.node) ∧ W'.cell? ⟨w.heap.size, 1, none⟩ = some (.string x.name) ∧ W'.cell? ⟨w.heap.size, 2, none⟩ = some (.slice Ax nx cx)) := fun W W' hb h =>
    ⟨(hb.cell (Nat.lt_succ_self _)).trans h.1, (hb.cell (Nat.lt_succ_self _)).trans h.2.1, (hb.cell (Nat.lt_succ_self _)).trans h.2.2⟩
  have HREP : Hid (∀ W : World, Below w.heap.size w W → tItem.rep W (lt w.heap.size) x [.int .i64 x.node, .string x.name, .slice Ax nx cx]) := fun W hW =>
    ⟨[.int .i64 x.node], [.string x.name, .slice Ax nx cx], rfl, ⟨rfl, hwf⟩, [.string x.name], [.slice Ax nx cx], rfl, ⟨rfl, hxs⟩, Ax, nx, cx, rfl, hxW W hW⟩
  have HLW := Lib.hid hlW
  have HXW := Lib.hid hxW
  have HG0 := Lib.hid hg0
  have HB0 := Lib.hid hb0
  clear hlW hxW hl hx hg0 hb0
  go_enter Try.func10, Try.ntmps10
  go_upto_region 1 with fail
  rw [← hw0]
  have HW0 := Lib.hid hw0
  clear hw0
  go_cut [6] (fun s6 wx => ∃ A' c', s6 = .slice A' (n + 1) c' ∧ Below (w.heap.size + 1) w0 wx ∧ Own tItem wx (w.heap.size + 1) 26 (fun b => b < wx.heap.size ∧ some b ≠ (Value.slice A' (n + 1) c').ownBlock) (.slice A' (n + 1) c') (n + 1) (l ++ [x]))
  case first =>
    obtain ⟨obj, hobj⟩ : ∃ obj : Obj, obj = .cells #[.agg #[]] 0 := ⟨_, rfl⟩
    clear hobj
    have hbd : Below (w.heap.size + 1) w0 w0.drew := (Below.refl _ _).drew
    go_region_held3 (fun w' => w'.cell? ⟨w.heap.size, 0, none⟩ = some (.int .i64 x.node) ∧ w'.cell? ⟨w.heap.size, 1, none⟩ = some (.string x.name) ∧ w'.cell? ⟨w.heap.size, 2, none⟩ = some (.slice Ax nx cx))
      (first | assumption | go_keep)
      (first
        | (go_at_call 30; refine (cloneItem A n c l w0.drew w.heap.size (HLW.out _ (HB0.out.drew)) (by show w.heap.size ≤ w0.heap.size; omega)).mono ?_; rintro e w1 ⟨A1, c1, rfl, hb1, hown1⟩; have hb1' : Below (w.heap.size + 1) w0 w1 := hbd.trans (hb1.mono (by show _ ≤ w0.heap.size; omega)); have k1 := HK3.out _ _ hb1' ⟨b0, b1, b2⟩; have hz1 := hb1'.size; have HBW := Lib.hid (HB0.out.trans (hb1'.mono (by omega))); have hbase : w.heap.size + 1 ≤ w0.drew.heap.size := (by show _ ≤ w0.heap.size; omega); have HO := Lib.hid (fun o => (hown1.down hbase).alloc o (fun b hb => by have hb' : b < w.heap.size := hb; omega)); have HD := Lib.hid (show ∀ (o : Obj) b, lt w.heap.size b → b < (w1.alloc o).heap.size ∧ some b ≠ (Value.slice A1 n c1).ownBlock from fun o b hb => ⟨by have hb' : b < w.heap.size := hb; rw [World.size_alloc]; omega, fun e => by have h1 := ((hown1.down hbase).lt b e.symm).1; have hb' : b < w.heap.size := hb; omega⟩); have HR := Lib.hid (fun o => HREP.out (w1.alloc o) (HBW.out.alloc (by omega) o)); clear hb1 hown1)
        | (go_at_call 30; refine (cloneItem A n c l _ w.heap.size (HLW.out _ ((HB0.out.alloc (by omega) _).drew)) (by show w.heap.size ≤ (w0.alloc _).heap.size; rw [World.size_alloc]; omega)).mono ?_; rintro e w1 ⟨A1, c1, rfl, hb1, hown1⟩; have hb1' : Below (w.heap.size + 1) w0 w1 := (((Below.refl (w.heap.size + 1) w0).alloc (by omega) _).drew).trans (hb1.mono (by show _ ≤ (w0.alloc _).heap.size; rw [World.size_alloc]; omega)); have k1 := HK3.out _ _ hb1' ⟨b0, b1, b2⟩; have hz1 := hb1'.size; have HBW := Lib.hid (HB0.out.trans (hb1'.mono (by omega))); have hbase : w.heap.size + 1 ≤ (w0.alloc (.cells #[.int .i64 x.node, .string x.name, .slice Ax nx cx] 26)).drew.heap.size := (by show _ ≤ (w0.alloc _).heap.size; rw [World.size_alloc]; omega); have HO := Lib.hid (hown1.down hbase); have HD := Lib.hid (show ∀ b, lt w.heap.size b → b < w1.heap.size ∧ some b ≠ (Value.slice A1 n c1).ownBlock from fun b hb => ⟨by have hb' : b < w.heap.size := hb; omega, fun e => by have h1 := ((hown1.down hbase).lt b e.symm).1; have hb' : b < w.heap.size := hb; omega⟩); have HR := Lib.hid (HREP.out w1 HBW.out); have HCN := Lib.hid (show ∀ j u, ([.int .i64 x.node, .string x.name, .slice Ax nx cx] : List Value)[j]? = some u → w1.cell? ⟨w.heap.size + 1, 0 + j, none⟩ = some u from fun j u hu => by rw [← hz0]; exact (hb1.cell (p := ⟨w0.heap.size, 0 + j, none⟩) (by show _ < (w0.alloc _).heap.size; rw [World.size_alloc]; show w0.heap.size < _; omega)).trans (cell_new w0 _ _ j u hu)); clear hb1 hown1)
        | (refine step_ap1 _ rfl (.tmp 9) (.tmp 11) 23 rfl elemItem (v := .slice A1 n c1) (D := lt w.heap.size) rfl (HO.out _) (HD.out _) (y := x) (cs := [.int .i64 x.node, .string x.name, .slice Ax nx cx]) rfl (HR.out _) (cell_new w1 _ _) (by omega) (by omega) (by rw [World.size_alloc]; omega) ?_; intro v2 w2 hown2 _ hbl2 _; have hb2' : Below (w.heap.size + 1) w0 w2 := (hb1'.alloc (by omega) _).trans hbl2; have k2 := HK3.out _ _ hb2' ⟨b0, b1, b2⟩; have hz2 := hb2'.size; clear hbl2; obtain ⟨A2, c2, rfl⟩ := hown2.form; have HS2 := Lib.hid ((hown2.sl (by decide) (by show (n + 1) * 48 ≤ _; omega)).more (D' := lt w2.heap.size) fun b hb => hb.elim (fun hb => by have hb' : b < w.heap.size := hb; show b < w2.heap.size; omega) fun hb => hb.2); clear hown2)
        | (refine step_ap1 _ rfl (.tmp 9) (.tmp 11) 23 rfl elemItem (v := .slice A1 n c1) (D := lt w.heap.size) rfl HO.out HD.out (y := x) (cs := [.int .i64 x.node, .string x.name, .slice Ax nx cx]) rfl HR.out HCN.out (by omega) (by omega) (by omega) ?_; intro v2 w2 hown2 _ hbl2 _; have hb2' : Below (w.heap.size + 1) w0 w2 := hb1'.trans hbl2; have k2 := HK3.out _ _ hb2' ⟨b0, b1, b2⟩; have hz2 := hb2'.size; clear hbl2; obtain ⟨A2, c2, rfl⟩ := hown2.form; have HS2 := Lib.hid ((hown2.sl (by decide) (by show (n + 1) * 48 ≤ _; omega)).more (D' := lt w2.heap.size) fun b hb => hb.elim (fun hb => by have hb' : b < w.heap.size := hb; show b < w2.heap.size; omega) fun hb => hb.2); clear hown2)
        | (go_at_call 29; refine (own_any A2 (n + 1) c2 (l ++ [x]) w2 w2.heap.size HS2.out (Nat.le_refl _)).mono ?_; rintro e w3 ⟨A3, c3, rfl, hb3, hown3⟩; have hb3' : Below (w.heap.size + 1) w0 w3 := hb2'.trans (hb3.mono (by omega)); have k3 := HK3.out _ _ hb3' ⟨b0, b1, b2⟩; have HO3 := Lib.hid (hown3.down (base' := w.heap.size + 1) (by omega)); have HB3 := Lib.hid hb3'; clear hown3 hb3 hb3')
        | fail)
    all_goals
      go_wp2_with fail
      go_meet
      exact ⟨A3, c3, rfl, HB3.out, HO3.out⟩
  case rest =>
    obtain ⟨A1, c1, rfl, hb1, hown1⟩ := hcut
    have hsl1 : Sl tItem wc (lt wc.heap.size) A1 (n + 1) c1 (l ++ [x]) := (hown1.sl (by decide) (by show (n + 1) * 48 ≤ _; omega)).more fun b hb => hb.elim (fun h => h.1) fun h => h.2
    have HS1 := Lib.hid hsl1
    have HO1 := Lib.hid hown1
    have HB1 := Lib.hid (HB0.out.trans (hb1.mono (by omega)))
    clear hsl1 hown1 hb1 b0 b1 b2
    go_wp2_with fail
    refine (check_any A1 (n + 1) c1 (l ++ [x]) wc wc.heap.size HS1.out (Nat.le_refl _)).mono ?_
    rintro e w2 ⟨rfl, hb2⟩
    have hz2 := hb2.size
    have hzc := HB1.out.size
    by_cases hce : checkE (l ++ [x]) = 0
    · have HO2 := HO1.out.below hb2 (fun k hk => (HO1.out.lt k hk).2) (fun b hb => hb.1)
      obtain ⟨g, cells, rfl, hg1, hg2, hrow, hcell, _⟩ := HO2.block (by omega)
      have hxn : (l ++ [x])[n]? = some x := by rw [HL.out]; simp
      obtain ⟨cs, hcs, hcj⟩ := hrow.at_ hxn
      obtain ⟨A5, n5, c5, rfl, hs5, _, _⟩ := item_cells hcs
      have y0 : w2.cell? ⟨g, n * 3, none⟩ = some (.int .i64 x.node) := hcell _ _ (hcj 0 _ rfl)
      have y1 : w2.cell? ⟨g, n * 3 + 1, none⟩ = some (.string x.name) := hcell _ _ (hcj 1 _ rfl)
      have y2 : w2.cell? ⟨g, n * 3 + 2, none⟩ = some (.slice A5 n5 c5) := hcell _ _ (hcj 2 _ rfl)
      have hcut := HO2.cut_to (k := n) (by omega)
      rw [show (l ++ [x]).take n = l from by rw [HL.out]; simp] at hcut
      have HP := Lib.hid (pushed_any (some ⟨g, 0, none⟩) n c1 l x A5 n5 c5 w2.drew (w.heap.size + 1) (fun b => b < wc.heap.size ∧ some b ≠ (Value.slice (some ⟨g, 0, none⟩) (n + 1) c1).ownBlock) hcut.drew (fun b hb => ⟨Nat.lt_of_lt_of_le hb.1 hz2, hb.2⟩) hs5.drew (by show _ ≤ w2.heap.size; omega) hwf hxs (by omega))
      have hc1 : n + 1 ≤ c1 := HS1.out.hc
      have hnc : n ≤ c1 := by omega
      have hni : (n : Int) < (n : Int) + 1 := by omega
      have HCE := Lib.hid hce
      rw [hce]
      clear hcut hs5 hcs hcj hrow hcell HO2 hce
      go_wp2_with fail
      go_still_tail 9, (by kernel_rfl)
      change wpList _ _ _ _ _ w2.drew
      go_wp2_with fail
      refine HP.out.mono ?_
      rintro e w5 ⟨n6, A6, c6, rfl, hb6, hown6⟩
      have HO6 := Lib.hid hown6
      have HB6 := Lib.hid (HB1.out.trans ((hb2.mono (by omega : w.heap.size ≤ wc.heap.size)).trans (((Below.refl _ w2).drew).trans (hb6.mono (by omega)))))
      have HZ6 := Lib.hid hb6.size
      clear hown6 hb6 y0 y1 y2 hb2
      go_wp2_with fail
      go_ret2
      refine ⟨A6, n6, c6, by rw [HCE.out]; rfl, HB6.out, fun _ => ?_, fun h => absurd HCE.out h⟩
      have hlen := HO6.out.len (by decide)
      have hpl : (pushedL l x).length ≤ l.length + 1 := by
        unfold pushedL
        rw [List.length_append]
        split
        · have := List.length_eraseIdx_le l ((sameTo l x l.length).headD 0); simp only [List.length_cons, List.length_nil]; omega
        · simp
      have hln := HL.out
      refine (HO6.out.sl (by decide) (by show n6 * 48 ≤ 140737488355328; omega)).more fun b hb => hb.elim (fun hb => ?_) fun hb => hb.2
      have h1 := HZ6.out
      have h2 : w2.drew.heap.size = w2.heap.size := rfl
      show b < w5.heap.size
      omega
    · have HCE := Lib.hid hce
      have hce' : (checkE (l ++ [x]) != 0) = true := by simpa using hce
      generalize hq : checkE (l ++ [x]) = q at *
      have HQ := Lib.hid hq
      have HB2 := Lib.hid (HB1.out.trans (hb2.mono (by omega : w.heap.size ≤ wc.heap.size)))
      clear hq hce hb2
      go_wp2_with fail
      go_ret2
      exact ⟨none, 0, 0, by rw [HQ.out]; rfl, HB2.out, fun h => absurd (by rw [← HQ.out]; exact h) HCE.out, fun _ => rfl⟩
end Go.Proofs.Ytabilpahmmkjkaa
