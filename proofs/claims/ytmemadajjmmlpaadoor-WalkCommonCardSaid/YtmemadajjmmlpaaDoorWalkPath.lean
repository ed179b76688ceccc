/-
The walks of package walk: path, check.
-/
import Derived.Test.YtmemadajjmmlpaaDoorWalkStep
namespace Go.Proofs.YtmemadajjmmlpaaDoor
open Go.RowKit Go.Cl
attribute [local go_sem ↓] Go.wp_at_zero Go.wp_at_succ

/-- A node, and all above it. -/
def chainF (l : List Nd) : Nat → Int → List Int
  | 0, _ => []
  | f + 1, z => z :: chainF l f (parD l z)
def chainR (l : List Nd) (z : Int) : List Int := chainF l (depZ l z) z
theorem chain_end (l : List Nd) : chainR l (-1) = [] := rfl
theorem Tree.chain_step {l : List Nd} (T : Tree l) {m : Nat} (hm : m < l.length) : chainR l m = (m : Int) :: chainR l (parD l m) := by
  unfold chainR
  rw [← T.dep_par hm, chainF]
theorem Tree.chain_len {l : List Nd} (T : Tree l) {m : Nat} (hm : m < l.length) : (chainR l m).length ≤ 41 := by
  have h : ∀ f z, (chainF l f z).length = f := by
    intro f
    induction f with
    | zero => intro z; rfl
    | succ f ih => intro z; rw [chainF, List.length_cons, ih]
  have := (T.deep m hm).1
  unfold chainR depZ
  rw [h, if_neg (by omega)]
  omega

theorem own_rev {w : World} {base g n c k : Nat} {xs : List Int} (h : OwnF (tInt .i64) w base 3 (.slice (some ⟨g, 0, none⟩) n c) n xs) :
    OwnF (tInt .i64) ((w.drewN k).setCells g 0 (xs.reverse.map (Value.int .i64))) base 3 (.slice (some ⟨g, 0, none⟩) n c) n xs.reverse ∧ (base ≤ g → Below base w ((w.drewN k).setCells g 0 (xs.reverse.map (Value.int .i64)))) := by
  have hln := Own.len h (by decide)
  obtain ⟨cells, h1, h2⟩ := h
  have hbl : ∀ (vs : List Value) (o : Nat) (W : World), base ≤ g → Below base w W → Below base w (W.setCells g o vs) := by
    intro vs
    induction vs with
    | nil => intro o W _ hW; exact hW
    | cons v r ih => intro o W hg hW; exact ih (o + 1) _ hg (hW.setCell (p := ⟨g, o, none⟩) hg v)
  refine ⟨?_, fun hg => hbl _ 0 _ hg (below_dN (Below.refl _ _) _)⟩
  have hwf : ∀ x ∈ xs, (Lit.int .i64 x).wf = true := by
    intro x hx
    obtain ⟨i, hi⟩ := List.mem_iff_getElem?.1 hx
    obtain ⟨cs, ⟨_, hr⟩, _⟩ := h2.at_ hi
    exact hr
  have hrow : ∀ ys : List Int, (∀ x ∈ ys, (Lit.int .i64 x).wf = true) → Row (tInt .i64) ((w.drewN k).setCells g 0 (xs.reverse.map (Value.int .i64))) (fun _ => False) ys (ys.map (Value.int .i64)) := by
    intro ys
    induction ys with
    | nil => intro _; exact Row.nil
    | cons y ys ih => intro hy; exact ⟨[.int .i64 y], _, rfl, ⟨rfl, hy y (by simp)⟩, ih (fun x hx => hy x (by simp [hx]))⟩
  refine ⟨xs.reverse.map (Value.int .i64), ⟨by simp [tInt, hln], ?_⟩, hrow _ (fun x hx => hwf x (by simpa using hx))⟩
  rcases h1.2 with ⟨hv, h0⟩ | ⟨g', cap, cur, hv, hb, hh, hnc, hcm, hsz, htk⟩
  · cases hv
  · simp only [Value.slice.injEq, Option.some.injEq, Addr.mk.injEq, and_true, true_and] at hv
    obtain ⟨rfl, rfl⟩ := hv
    have hs1 : (tInt .i64).size = 1 := rfl
    rw [hs1, Nat.mul_one] at hsz htk
    have hh' : (w.drewN k).heap[g]? = some (.cells cur 3 (0, 0)) := hh
    obtain ⟨cur', e1, e2, e3⟩ := heap_setCells (xs.reverse.map (Value.int .i64)) 0 (w.drewN k) cur hh' (by simp; omega)
    refine .inr ⟨g, c, cur', rfl, hb, e1, hnc, hcm, by rw [e2, hs1, Nat.mul_one]; exact hsz, ?_⟩
    rw [e3, hs1, Nat.mul_one]
    simp only [List.take_zero, List.nil_append, Nat.zero_add]
    rw [List.take_append_of_le_length (by simp; omega), List.take_of_length_le (by simp; omega)]

set_option maxRecDepth 100000 in
set_option maxHeartbeats 1000000 in
theorem path_any (w : World) (g b o n c : Nat) (q : Bool) (l : List Nd) (m : Nat) (hW : WkAt w g b o n c q l) (hm : m < l.length) :
    Calls Tryd.prog 38 #[.pointer (some ⟨g, 0, none⟩), .int .i64 (m : Int)] w fun e w' => ∃ v, e = .returned v ∧ OwnF (tInt .i64) w' w.heap.size 3 v (chainR l m).length (chainR l m).reverse ∧ Below w.heap.size w w' := by
  have HN := Lib.hid hW.doc.hn
  have hcap := hW.cap
  have HW := Lib.hid hW
  have hcl := hW.tree.chain_len hm
  clear hW
  go_enter Tryd.func38, Tryd.ntmps38
  go_wp2_with fail
  go_loopw [1, 4] (fun s v wr => ∃ (z : Int) (xs : List Int), s = .int .i64 z ∧ (z = -1 ∨ ∃ k : Nat, z = (k : Int) ∧ k < l.length) ∧ Hid (chainR l m = xs ++ chainR l z) ∧ Below w.heap.size w wr ∧ OwnF (tInt .i64) wr w.heap.size 3 v xs.length xs) (fun s _ _ => depZ l (intOf s))
  case atStart => exact ⟨_, [], rfl, Or.inr ⟨m, rfl, hm⟩, Lib.hid rfl, Below.refl _ _, OwnF.nil _ _ _⟩
  case round =>
    obtain ⟨z, xs, rfl, hz, HC, hb, hown⟩ := hrel
    have hzs := hb.size
    rcases hz with rfl | ⟨k, rfl, hk⟩
    · have HR := Lib.hid (show chainR l m = xs from by rw [HC.out, chain_end, List.append_nil])
      have hne : 0 < xs.length := by
        rw [← HR.out, HW.out.tree.chain_step hm, List.length_cons]
        omega
      have hx41 : xs.length ≤ 41 := by rw [← HR.out]; exact hcl
      obtain ⟨A, cc, rfl⟩ := Own.form hown
      obtain ⟨gg, cells, rfl, hgg, hgl, hrow, hcell, hfz⟩ := Own.block hown hne
      have HREV := Lib.hid (fun k => own_rev (k := k) hown)
      have HRV := Lib.hid (fun W (h : W = wr) => Tryd.slices_Reverse_int_cells gg 0 xs.length cc xs W (Nat.le_refl _) (by omega) (fun j hj => by
        obtain ⟨x, hx⟩ := get_some hj
        obtain ⟨cs, ⟨rfl, _⟩, hj2⟩ := hrow.at_ hx
        have h3 := hj2 0 _ rfl
        rw [h, Nat.zero_add, hcell j (.int .i64 x) (by simpa [tInt] using h3), List.getD, hx]
        rfl) (fun j _ => by rw [h, Nat.zero_add]; exact hfz j))
      have HB := Lib.hid hb
      clear hown hrow hcell hfz hb
      go_wp2_with fail
      refine (HRV.out _ rfl).mono ?_
      rintro e w2 ⟨rfl, kq, rfl⟩
      rw [List.take_length]
      go_wp2_with fail
      go_ret
      rw [← List.map_reverse]
      exact ⟨_, rfl, by rw [HR.out]; exact (HREV.out kq).1, HB.out.trans ((HREV.out kq).2 hgg)⟩
    · obtain ⟨_, _, _, c4, _, _⟩ := (HW.out.below hb).node hk
      have HCS := Lib.hid (show chainR l m = (xs ++ [(k : Int)]) ++ chainR l (parD l k) from by rw [HC.out, HW.out.tree.chain_step hk, List.append_assoc]; rfl)
      have HD := Lib.hid (HW.out.tree.dep_par hk)
      have HPZ : Hid (parD l k = -1 ∨ ∃ p : Nat, parD l k = (p : Int) ∧ p < l.length) := by
        rcases HW.out.tree.par hk with e | ⟨p, e, hp, _⟩
        · exact Or.inl e
        · exact Or.inr ⟨p, e, hp⟩
      have hx41 : xs.length ≤ 41 := by
        have := congrArg List.length HC.out
        rw [List.length_append] at this
        omega
      have hbx := cell_blk (i := 0) ((HW.out.below hb).box) rfl
      have i1 : (0 : Int) ≤ (k : Int) := by omega
      have i2 : (k : Int) < (n : Int) := by have := HN.out; omega
      have hkn : k < n := by have := HN.out; omega
      have hsm := HW.out.tree.small
      have HT : Hid (∀ W, Below w.heap.size wr W → W.cell? ⟨g, 0, none⟩ = some (.slice (some ⟨b, o, none⟩) n c) ∧ W.cell? ⟨b, o + k * 6 + 4, none⟩ = some (.int .i64 (parD l k))) := fun W hW =>
        ⟨(hW.cell (p := ⟨g, 0, none⟩) (Array.getElem?_eq_some_iff.1 HW.out.box).1).trans hbx, (hW.cell (p := ⟨b, o + k * 6 + 4, none⟩) HW.out.doc.lt).trans c4⟩
      generalize parD l k = z at *
      clear c4 hbx
      go_upto_region 2 with (at_builtin; refine wpList_ap1 _ rfl (.tmp 16) (.tmp 18) 33 rfl elemI (v := u4) (D := fun _ => False) rfl (OwnF.al hown _) (fun _ h => h.elim) (y := (k : Int)) (cs := [.int .i64 (k : Int)]) rfl ⟨rfl, WalkArith.wf_i64 (by omega)⟩ (cell_new wr _ _) (by omega) (by omega) (by rw [World.size_alloc]; omega) ?_; intro v9 w9 hown9 _ hbl9 _)
      have hb9 : Below w.heap.size wr w9 := ((Below.refl _ _).alloc hzs _).trans hbl9
      obtain ⟨bx9, c9⟩ := HT.out w9 hb9
      have HB9 := Lib.hid (hb.trans hb9)
      clear hbl9 hb9
      go_wp2_with fail
      go_roundw
      case rel => exact ⟨z, xs ++ [(k : Int)], rfl, HPZ.out, HCS, HB9.out, by rw [List.length_append]; exact hown9⟩
      case measure => have := HD.out; simp [intOf]; omega
end Go.Proofs.YtmemadajjmmlpaaDoor
