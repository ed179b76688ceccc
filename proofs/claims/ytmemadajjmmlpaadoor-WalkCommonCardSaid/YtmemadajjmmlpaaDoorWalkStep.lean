/-
The walks of package walk: kid, beside, over, next, last, step.
-/
import Derived.Test.YtmemadajjmmlpaaDoorTree
namespace Go.Proofs.YtmemadajjmmlpaaDoor
open Go.RowKit Go.Cl
attribute [local go_sem ↓] Go.wp_at_zero Go.wp_at_succ

/-- A walker through a document that is right. -/
structure WkAt (w : World) (g : Nat) (b o n c : Nat) (q : Bool) (l : List Nd) : Prop where
  box : w.heap[g]? = some (.cells #[.slice (some ⟨b, o, none⟩) n c, .bool q] 118 (0, 0))
  doc : DocAt w w.heap.size b o n l
  cap : n ≤ c
  tree : Tree l
theorem DocAt.more {w : World} {B B' b o n : Nat} {l : List Nd} (h : DocAt w B b o n l) (hB : B ≤ B') : DocAt w B' b o n l :=
  ⟨h.hn, fun i x hx => by
    obtain ⟨Aa, na, ca, Ak, nk, ck, hn, r⟩ := h.at_ i x hx
    exact ⟨Aa, na, ca, Ak, nk, ck, ⟨hn.attrs.up hB, hn.kids.up hB, hn.kind, hn.name, hn.text, hn.parent⟩, r⟩, Nat.lt_of_lt_of_le h.lt hB⟩
theorem WkAt.below {w w' : World} {g b o n c : Nat} {q : Bool} {l : List Nd} (h : WkAt w g b o n c q l) (hb : Below w.heap.size w w') : WkAt w' g b o n c q l :=
  ⟨(hb.block g (Array.getElem?_eq_some_iff.1 h.box).1).trans h.box, (h.doc.below hb (Nat.le_refl _)).more hb.size, h.cap, h.tree⟩
/-- One node of it: its parent's cell, its kids' cell. -/
theorem WkAt.node {w : World} {g b o n c : Nat} {q : Bool} {l : List Nd} (h : WkAt w g b o n c q l) {m : Nat} (hm : m < l.length) :
    ∃ Ak nk ck, w.cell? ⟨b, o + m * 6 + 4, none⟩ = some (.int .i64 (parD l m)) ∧ w.cell? ⟨b, o + m * 6 + 5, none⟩ = some (.slice Ak nk ck) ∧ Sl (tInt .i64) w (lt w.heap.size) Ak nk ck (kidsD l m) := by
  obtain ⟨x, hx⟩ := get_some (l := l) hm
  obtain ⟨Aa, na, ca, Ak, nk, ck, hn, _, _, _, _, c4, c5⟩ := h.doc.at_ m x hx
  exact ⟨Ak, nk, ck, by rw [parD_at hx]; exact c4, c5, by rw [kidsD_at hx]; exact hn.kids⟩

theorem index_int (A : Option Addr) (n c : Nat) (l : List Int) (x : Int) (w : World) (D : Nat → Prop) (hl : Sl (tInt .i64) w D A n c l) :
    Calls Tryd.prog 65 #[.slice A n c, .int .i64 x] w fun e w' => e = .returned (.int .i64 (Lib.idxOf l x)) ∧ w' = w := by
  rcases Nat.eq_zero_or_pos n with h0 | h0
  · subst h0
    obtain rfl : l = [] := List.eq_nil_of_length_eq_zero hl.hn.symm
    exact Tryd.slices_Index_int_empty A c x w
  · obtain ⟨b, o, cells, rfl, hb, hr, hc⟩ := hl.at_ h0
    have hn := hl.hn
    refine (Tryd.slices_Index_int b o n c l x w (by omega) (by have := hl.small; omega) (fun j hj => ?_)).mono fun e w' h => ⟨by rw [h.1, hn, List.take_length], h.2⟩
    obtain ⟨b', o', e, _, hcell, _⟩ := hl.int (List.getElem?_eq_getElem hj)
    simp only [Option.some.injEq, Addr.mk.injEq] at e
    obtain ⟨rfl, rfl, _⟩ := e
    rw [hcell, List.getD_eq_getElem?_getD, List.getElem?_eq_getElem hj]; rfl

set_option maxRecDepth 100000 in
theorem kid_any (w : World) (g b o n c : Nat) (q : Bool) (l : List Nd) (m : Nat) (last : Bool) (hW : WkAt w g b o n c q l) (hm : m < l.length) :
    Calls Tryd.prog 89 #[.pointer (some ⟨g, 0, none⟩), .int .i64 (m : Int), .bool last] w fun e w' => e = .returned (.int .i64 (kidR l m last)) ∧ w = w' := by
  have bx : w.cell? ⟨g, 0, none⟩ = some (.slice (some ⟨b, o, none⟩) n c) := cell_blk hW.box rfl
  have hn : n = l.length := hW.doc.hn
  have HN := Lib.hid hn
  obtain ⟨Ak, nk, ck, c4, c5, hks⟩ := hW.node hm
  have i1 : (0 : Int) ≤ (m : Int) := by omega
  have i2 : (m : Int) < (n : Int) := by omega
  have hmn : m < n := by omega
  have hcap := hW.cap
  have hnk := hks.small
  have HK := Lib.hid hks.hn
  have hck := hks.hc
  clear hn c4
  by_cases hk0 : nk = 0
  · have HR := Lib.hid (show kidR l m last = -1 from by
      unfold kidR
      rw [if_pos (List.eq_nil_of_length_eq_zero (by have := HK.out; omega))])
    subst hk0
    go_enter Tryd.func89, Tryd.ntmps89
    go_wp2_with fail
    go_ret
    exact ⟨retI HR.out.symm, rfl⟩
  · have hne : kidsD l m ≠ [] := List.length_pos_iff.1 (by have := HK.out; omega)
    have hk1 : ((nk : Int) == 0) = false := by rw [beq_eq_false_iff_ne]; omega
    have j1 : 0 < nk := by omega
    cases last with
    | true =>
      obtain ⟨x, hx⟩ : ∃ x, (kidsD l m)[nk - 1]? = some x := get_some (by have := HK.out; omega)
      obtain ⟨bk, ok, rfl, _, hcx, _⟩ := hks.int hx
      have HR := Lib.hid (show kidR l m true = x from by
        unfold kidR
        rw [if_neg hne, if_pos rfl, List.getLastD_eq_getLast?, List.getLast?_eq_getElem?, ← HK.out, hx]
        rfl)
      have w1 : IntKind.i64.wrap ((nk : Int) - 1) = (nk : Int) - 1 := IntWalk.i64_in _ (by omega)
      have n1 : ((nk : Int) - 1).toNat = nk - 1 := by omega
      have j2 : (0 : Int) ≤ (nk : Int) - 1 := by omega
      have j2' : (1 : Int) ≤ (nk : Int) := by omega
      have j3 : (nk : Int) - 1 < (nk : Int) := by omega
      clear hx hne hk0
      go_enter Tryd.func89, Tryd.ntmps89
      go_wp2_with fail
      go_ret
      exact ⟨retI HR.out.symm, rfl⟩
    | false =>
      obtain ⟨x, hx⟩ : ∃ x, (kidsD l m)[0]? = some x := get_some (by have := HK.out; omega)
      obtain ⟨bk, ok, rfl, _, hcx, _⟩ := hks.int hx
      have hcx' : w.cell? ⟨bk, ok, none⟩ = some (.int .i64 x) := by simpa using hcx
      have HR := Lib.hid (show kidR l m false = x from by
        unfold kidR
        rw [if_neg hne, if_neg (by decide), List.headD_eq_head?_getD, List.head?_eq_getElem?, hx]
        rfl)
      clear hx hne hk0
      go_enter Tryd.func89, Tryd.ntmps89
      go_wp2_with fail
      go_ret
      exact ⟨retI HR.out.symm, rfl⟩

set_option maxRecDepth 100000 in
theorem beside_any (w : World) (g b o n c : Nat) (q : Bool) (l : List Nd) (m : Nat) (by_ : Int) (hW : WkAt w g b o n c q l) (hm : m < l.length) (hb1 : -1 ≤ by_) (hb2 : by_ ≤ 1) :
    Calls Tryd.prog 90 #[.pointer (some ⟨g, 0, none⟩), .int .i64 (m : Int), .int .i64 by_] w fun e w' => e = .returned (.int .i64 (besideR l m by_)) ∧ w = w' := by
  have bx : w.cell? ⟨g, 0, none⟩ = some (.slice (some ⟨b, o, none⟩) n c) := cell_blk hW.box rfl
  have hn : n = l.length := hW.doc.hn
  have HN := Lib.hid hn
  obtain ⟨_, _, _, c4, _, _⟩ := hW.node hm
  have i1 : (0 : Int) ≤ (m : Int) := by omega
  have i2 : (m : Int) < (n : Int) := by omega
  have hmn : m < n := by omega
  have hcap := hW.cap
  clear hn
  rcases hW.tree.par hm with e | ⟨p, e, hp, hmem⟩
  · rw [e] at c4
    have HR := Lib.hid (show besideR l m by_ = -1 from by unfold besideR; rw [e, if_pos (by decide)])
    clear e
    go_enter Tryd.func90, Tryd.ntmps90
    go_wp2_with fail
    go_ret
    exact ⟨retI HR.out.symm, rfl⟩
  · rw [e] at c4
    obtain ⟨i, hi, hx, _⟩ := idx_of_mem hmem
    obtain ⟨Ak, nk, ck, _, c5, hks⟩ := hW.node hp
    have HI := Lib.hid (fun W (h : Sl (tInt .i64) W (lt w.heap.size) Ak nk ck (kidsD l p)) => index_int Ak nk ck (kidsD l p) m W _ h)
    rw [hi] at HI
    have HKS := Lib.hid hks
    have HR := Lib.hid (hW.tree.beside_at hp e hx by_)
    have hil : i < nk := by have := (List.getElem?_eq_some_iff.1 hx).1; have := hks.hn; omega
    have hnk := hks.small
    have HK := Lib.hid hks.hn
    have p1 : (0 : Int) ≤ (p : Int) := by omega
    have p2 : (p : Int) < (n : Int) := by have := HN.out; omega
    have p3 : ¬ (p : Int) < 0 := by omega
    have hpn : p < n := by omega
    have hck := hks.hc
    have w1 : IntKind.i64.wrap ((i : Int) + by_) = (i : Int) + by_ := IntWalk.i64_in _ (by omega)
    clear hi hx e hmem hks
    by_cases hr : (i : Int) + by_ < 0 ∨ (nk : Int) ≤ (i : Int) + by_
    · have HR2 := Lib.hid (HR.out.trans (if_pos (by rw [← HK.out]; exact hr)))
      rcases hr with hr | hr
      · go_enter Tryd.func90, Tryd.ntmps90
        go_wp2_with (go_at_call 65; refine (HI.out _ HKS.out).mono ?_; rintro e w2 ⟨rfl, rfl⟩)
        go_ret
        exact ⟨retI HR2.out.symm, rfl⟩
      · have hr2 : ¬ (i : Int) + by_ < 0 := by omega
        go_enter Tryd.func90, Tryd.ntmps90
        go_wp2_with (go_at_call 65; refine (HI.out _ HKS.out).mono ?_; rintro e w2 ⟨rfl, rfl⟩)
        go_ret
        exact ⟨retI HR2.out.symm, rfl⟩
    · obtain ⟨j, hj⟩ : ∃ j : Nat, (i : Int) + by_ = (j : Int) := ⟨((i : Int) + by_).toNat, by omega⟩
      obtain ⟨x, hx⟩ : ∃ x, (kidsD l p)[j]? = some x := get_some (by have := HK.out; omega)
      obtain ⟨bk, ok, rfl, _, hcx, _⟩ := HKS.out.int hx
      have HR2 := Lib.hid (show besideR l m by_ = x from by
        rw [HR.out, if_neg (by rw [← HK.out]; exact hr), hj, Int.toNat_natCast, hx]
        rfl)
      have n1 : ((i : Int) + by_).toNat = j := by omega
      have j1 : (0 : Int) ≤ (i : Int) + by_ := by omega
      have j2 : (i : Int) + by_ < (nk : Int) := by omega
      have j3 : ¬ (nk : Int) ≤ (i : Int) + by_ := by omega
      have j4 : ¬ (i : Int) + by_ < 0 := by omega
      clear hr hx hj
      go_enter Tryd.func90, Tryd.ntmps90
      go_wp2_with (go_at_call 65; refine (HI.out _ HKS.out).mono ?_; rintro e w2 ⟨rfl, rfl⟩)
      go_ret
      exact ⟨retI HR2.out.symm, rfl⟩

set_option maxRecDepth 100000 in
theorem over_any (w : World) (g b o n c : Nat) (q : Bool) (l : List Nd) (m : Nat) (hW : WkAt w g b o n c q l) (hm : m < l.length) :
    Calls Tryd.prog 88 #[.pointer (some ⟨g, 0, none⟩), .int .i64 (m : Int)] w fun e w' => e = .returned (.int .i64 (overR l m)) ∧ w = w' := by
  have bx : w.cell? ⟨g, 0, none⟩ = some (.slice (some ⟨b, o, none⟩) n c) := cell_blk hW.box rfl
  have HN := Lib.hid hW.doc.hn
  have hcap := hW.cap
  have HW := Lib.hid hW
  clear hW
  go_enter Tryd.func88, Tryd.ntmps88
  go_wp2_with fail
  go_loop [1] (fun s => ∃ z : Int, s = .int .i64 z ∧ (z = -1 ∨ ∃ k : Nat, z = (k : Int) ∧ k < l.length) ∧ Hid (overR l m = overR l z)) (fun s => depZ l (intOf s))
  case atStart => exact ⟨_, rfl, Or.inr ⟨m, rfl, hm⟩, Lib.hid rfl⟩
  case round =>
    obtain ⟨z, rfl, hz, HO⟩ := hrel
    rcases hz with rfl | ⟨k, rfl, hk⟩
    · have HR := Lib.hid (HO.out.trans (over_end l))
      go_wp2_with fail
      go_ret
      exact ⟨retI HR.out.symm, rfl⟩
    · have HB := Lib.hid (beside_any w g b o n c q l k 1 HW.out hk (by decide) (by decide))
      obtain ⟨_, _, _, c4, _, _⟩ := HW.out.node hk
      have hs := HW.out.tree.over_step hk
      have HD := Lib.hid (HW.out.tree.dep_par hk)
      have HPZ : Hid (parD l k = -1 ∨ ∃ p : Nat, parD l k = (p : Int) ∧ p < l.length) := by
        rcases HW.out.tree.par hk with e | ⟨p, e, hp, _⟩
        · exact Or.inl e
        · exact Or.inr ⟨p, e, hp⟩
      have i1 : (0 : Int) ≤ (k : Int) := by omega
      have i2 : (k : Int) < (n : Int) := by have := HN.out; omega
      by_cases h : 0 ≤ besideR l k 1
      · have HR := Lib.hid (HO.out.trans (hs.trans (if_pos h)))
        generalize besideR l k 1 = x at *
        clear hs
        go_wp2_with (go_at_call 90; refine HB.out.mono ?_; rintro e w2 ⟨rfl, rfl⟩)
        go_ret
        exact ⟨retI HR.out.symm, rfl⟩
      · have HR := Lib.hid (HO.out.trans (hs.trans (if_neg h)))
        generalize besideR l k 1 = x at *
        generalize parD l k = z at *
        clear hs
        go_wp2_with (go_at_call 90; refine HB.out.mono ?_; rintro e w2 ⟨rfl, rfl⟩)
        go_round
        case rel => exact ⟨z, rfl, HPZ.out, HR⟩
        case measure => have := HD.out; simp [intOf]; omega

theorem next_any (w : World) (g b o n c : Nat) (q : Bool) (l : List Nd) (m : Nat) (hW : WkAt w g b o n c q l) (hm : m < l.length) :
    Calls Tryd.prog 86 #[.pointer (some ⟨g, 0, none⟩), .int .i64 (m : Int)] w fun e w' => e = .returned (.int .i64 (nextR l m)) ∧ w = w' := by
  have HK := Lib.hid (kid_any w g b o n c q l m false hW hm)
  have HO := Lib.hid (over_any w g b o n c q l m hW hm)
  by_cases h : 0 ≤ kidR l m false
  · have HR := Lib.hid (show nextR l m = kidR l m false from by unfold nextR; rw [if_pos h])
    generalize kidR l m false = x at *
    go_enter Tryd.func86, Tryd.ntmps86
    go_wp2_with (go_at_call 89; refine HK.out.mono ?_; rintro e w2 ⟨rfl, rfl⟩)
    go_ret
    exact ⟨retI HR.out.symm, rfl⟩
  · have HR := Lib.hid (show nextR l m = overR l m from by unfold nextR; rw [if_neg h])
    generalize kidR l m false = x at *
    go_enter Tryd.func86, Tryd.ntmps86
    go_wp2_with (first | (go_at_call 89; refine HK.out.mono ?_; rintro e w2 ⟨rfl, rfl⟩) | (go_at_call 88; refine HO.out.mono ?_; rintro e w2 ⟨rfl, rfl⟩))
    go_ret
    exact ⟨retI HR.out.symm, rfl⟩

set_option maxRecDepth 100000 in
theorem last_any (w : World) (g b o n c : Nat) (q : Bool) (l : List Nd) (m : Nat) (hW : WkAt w g b o n c q l) (hm : m < l.length) :
    Calls Tryd.prog 87 #[.pointer (some ⟨g, 0, none⟩), .int .i64 (m : Int)] w fun e w' => e = .returned (.int .i64 (lastR l m)) ∧ w = w' := by
  have HB := Lib.hid (beside_any w g b o n c q l m (-1) hW hm (by decide) (by decide))
  have bx : w.cell? ⟨g, 0, none⟩ = some (.slice (some ⟨b, o, none⟩) n c) := cell_blk hW.box rfl
  have HN := Lib.hid hW.doc.hn
  have hcap := hW.cap
  obtain ⟨_, _, _, c4, _, _⟩ := hW.node hm
  have i1 : (0 : Int) ≤ (m : Int) := by omega
  have i2 : (m : Int) < (n : Int) := by have := HN.out; omega
  have HW := Lib.hid hW
  clear hW
  by_cases h : besideR l m (-1) < 0
  · have HR := Lib.hid (show lastR l m = parD l m from by unfold lastR; rw [if_pos h])
    generalize besideR l m (-1) = x at *
    generalize parD l m = z at *
    go_enter Tryd.func87, Tryd.ntmps87
    go_wp2_with (go_at_call 90; refine HB.out.mono ?_; rintro e w2 ⟨rfl, rfl⟩)
    go_ret
    exact ⟨retI HR.out.symm, rfl⟩
  · have HR := Lib.hid (show lastR l m = descR l (besideR l m (-1)) from by unfold lastR; rw [if_neg h])
    obtain ⟨_, _, _, k0, _, _, _, _, hk0, _, hk0l, _⟩ := HW.out.tree.beside_some hm rfl (by omega : 0 ≤ besideR l m (-1))
    rw [hk0] at HR HB h
    have k1 : ¬ (k0 : Int) < 0 := by omega
    clear hk0 h
    go_enter Tryd.func87, Tryd.ntmps87
    go_wp2_with (go_at_call 90; refine HB.out.mono ?_; rintro e w2 ⟨rfl, rfl⟩)
    go_loop [5] (fun s => ∃ k : Nat, s = .int .i64 (k : Int) ∧ k < l.length ∧ Hid (lastR l m = descR l k)) (fun s => 41 - upN l (intOf s))
    case atStart => exact ⟨k0, rfl, hk0l, HR⟩
    case round =>
      obtain ⟨k, rfl, hk, HD⟩ := hrel
      have HK := Lib.hid (kid_any w g b o n c q l k true HW.out hk)
      have hs := HW.out.tree.desc_step hk
      by_cases h : 0 ≤ kidR l k true
      · obtain ⟨k2, e2, hk2, hpar, _⟩ := HW.out.tree.kid_last hk h
        have HD2 := Lib.hid (HD.out.trans (hs.trans (if_pos h)))
        have hu := (HW.out.tree.up_par hk2 hpar).2
        have hd := (HW.out.tree.deep k2 hk2).1
        have HM : Hid (41 - upN l k2 < 41 - upN l k) := by show _ < _; omega
        rw [e2] at HK HD2
        have k3 : (0 : Int) ≤ (k2 : Int) := by omega
        clear hs h e2 hpar hu hd
        go_wp2_with (go_at_call 89; refine HK.out.mono ?_; rintro e w2 ⟨rfl, rfl⟩)
        go_round
        case rel => exact ⟨k2, rfl, hk2, HD2⟩
        case measure => exact HM.out
      · have HR2 := Lib.hid (HD.out.trans (hs.trans (if_neg h)))
        generalize kidR l k true = x at *
        clear hs
        go_wp2_with (go_at_call 89; refine HK.out.mono ?_; rintro e w2 ⟨rfl, rfl⟩)
        go_ret
        exact ⟨retI HR2.out.symm, rfl⟩

set_option maxRecDepth 100000 in
theorem step_any (w : World) (g b o n c : Nat) (q : Bool) (l : List Nd) (m : Nat) (how : Int) (hW : WkAt w g b o n c q l) (hm : m < l.length) (h1 : 1 ≤ how) (h8 : how ≤ 8) :
    Calls Tryd.prog 64 #[.pointer (some ⟨g, 0, none⟩), .int .i64 (m : Int), .int .i64 how] w fun e w' => e = .returned (.int .i64 (stepR l m how)) ∧ w = w' := by
  have bx : w.cell? ⟨g, 0, none⟩ = some (.slice (some ⟨b, o, none⟩) n c) := cell_blk hW.box rfl
  have HN := Lib.hid hW.doc.hn
  have hcap := hW.cap
  obtain ⟨_, _, _, c4, _, _⟩ := hW.node hm
  have i1 : (0 : Int) ≤ (m : Int) := by omega
  have i2 : (m : Int) < (n : Int) := by have := HN.out; omega
  have HNX := Lib.hid (next_any w g b o n c q l m hW hm)
  have HLA := Lib.hid (last_any w g b o n c q l m hW hm)
  have HOV := Lib.hid (over_any w g b o n c q l m hW hm)
  have HKF := Lib.hid (kid_any w g b o n c q l m false hW hm)
  have HKT := Lib.hid (kid_any w g b o n c q l m true hW hm)
  have HB1 := Lib.hid (beside_any w g b o n c q l m 1 hW hm (by decide) (by decide))
  have HB2 := Lib.hid (beside_any w g b o n c q l m (-1) hW hm (by decide) (by decide))
  clear hW
  have hc : how = 1 ∨ how = 2 ∨ how = 3 ∨ how = 4 ∨ how = 5 ∨ how = 6 ∨ how = 7 ∨ how = 8 := by omega
  rcases hc with rfl | rfl | rfl | rfl | rfl | rfl | rfl | rfl
  all_goals
    go_enter Tryd.func64, Tryd.ntmps64
    go_wp2_with (first
      | (go_at_call 86; refine HNX.out.mono ?_; rintro e w2 ⟨rfl, rfl⟩)
      | (go_at_call 87; refine HLA.out.mono ?_; rintro e w2 ⟨rfl, rfl⟩)
      | (go_at_call 88; refine HOV.out.mono ?_; rintro e w2 ⟨rfl, rfl⟩)
      | (go_at_call 89; (first | (with_reducible refine HKF.out.mono ?_) | (with_reducible refine HKT.out.mono ?_)); rintro e w2 ⟨rfl, rfl⟩)
      | (go_at_call 90; (first | (with_reducible refine HB1.out.mono ?_) | (with_reducible refine HB2.out.mono ?_)); rintro e w2 ⟨rfl, rfl⟩))
    go_ret
    exact ⟨rfl, rfl⟩
end Go.Proofs.YtmemadajjmmlpaaDoor
