/-
The tree's own functions: behind all kids of a node; the place where a node goes as a rule.
-/
import Derived.Test.YtegcedboeemedaaGreatDoorK2
import Derived.Handy
import Derived.BigQuiet
import Derived.Shelf.Strings.SlTrimAscii
import Derived.Deep.LoopGhost
import Derived.Laws.IdiomStrings
namespace Go.Proofs.YtegcedboeemedaaGreatDoor
open Go.RowKit Go.Cl
attribute [local go_sem ↓] Go.wp_at_zero Go.wp_at_succ
/-- A spot's value. -/
abbrev spV (s : Int × Nat) : Value := .agg #[.int .i64 s.1, .int .i64 (s.2 : Int)]
theorem idxOf_le : ∀ (l : List Int) (k : Nat) (x : Int), l[k]? = some x → l.idxOf x ≤ k := by
  intro l
  induction l with
  | nil => intro k x h; cases h
  | cons y r ih =>
    intro k x h
    rw [List.idxOf_cons]
    cases k with
    | zero =>
      obtain rfl : y = x := Option.some.inj h
      simp
    | succ k =>
      have := ih k x h
      cases hb : y == x <;> simp <;> omega
theorem idxOf_is {l : List Int} {x : Int} (h : x ∈ l) : Lib.idxOf l x = (l.idxOf x : Int) := by
  obtain ⟨k, e, hk, hf⟩ := idx_of_mem h
  rw [e]
  have h1 : l.idxOf x < l.length := List.idxOf_lt_length_iff.2 h
  have h2 : l[l.idxOf x]? = some x := by rw [List.getElem?_eq_getElem h1, List.getElem_idxOf h1]
  rcases Nat.lt_trichotomy k (l.idxOf x) with h3 | h3 | h3
  · exact absurd (idxOf_le l k x hk) (by omega)
  · rw [h3]
  · exact absurd h2 (hf _ h3)
section
variable {m : Int} {wt w w' w2 : World} {X base Bp : Nat} {P Q : PS}
set_option maxRecDepth 100000 in
theorem behind_at (h : BdAt m wt w X base Bp P) {n : Int} (hn : P.has n) :
    Calls Tryz.prog 226 #[.pointer (some ⟨X, 0, none⟩), .int .i64 n] w fun e w' => e = .returned (spV (P.behind n)) ∧ Below w.heap.size w w' := by
  obtain ⟨nV, oV, iV, ps, hp⟩ := h.mem
  obtain ⟨k, rfl, hx, hkl⟩ := PS.has_at hn
  obtain ⟨g, cN, q, rfl, hq, hP, hgl, hXg, hcell⟩ := hp.node hx
  obtain ⟨q1, qv⟩ := q
  obtain ⟨Ak, ck, ev⟩ := Own.form hP.kids
  obtain rfl : qv = .slice Ak (P.nd (k : Int)).kids.length ck := ev
  have hb1 : ∀ o, Below w.heap.size w (w.alloc o) := fun o => (Below.refl _ w).alloc (Nat.le_refl _) _
  have c0 := fun o => (hp.next (hb1 o)).cell 0 (v := .slice (some ⟨g, 0, none⟩) P.nodes.length cN) rfl
  have c5 := fun o => cell_al (hcell 5 _ rfl).1 o
  have i1 : (0 : Int) ≤ (k : Int) := by omega
  have i2 : (k : Int) < (P.nodes.length : Int) := by omega
  have HB : Hid (P.behind (k : Int) = ((k : Int), (P.nd (k : Int)).kids.length)) := rfl
  clear h hn hx hP hq hp hcell hgl hXg hkl
  generalize P.behind (k : Int) = bh at *
  generalize (P.nd (k : Int)).kids.length = nk at *
  generalize P.nodes.length = N at *
  have C0 := c0 (.cells #[.int .i64 0, .int .i64 0] 144)
  have C5 := c5 (.cells #[.int .i64 0, .int .i64 0] 144)
  clear c0 c5
  go_enter Tryz.func226, Tryz.ntmps226
  go_wp2_with fail
  go_returns
  exact ⟨by rw [HB.out], (Below.refl _ w).alloc (Nat.le_refl _) _⟩
theorem tbl_list : ((⟨#[116, 97, 98, 108, 101]⟩ : ByteArray)).toList = ([116, 97, 98, 108, 101] : List UInt8) := by rw [ByteArray.toList_eq]
/-- From a list's end: one step. -/
theorem foster_cons {n : Int} {r : List Int} : P.fosterRev (n :: r) = if (P.name n).toList == ([116, 97, 98, 108, 101] : List UInt8) then (if 0 ≤ (P.nd n).parent then some ((P.nd n).parent, ((P.nd (P.nd n).parent).kids.idxOf n)) else match r with
      | [] => none
      | below :: _ => some (P.behind below)) else P.fosterRev r := by
  rw [← tbl_list]
  conv => lhs; rw [PS.fosterRev.eq_def]
  rfl
theorem sp_set {w : World} {B : Nat} {a b u v : Value} {t : TypeId} (h : w.heap[B]? = some (.cells #[a, b] t (0, 0))) : ((w.setCell ⟨B, 0, none⟩ u).setCell ⟨B, 1, none⟩ v).heap[B]? = some (.cells #[u, v] t (0, 0)) := by
  rw [set_blk (set_blk h u)]
  rfl
set_option maxRecDepth 100000 in
set_option maxHeartbeats 2000000 in
theorem place_at (h : BdAt m wt w X base Bp P) (hw : P.Wf) (hl : P.opens.length ≤ 10000000) {c : Int} (hc : P.has c) :
    Calls Tryz.prog 272 #[.pointer (some ⟨X, 0, none⟩), .int .i64 c] w fun e w' => e = .returned (spV (P.place c)) ∧ Below w.heap.size w w' := by
  obtain ⟨nV, oV, iV, ps, hp⟩ := h.mem
  obtain ⟨k, rfl, hx, hkl⟩ := PS.has_at hc
  obtain ⟨g, cN, q, rfl, hq, hP, hgl, hXg, hcell⟩ := hp.node hx
  obtain ⟨AO, cO, rfl, hso⟩ := hp.opens_sl (by omega)
  have HSM := Lib.hid (h.name_small hc)
  -- what lies in the memory of whatever world is above this one
  have HB := Lib.hid (fun (v : World) (hv : Below w.heap.size w v) (n : Int) (hn : P.has n) => behind_at (h.next hv) hn)
  have HO := Lib.hid (fun (v : World) (hv : Below w.heap.size w v) (nm : ByteArray) (hnm : nm.size ≤ 1152921504606846976) => one_any nm (⟨#[32, 116, 97, 98, 108, 101, 32, 116, 98, 111, 100, 121, 32, 116, 102, 111, 111, 116, 32, 116, 104, 101, 97, 100, 32, 116, 114, 32]⟩ : ByteArray) m v hnm (by decide) (h.next hv).len)
  have HND := Lib.hid (fun (v : World) (hv : Below w.heap.size w v) (j : Nat) (hj : j < P.nodes.length) => (show ∃ A n c, v.cell? ⟨g, j * 6 + 1, none⟩ = some (.string (P.nd (j : Int)).name) ∧ v.cell? ⟨g, j * 6 + 4, none⟩ = some (.int .i64 (P.nd (j : Int)).parent) ∧ v.cell? ⟨g, j * 6 + 5, none⟩ = some (.slice A n c) ∧ Sl (tInt .i64) v (lt v.heap.size) A n c (P.nd (j : Int)).kids by
    obtain ⟨g2, c2, q2, e2, _, hP2, _, _, hcell2⟩ := (hp.next hv).node (PS.nd_at hj)
    obtain rfl : g = g2 := by
      injection e2 with e2
      injection e2 with e2
      injection e2
    obtain ⟨A, c, ev, hs⟩ := OwnF.sl hP2.kids (by decide) (by have := hP2.ok.kids; show _ * 8 ≤ _; omega)
    exact ⟨A, _, c, (hcell2 1 _ rfl).1, (hcell2 4 _ rfl).1, by rw [← ev]; exact (hcell2 5 _ rfl).1, hs⟩))
  have HC0 := Lib.hid (fun (v : World) (hv : Below w.heap.size w v) => (hp.next hv).cell 0 (v := .slice (some ⟨g, 0, none⟩) P.nodes.length cN) rfl)
  have HC1 := Lib.hid (fun (v : World) (hv : Below w.heap.size w v) => (hp.next hv).cell 1 (v := .slice AO P.opens.length cO) rfl)
  have HC3 := Lib.hid (fun (v : World) (hv : Below w.heap.size w v) => (hp.next hv).cell 3 (v := .bool P.foster) rfl)
  have HOS := Lib.hid (fun (v : World) (hv : Below w.heap.size w v) => hso.below hv (Nat.le_refl _))
  have HW := Lib.hid hw
  have HPL : Hid (P.place (k : Int) = if P.foster = false ∨ PS.tabled (P.name (k : Int)) = false then P.behind (k : Int) else (P.fosterRev P.opens.reverse).getD (P.behind (P.opens.headD 0))) := rfl
  have HHK := Lib.hid hc
  have hb1 : Below w.heap.size w (w.alloc (.cells #[.int .i64 0, .int .i64 0] 144)) := (Below.refl _ w).alloc (Nat.le_refl _) _
  have i1 : (0 : Int) ≤ (k : Int) := by omega
  have i2 : (k : Int) < (P.nodes.length : Int) := by omega
  have HKL := Lib.hid hkl
  clear h hw hc hx hP hq hcell hgl hXg hkl hso hp
  obtain ⟨w1, hw1⟩ : ∃ w1, w1 = w.alloc (.cells #[.int .i64 0, .int .i64 0] 144) := ⟨_, rfl⟩
  rw [← hw1] at hb1
  have hbk : w1.heap[w.heap.size]? = some (.cells #[.int .i64 0, .int .i64 0] 144 (0, 0)) := by rw [hw1]; exact heap_alloc_new w _
  have HB1 := Lib.hid hb1
  have c0 := HC0.out w1 hb1
  have c3 := HC3.out w1 hb1
  obtain ⟨_, _, _, d1, _, _, _⟩ := HND.out w1 hb1 k HKL.out
  have s0 := cell_blk (i := 0) (v := .int .i64 0) hbk rfl
  have s1 := cell_blk (i := 1) (v := .int .i64 0) hbk rfl
  have HBK := Lib.hid hbk
  clear hb1 hbk
  go_enter Tryz.func272, Tryz.ntmps272
  go_upto_region 1 with fail
  rw [← hw1]
  clear hw1
  cases hf : P.foster with
  | false =>
    have HPE : Hid (P.place (k : Int) = P.behind (k : Int)) := HPL.out.trans (if_pos (.inl hf))
    rw [hf] at c3
    clear hf
    go_wp2_with (first
      | (go_at_call 226; refine (HB.out _ HB1.out _ HHK.out).mono ?_; rintro e w2 ⟨rfl, hb2⟩; have HB2 := Lib.hid hb2; have k0 := cell_be s0 hb2; have k1 := cell_be s1 hb2; have HK2 := Lib.hid ((hb2.block _ (Array.getElem?_eq_some_iff.1 HBK.out).1).trans HBK.out); have f0 : w2.frozen? ⟨w.heap.size, 0, none⟩ = false := free_blk HK2.out; have f1 : w2.frozen? ⟨w.heap.size, 1, none⟩ = false := free_blk HK2.out; clear hb2)
      | fail)
    obtain ⟨w3, hw3⟩ : ∃ w3, w3 = (w2.setCell ⟨w.heap.size, 0, none⟩ (.int .i64 (P.behind (k : Int)).1)).setCell ⟨w.heap.size, 1, none⟩ (.int .i64 ((P.behind (k : Int)).2 : Int)) := ⟨_, rfl⟩
    rw [← hw3]
    have hk3 := sp_set (u := .int .i64 (P.behind (k : Int)).1) (v := .int .i64 ((P.behind (k : Int)).2 : Int)) HK2.out
    rw [← hw3] at hk3
    have r0 := cell_blk (i := 0) (v := .int .i64 (P.behind (k : Int)).1) hk3 rfl
    have r1 := cell_blk (i := 1) (v := .int .i64 ((P.behind (k : Int)).2 : Int)) hk3 rfl
    have HW3 := Lib.hid hw3
    clear hw3 hk3 k0 k1 s0 s1 f0 f1
    refine bodyPost_ret (by simp [results, Tryz.results272, go_sem, r0, r1]; try rfl) rfl ?_
    exact ⟨by rw [HPE.out], by
      have hb := HB1.out.trans (HB2.out.mono HB1.out.size)
      rw [HW3.out]
      exact (hb.setCell (p := ⟨w.heap.size, 0, none⟩) (Nat.le_refl _) _).setCell (p := ⟨w.heap.size, 1, none⟩) (Nat.le_refl _) _⟩
  | true =>
    rw [hf] at c3
    have HO1 := Lib.hid (HO.out w1 HB1.out _ HSM.out)
    cases htb : PS.tabled (P.name (k : Int)) with
    | false =>
      have HPE : Hid (P.place (k : Int) = P.behind (k : Int)) := HPL.out.trans (if_pos (.inr htb))
      have HT : Hid (oneB (P.name (k : Int)) (⟨#[32, 116, 97, 98, 108, 101, 32, 116, 98, 111, 100, 121, 32, 116, 102, 111, 111, 116, 32, 116, 104, 101, 97, 100, 32, 116, 114, 32]⟩ : ByteArray) = false) := htb
      rw [HT.out] at HO1
      clear hf htb
      go_wp2_with (first
      | (go_at_call 226; refine (HB.out _ HB1.out _ HHK.out).mono ?_; rintro e w2 ⟨rfl, hb2⟩; have HB2 := Lib.hid hb2; have k0 := cell_be s0 hb2; have k1 := cell_be s1 hb2; have HK2 := Lib.hid ((hb2.block _ (Array.getElem?_eq_some_iff.1 HBK.out).1).trans HBK.out); have f0 : w2.frozen? ⟨w.heap.size, 0, none⟩ = false := free_blk HK2.out; have f1 : w2.frozen? ⟨w.heap.size, 1, none⟩ = false := free_blk HK2.out; clear hb2)
      | (go_at_call 160; refine HO1.out.mono ?_; rintro e w9 ⟨rfl, rfl⟩)
      | fail)
      obtain ⟨w3, hw3⟩ : ∃ w3, w3 = (w2.setCell ⟨w.heap.size, 0, none⟩ (.int .i64 (P.behind (k : Int)).1)).setCell ⟨w.heap.size, 1, none⟩ (.int .i64 ((P.behind (k : Int)).2 : Int)) := ⟨_, rfl⟩
      rw [← hw3]
      have hk3 := sp_set (u := .int .i64 (P.behind (k : Int)).1) (v := .int .i64 ((P.behind (k : Int)).2 : Int)) HK2.out
      rw [← hw3] at hk3
      have r0 := cell_blk (i := 0) (v := .int .i64 (P.behind (k : Int)).1) hk3 rfl
      have r1 := cell_blk (i := 1) (v := .int .i64 ((P.behind (k : Int)).2 : Int)) hk3 rfl
      have HW3 := Lib.hid hw3
      clear hw3 hk3 k0 k1 s0 s1 f0 f1
      refine bodyPost_ret (by simp [results, Tryz.results272, go_sem, r0, r1]; try rfl) rfl ?_
      exact ⟨by rw [HPE.out], by
        have hb := HB1.out.trans (HB2.out.mono HB1.out.size)
        rw [HW3.out]
        exact (hb.setCell (p := ⟨w.heap.size, 0, none⟩) (Nat.le_refl _) _).setCell (p := ⟨w.heap.size, 1, none⟩) (Nat.le_refl _) _⟩
    | true =>
      have HPE : Hid (P.place (k : Int) = (P.fosterRev P.opens.reverse).getD (P.behind (P.opens.headD 0))) := HPL.out.trans (if_neg (by rw [hf, htb]; simp))
      have HT : Hid (oneB (P.name (k : Int)) (⟨#[32, 116, 97, 98, 108, 101, 32, 116, 98, 111, 100, 121, 32, 116, 102, 111, 111, 116, 32, 116, 104, 101, 97, 100, 32, 116, 114, 32]⟩ : ByteArray) = true) := htb
      rw [HT.out] at HO1
      clear hf htb
      have c1 := HC1.out w1 HB1.out
      have HLN : Hid (P.opens.length = P.opens.length) := rfl
      go_upto_region 3 with (go_at_call 160; refine HO1.out.mono ?_; rintro e w9 ⟨rfl, rfl⟩)
      clear c3 d1
      have hl0 := hl
      generalize hnn : P.opens.length = n at *
      have HN := Lib.hid hnn
      clear hnn HLN
      have wz : IntKind.i64.wrap ((n : Int) - 1) = (n : Int) - 1 := IntWalk.i64_in _ (by omega)
      go_wp2_with fail
      clear wz
      go_loop [5] (fun i => ∃ j : Nat, j ≤ n ∧ i = .int .i64 ((j : Int) - 1) ∧ Hid (P.fosterRev P.opens.reverse = P.fosterRev (P.opens.take j).reverse)) (fun i => (intOf i + 1).toNat)
      case atStart => exact ⟨n, Nat.le_refl _, rfl, Lib.hid (by rw [← HN.out, List.take_length])⟩
      case round =>
        obtain ⟨j, hj, rfl, HR⟩ := hrel
        by_cases h0 : 0 < j
        · obtain ⟨i, rfl⟩ : ∃ i, j = i + 1 := ⟨j - 1, by omega⟩
          obtain ⟨x, hx⟩ : ∃ x, P.opens[i]? = some x := get_some (by have := HN.out; omega)
          have hxh := HW.out.opin x (List.mem_of_getElem? hx)
          obtain ⟨a, rfl, hxa, hal⟩ := PS.has_at hxh
          obtain ⟨bo, oo, rfl, ho0⟩ := open_at (HOS.out w1 HB1.out) hx
          obtain ⟨Az, nz, cz, z1, z4, z5, zs⟩ := HND.out w1 HB1.out a hal
          have HE := Lib.hid (take_rev (l := P.opens) (k := i + 1) (x := (a : Int)) (by omega) (by simpa using hx))
          have HXH := Lib.hid hxh
          have HX := Lib.hid hx
          have j1 : (0 : Int) ≤ (i : Int) := by omega
          have j2 : (i : Int) < (n : Int) := by omega
          have j3 : (0 : Int) ≤ (a : Int) := by omega
          have j4 : (a : Int) < (P.nodes.length : Int) := by omega
          have ei : (((i + 1 : Nat) : Int) - 1) = (i : Int) := by omega
          have wz : IntKind.i64.wrap ((i : Int) - 1) = (i : Int) - 1 := IntWalk.i64_in _ (by omega)
          have HZS := Lib.hid zs
          rw [ei]
          clear hx hxh hxa zs ei h0
          cases ht : ((P.nd (a : Int)).name.toList == ([116, 97, 98, 108, 101] : List UInt8)) with
          | false =>
            have ht2 : ((P.nd (a : Int)).name.toList != ([116, 97, 98, 108, 101] : List UInt8)) = true := by rw [bne, ht]; rfl
            have HNT := Lib.hid ht
            go_wp2_with fail
            go_round
            case rel =>
              refine ⟨i, by omega, by go_num, Lib.hid (HR.out.trans ?_)⟩
              rw [HE.out, foster_cons, if_neg (by show ¬ ((P.nd (a : Int)).name.toList == _) = true; rw [HNT.out]; simp)]
              rfl
            case measure => simp [intOf] <;> omega
          | true =>
            have ht2 : ((P.nd (a : Int)).name.toList != ([116, 97, 98, 108, 101] : List UInt8)) = false := by rw [bne, ht]; rfl
            have HNT := Lib.hid ht
            have HFC := Lib.hid (HR.out.trans (by rw [HE.out, foster_cons, if_pos (by show ((P.nd (a : Int)).name.toList == _) = true; exact ht)]))
            by_cases hp0 : 0 ≤ (P.nd (a : Int)).parent
            · obtain ⟨u1, u2⟩ := HW.out.tr.up _ HXH.out hp0
              obtain ⟨b, eb, _, hbl⟩ := PS.has_at u1
              have HEND := Lib.hid (HPE.out.trans (by rw [HFC.out, if_pos hp0]; try rfl))
              rw [eb] at z4 u2 HEND
              obtain ⟨Ay, ny, cy, _, _, y5, ys⟩ := HND.out w1 HB1.out b hbl
              have HIX := Lib.hid (index_int Ay ny cy _ (a : Int) w1 _ ys)
              rw [idxOf_is u2] at HIX
              have q1 : (0 : Int) ≤ (b : Int) := by omega
              have q2 : (b : Int) < (P.nodes.length : Int) := by omega
              have f0 : w1.frozen? ⟨w.heap.size, 0, none⟩ = false := free_blk HBK.out
              have f1 : w1.frozen? ⟨w.heap.size, 1, none⟩ = false := free_blk HBK.out
              clear hp0 u1 u2 eb hbl ys
              generalize (P.nd (b : Int)).kids.idxOf (a : Int) = ix at *
              go_wp2_with (go_at_call 275; refine HIX.out.mono ?_; rintro e w9 ⟨rfl, hw9⟩; have hw9 := hw9.symm; subst hw9)
              obtain ⟨w2, hw2⟩ : ∃ w2, w2 = w1 := ⟨_, rfl⟩
              have HB2 : Hid (Below w1.heap.size w1 w2) := by rw [hw2]; exact Below.refl _ _
              have HK2 := Lib.hid HBK.out
              rw [← hw2]
              rw [← hw2] at HK2 s0 s1 f0 f1
              clear hw2
              have k0 := s0
              have k1 := s1
              obtain ⟨w3, hw3⟩ : ∃ w3, w3 = (w2.setCell ⟨w.heap.size, 0, none⟩ (.int .i64 (((b : Int), ix)).1)).setCell ⟨w.heap.size, 1, none⟩ (.int .i64 ((((b : Int), ix)).2 : Int)) := ⟨_, rfl⟩
              rw [← hw3]
              have hk3 := sp_set (u := .int .i64 (((b : Int), ix)).1) (v := .int .i64 ((((b : Int), ix)).2 : Int)) HK2.out
              rw [← hw3] at hk3
              have r0 := cell_blk (i := 0) (v := .int .i64 (((b : Int), ix)).1) hk3 rfl
              have r1 := cell_blk (i := 1) (v := .int .i64 ((((b : Int), ix)).2 : Int)) hk3 rfl
              have HW3 := Lib.hid hw3
              clear hw3 hk3 k0 k1 s0 s1 f0 f1
              refine bodyPost_ret (by simp [results, Tryz.results272, go_sem, r0, r1]; try rfl) rfl ?_
              exact ⟨by rw [HEND.out]; try rfl, by
                have hb := HB1.out.trans (HB2.out.mono HB1.out.size)
                rw [HW3.out]
                exact (hb.setCell (p := ⟨w.heap.size, 0, none⟩) (Nat.le_refl _) _).setCell (p := ⟨w.heap.size, 1, none⟩) (Nat.le_refl _) _⟩
            · have hp1 : decide (0 ≤ (P.nd (a : Int)).parent) = false := decide_eq_false hp0
              have HF2 := Lib.hid (HFC.out.trans (if_neg hp0))
              by_cases hi0 : 0 < i
              · obtain ⟨i2, rfl⟩ : ∃ i2, i = i2 + 1 := ⟨i - 1, by omega⟩
                obtain ⟨y, hy⟩ : ∃ y, P.opens[i2]? = some y := get_some (by have := HN.out; omega)
                have hyh := HW.out.opin y (List.mem_of_getElem? hy)
                obtain ⟨bo2, oo2, e2, ho2⟩ := open_at (HOS.out w1 HB1.out) hy
                simp only [Option.some.injEq, Addr.mk.injEq, and_true] at e2
                obtain ⟨rfl, rfl⟩ := e2
                have HEND := Lib.hid (HPE.out.trans (show _ = P.behind y by
                  rw [HF2.out, show (P.opens.take (i2 + 1 + 1 - 1)).reverse = y :: (P.opens.take i2).reverse from take_rev (l := P.opens) (k := i2 + 1) (x := y) (by omega) (by simpa using hy)]
                  rfl))
                have HYH := Lib.hid hyh
                have g1 : (0 : Int) < ((i2 + 1 : Nat) : Int) := by omega
                have g2 : (0 : Int) < (i2 : Int) + 1 := by omega
                have wy : IntKind.i64.wrap (((i2 + 1 : Nat) : Int) - 1) = (i2 : Int) := by rw [IntWalk.i64_in _ (by omega)]; omega
                have wy2 : IntKind.i64.wrap ((i2 : Int) + 1 - 1) = (i2 : Int) := by rw [IntWalk.i64_in _ (by omega)]; omega
                have wy3 : IntKind.i64.wrap (i2 : Int) = (i2 : Int) := IntWalk.i64_in _ (by omega)
                have j5 : (0 : Int) ≤ (i2 : Int) := by omega
                have j6 : (i2 : Int) < (n : Int) := by omega
                clear hy hyh hp0 hi0
                go_wp2_with (first
      | (go_at_call 226; refine (HB.out _ HB1.out _ HYH.out).mono ?_; rintro e w2 ⟨rfl, hb2⟩; have HB2 := Lib.hid hb2; have k0 := cell_be s0 hb2; have k1 := cell_be s1 hb2; have HK2 := Lib.hid ((hb2.block _ (Array.getElem?_eq_some_iff.1 HBK.out).1).trans HBK.out); have f0 : w2.frozen? ⟨w.heap.size, 0, none⟩ = false := free_blk HK2.out; have f1 : w2.frozen? ⟨w.heap.size, 1, none⟩ = false := free_blk HK2.out; clear hb2)
      | fail)
                obtain ⟨w3, hw3⟩ : ∃ w3, w3 = (w2.setCell ⟨w.heap.size, 0, none⟩ (.int .i64 (P.behind y).1)).setCell ⟨w.heap.size, 1, none⟩ (.int .i64 ((P.behind y).2 : Int)) := ⟨_, rfl⟩
                rw [← hw3]
                have hk3 := sp_set (u := .int .i64 (P.behind y).1) (v := .int .i64 ((P.behind y).2 : Int)) HK2.out
                rw [← hw3] at hk3
                have r0 := cell_blk (i := 0) (v := .int .i64 (P.behind y).1) hk3 rfl
                have r1 := cell_blk (i := 1) (v := .int .i64 ((P.behind y).2 : Int)) hk3 rfl
                have HW3 := Lib.hid hw3
                clear hw3 hk3 k0 k1 s0 s1 f0 f1
                refine bodyPost_ret (by simp [results, Tryz.results272, go_sem, r0, r1]; try rfl) rfl ?_
                exact ⟨by rw [HEND.out]; try rfl, by
                  have hb := HB1.out.trans (HB2.out.mono HB1.out.size)
                  rw [HW3.out]
                  exact (hb.setCell (p := ⟨w.heap.size, 0, none⟩) (Nat.le_refl _) _).setCell (p := ⟨w.heap.size, 1, none⟩) (Nat.le_refl _) _⟩
              · have HI0 : Hid (i = 0) := by show i = 0; omega
                have g0 : ¬ (0 : Int) < (i : Int) := by omega
                clear hp0 hi0
                go_wp2_with fail
                go_round
                case rel =>
                  refine ⟨i, by omega, by go_num, Lib.hid (HF2.out.trans ?_)⟩
                  have e := HI0.out
                  subst e
                  rfl
                case measure => simp [intOf] <;> omega
        · have HJ0 : Hid (j = 0) := by show j = 0; omega
          obtain ⟨x, hx⟩ : ∃ x, P.opens[0]? = some x := get_some (List.length_pos_iff.2 HW.out.opn)
          obtain ⟨bo, oo, rfl, ho0⟩ := open_at (HOS.out w1 HB1.out) hx
          rw [Nat.add_zero] at ho0
          have HXH := Lib.hid (HW.out.opin x (List.mem_of_getElem? hx))
          have HEND := Lib.hid (HPE.out.trans (show _ = P.behind x by
            rw [HR.out, HJ0.out]
            show P.behind (P.opens.headD 0) = _
            rw [List.headD_eq_head?_getD, List.head?_eq_getElem?, hx]
            rfl))
          have n0 : (0 : Int) < (n : Int) := by have := List.length_pos_iff.2 HW.out.opn; have := HN.out; omega
          clear hx
          go_wp2_with (first
      | (go_at_call 226; refine (HB.out _ HB1.out _ HXH.out).mono ?_; rintro e w2 ⟨rfl, hb2⟩; have HB2 := Lib.hid hb2; have k0 := cell_be s0 hb2; have k1 := cell_be s1 hb2; have HK2 := Lib.hid ((hb2.block _ (Array.getElem?_eq_some_iff.1 HBK.out).1).trans HBK.out); have f0 : w2.frozen? ⟨w.heap.size, 0, none⟩ = false := free_blk HK2.out; have f1 : w2.frozen? ⟨w.heap.size, 1, none⟩ = false := free_blk HK2.out; clear hb2)
      | fail)
          obtain ⟨w3, hw3⟩ : ∃ w3, w3 = (w2.setCell ⟨w.heap.size, 0, none⟩ (.int .i64 (P.behind x).1)).setCell ⟨w.heap.size, 1, none⟩ (.int .i64 ((P.behind x).2 : Int)) := ⟨_, rfl⟩
          rw [← hw3]
          have hk3 := sp_set (u := .int .i64 (P.behind x).1) (v := .int .i64 ((P.behind x).2 : Int)) HK2.out
          rw [← hw3] at hk3
          have r0 := cell_blk (i := 0) (v := .int .i64 (P.behind x).1) hk3 rfl
          have r1 := cell_blk (i := 1) (v := .int .i64 ((P.behind x).2 : Int)) hk3 rfl
          have HW3 := Lib.hid hw3
          clear hw3 hk3 k0 k1 s0 s1 f0 f1
          refine bodyPost_ret (by simp [results, Tryz.results272, go_sem, r0, r1]; try rfl) rfl ?_
          exact ⟨by rw [HEND.out]; try rfl, by
            have hb := HB1.out.trans (HB2.out.mono HB1.out.size)
            rw [HW3.out]
            exact (hb.setCell (p := ⟨w.heap.size, 0, none⟩) (Nat.le_refl _) _).setCell (p := ⟨w.heap.size, 1, none⟩) (Nat.le_refl _) _⟩
end
end Go.Proofs.YtegcedboeemedaaGreatDoor

/-
A region that draws its order and has guards: its operations one by one, where it is known which of them are wanted.
-/
namespace Go.Proofs.YtegcedboeemedaaGreatDoor
open Go.RowKit Go.Cl
section
variable {P : Program} {ops : Array Oper} {Q : Exit → Act → World → Prop} {md : Region.Mode} {S : World → Prop} {T : List Nat}
theorem wpAnyG_takeW {i : Nat} {oi : Oper} {v : Value} {fuel : Nat} {listed : Array Bool} {a : Act} {w : World} (hi : ops[i]? = some oi)
    (hs : Region.noSelect ops = true) (hf : Region.free md ops listed i = true) (hr : (Region.ready md ops listed).contains i = true) (hw : waitsB md ops T i = true)
    (hQ : ∀ c a w, Q (.panic c) (a.put oi.dst v) w → Q (.panic c) a w) (hS : S w) (hg : Region.wanted oi (yielded ops a.tmps) = true) (hy : ∀ w, S w → (execOp a.eval oi).run P w = .ok (.value v) w)
    (h : wpAnyG P md ops Q S T fuel (listed.setIfInBounds i true) (a.put oi.dst v) w) : wpAnyG P md ops Q S T (fuel + 1) listed a w :=
  wpAnyG_first hi (Region.noSelect_spec hs) hQ (fun s hsT os hos => by
    have hw := List.all_eq_true.1 hw s hsT
    rw [hos] at hw
    simp only at hw
    obtain ⟨e, he, hb⟩ := Array.any_eq_true'.1 hw
    rw [Bool.and_eq_true, beq_iff_eq] at hb
    exact ⟨e, he, hb.1, hb.2⟩) fuel listed a w (Region.free_spec hi hf) (by simpa using hr) (.inl ⟨hg, hy⟩) hS h
theorem wpAnyG_pureW {i : Nat} {oi : Oper} {v : Value} {fuel : Nat} {listed : Array Bool} {a : Act} {w : World} (hi : ops[i]? = some oi)
    (hs : Region.noSelect ops = true) (hf : Region.free md ops listed i = true) (hr : (Region.ready md ops listed).contains i = true)
    (hQ : ∀ c a w, Q (.panic c) (a.put oi.dst v) w → Q (.panic c) a w) (hg : Region.wanted oi (yielded ops a.tmps) = true) (hy : ∀ w, (execOp a.eval oi).run P w = .ok (.value v) w)
    (h : wpAnyG P md ops Q S T fuel (listed.setIfInBounds i true) (a.put oi.dst v) w) : wpAnyG P md ops Q S T (fuel + 1) listed a w :=
  wpAnyG_firstP hi (Region.noSelect_spec hs) hQ fuel listed a w (Region.free_spec hi hf) (by simpa using hr) (.inl ⟨hg, fun w _ => hy w⟩) h
/-- What is not wanted yields nothing. -/
theorem wpAnyG_skipW {i : Nat} {oi : Oper} {fuel : Nat} {listed : Array Bool} {a : Act} {w : World} (hi : ops[i]? = some oi)
    (hs : Region.noSelect ops = true) (hf : Region.free md ops listed i = true) (hr : (Region.ready md ops listed).contains i = true)
    (hQ : ∀ c a w, Q (.panic c) (a.put oi.dst undef) w → Q (.panic c) a w) (hg : Region.wanted oi (yielded ops a.tmps) = false)
    (h : wpAnyG P md ops Q S T fuel (listed.setIfInBounds i true) (a.put oi.dst undef) w) : wpAnyG P md ops Q S T (fuel + 1) listed a w :=
  wpAnyG_firstP hi (Region.noSelect_spec hs) hQ fuel listed a w (Region.free_spec hi hf) (by simpa using hr) (.inr ⟨hg, rfl⟩) h
/-- One operation alone may come up. -/
theorem wpAnyG_oneW {i : Nat} {o : Oper} {fuel : Nat} {listed : Array Bool} {a : Act} {w : World} (hr : Region.ready md ops listed = [i]) (hi : ops[i]? = some o) (hg : Region.wanted o (yielded ops a.tmps) = true)
    (h : ∀ K : Act → World → Prop, Hid (∀ a' w', (i ∉ T → S w → S w') → wpAnyG P md ops Q S T fuel (listed.setIfInBounds i true) a' w' → K a' w') → o.wp P a w K Q) : wpAnyG P md ops Q S T (fuel + 1) listed a w := by
  refine ⟨fun h0 => ?_, fun j hj => ?_⟩
  · rw [h0] at hr
    cases hr
  · rw [hr] at hj
    have e : j = i := by simpa using hj
    rw [e]
    unfold wpOp
    simp only [hi]
    rw [if_pos hg]
    exact Or.inl (h _ (Lib.hid fun _ _ h1 h2 => ⟨h1, h2⟩))
end
end Go.Proofs.YtegcedboeemedaaGreatDoor

/-
The tree's own functions: a comment, an element, an element at the place, a text.
-/
namespace Go.Proofs.YtegcedboeemedaaGreatDoor
open Go.RowKit Go.Cl
attribute [local go_sem ↓] Go.wp_at_zero Go.wp_at_succ
section
variable {m : Int} {wt w w' w2 : World} {X base Bp : Nat} {P Q : PS}
/-- A node that was made is put at a spot. -/
theorem put_made {x : Nd} (h : BdAt m wt w X base Bp (P.make x)) (ht : P.Tr) (h0 : P.has 0) {s : Int × Nat} (hs : P.Spot s) (hk : x.kids = []) (hsz : P.nodes.length ≤ 400000000) :
    Calls Tryz.prog 120 #[.pointer (some ⟨X, 0, none⟩), spV s, .int .i64 P.next] w fun e w' => e = .returned (.tuple #[]) ∧ BdTo m wt w w' X base Bp ((P.make x).put s P.next) :=
  put_at m wt w X base Bp (P.make x) h (ht.make hk) s P.next ⟨PS.has_make.2 (.inl hs.1), by rw [PS.nd_make x hs.1]; exact hs.2⟩ (PS.has_make.2 (.inr rfl)) (by
    unfold PS.make
    simp only [List.length_append, List.length_cons, List.length_nil]
    omega) (PS.has_make.2 (.inl h0))
/-- One more is open: the row grown, and stored. -/
theorem PAt.push {wt w w1 : World} {X base Bp : Nat} {P : PS} {nV oV iV v' : Value} {ps : List (Value × Value)} (h : PAt wt w X base Bp P nV oV iV ps) {n : Int} (hown : OwnF (tInt .i64) w1 base 3 v' (P.opens.length + 1) (P.opens ++ [n])) (hg : w.grownBy w1 oV.ownBlock) (hv : v'.ownBlock = oV.ownBlock ∨ ∃ k, v'.ownBlock = some k ∧ w.heap.size ≤ k) :
    PAt wt (w1.setCell ⟨X, 1, none⟩ v') X base Bp { P with opens := P.opens ++ [n] } nV v' iV ps :=
  h.opens hg (by rw [List.length_append]; exact hown) (by
    rcases hv with e | e
    · exact .inl e
    · exact .inr (.inr e))
set_option maxRecDepth 100000 in
set_option maxHeartbeats 2000000 in
theorem element_at (h : BdAt m wt w X base Bp P) (ht : P.Tr) (h0 : P.has 0) (hsz : P.nodes.length ≤ 400000000) (hol : P.opens.length ≤ 400000000) {s : Int × Nat} (hs : P.Spot s) (nm : ByteArray) (hnm : nm.size ≤ 1000000000) {A : Option Addr} {n c : Nat} {ats : List DAttr} (hat : Sl tDA w (lt w.heap.size) A n c ats) (hfew : ats.length ≤ 1000000000) :
    Calls Tryz.prog 84 #[.pointer (some ⟨X, 0, none⟩), spV s, .string nm, .slice A n c] w fun e w' => e = .returned (.int .i64 P.next) ∧ BdTo m wt w w' X base Bp (P.element s nm ats) := by
  obtain rfl : n = ats.length := hat.hn
  have hX := h.lt
  obtain ⟨w1, hw1⟩ : ∃ w1, w1 = w.alloc (.cells #[.int .i64 s.1, .int .i64 (s.2 : Int)] 144) := ⟨_, rfl⟩
  have hb1 : Below w.heap.size w w1 := by rw [hw1]; exact (Below.refl _ w).alloc (Nat.le_refl _) _
  have hk1 : w1.heap[w.heap.size]? = some (.cells #[.int .i64 s.1, .int .i64 (s.2 : Int)] 144 (0, 0)) := by rw [hw1]; exact heap_alloc_new w _
  have HLEN := Lib.hid h.len
  have HCL := Lib.hid (cloneDA A ats.length c ats w1 w.heap.size (hat.below hb1 (Nat.le_refl _)) hb1.size)
  have HM := Lib.hid (fun (v : World) (A' : Option Addr) (c' : Nat) (hv : Below w1.heap.size w1 v) (ho : Own tDA v w1.heap.size 141 (lt w.heap.size) (.slice A' ats.length c') ats.length ats) =>
    make_at m wt w1 v X base Bp P (h.next hb1) hv ⟨2, nm, ats, ⟨#[]⟩, -1, []⟩ (.slice A' ats.length c') 0 (ho.flat (flatPair flatStr flatStr)) rfl h0 (by omega) rfl hnm (Nat.zero_le _) hfew)
  have HP := Lib.hid (fun (v : World) (hv : BdAt m wt v X base Bp (P.make ⟨2, nm, ats, ⟨#[]⟩, -1, []⟩)) => put_made hv ht h0 hs rfl hsz)
  have HR : Hid (P.element s nm ats = { (P.make ⟨2, nm, ats, ⟨#[]⟩, -1, []⟩).put s P.next with opens := ((P.make ⟨2, nm, ats, ⟨#[]⟩, -1, []⟩).put s P.next).opens ++ [P.next] }) := rfl
  have hnx : (Lit.int .i64 P.next).wf = true := WalkArith.wf_i64 (by unfold PS.next; omega)
  have HQ0 : Hid (((P.make ⟨2, nm, ats, ⟨#[]⟩, -1, []⟩).put s P.next).has 0) := PS.has_made.2 (.inl h0)
  have HOL : Hid (((P.make ⟨2, nm, ats, ⟨#[]⟩, -1, []⟩).put s P.next).opens.length ≤ 400000000) := hol
  have HK1 := Lib.hid hk1
  have HB1 := Lib.hid hb1
  have HNX := Lib.hid hnx
  clear h ht h0 hs hk1 hb1 hat hnx hsz
  generalize P.element s nm ats = R at *
  generalize (P.make ⟨2, nm, ats, ⟨#[]⟩, -1, []⟩).put s P.next = Q2 at *
  generalize P.next = nx at *
  go_enter Tryz.func84, Tryz.ntmps84
  go_upto_region 1 with fail
  rw [← hw1]
  clear hw1
  go_upto_region 2 with (first
    | (go_at_call 119; refine HCL.out.mono ?_; rintro e w2 ⟨A', c', rfl, hb2, ho2⟩; have HB2 := Lib.hid hb2; have HO2 := Lib.hid ho2; clear hb2 ho2)
    | (go_at_call 118; refine (HM.out _ _ _ HB2.out HO2.out).mono ?_; rintro e w3 ⟨rfl, hb3⟩; have HB3 := Lib.hid hb3; have hk3 := hb3.other (b := w.heap.size) ((HB2.out.block _ (Array.getElem?_eq_some_iff.1 HK1.out).1).trans HK1.out) (by decide); have t0 := cell_blk (i := 0) (v := .int .i64 s.1) hk3 rfl; have t1 := cell_blk (i := 1) (v := .int .i64 (s.2 : Int)) hk3 rfl; clear hk3 hb3)
    | fail)
  go_upto_region 3 with (first
    | (go_at_call 120; refine (HP.out _ HB3.out.at_).mono ?_; rintro e w4 ⟨rfl, hb4⟩; have HB4 := Lib.hid (BdTo.before (HB1.out.trans (HB2.out.mono HB1.out.size)) hX (HB3.out.trans hb4)); clear hb4)
    | fail)
  clear t0 t1
  obtain ⟨nV, oV, iV, ps, hp4⟩ := HB4.out.at_.mem
  obtain ⟨AO, cO, rfl, hso⟩ := hp4.opens_sl (by have := HOL.out; omega)
  have c1 := hp4.cell 1 (v := .slice AO Q2.opens.length cO) rfl
  have f1 := hp4.fr 1
  have hop := hp4.op
  have hol2 := HOL.out
  obtain ⟨w5, hw5⟩ : ∃ w5, w5 = w4.alloc (.cells #[.int .i64 nx] 3) := ⟨_, rfl⟩
  have hb5 : Below w4.heap.size w4 w5 := by rw [hw5]; exact (Below.refl _ _).alloc (Nat.le_refl _) _
  have hk5 : w5.heap[w4.heap.size]? = some (.cells #[.int .i64 nx] 3 (0, 0)) := by rw [hw5]; exact heap_alloc_new w4 _
  have hp5 := hp4.next hb5
  have hn5 := Nat.le_trans (hp4.baseLe HQ0.out) hb5.size
  obtain ⟨v', w6, hrun, hown6, hg6, hbl6, hv6⟩ := run_ap1 (P := Tryz.prog) (t := 38) (ty := 38) (T := tInt .i64) (c := 1) (b := w4.heap.size) (off := 0) (y := nx) (cs := [.int .i64 nx]) w5 elemI (OwnF.below hop hb5 (Nat.le_refl _)) (fun _ h => h.elim) ⟨rfl, HNX.out⟩ (fun j u hu => by rw [Nat.zero_add]; exact cell_blk hk5 (by simpa using hu)) (by omega) (by omega) hn5
  obtain ⟨A6, c6, rfl⟩ := Own.form hown6
  have hXne : some X ≠ (Value.slice AO Q2.opens.length cO).ownBlock := fun e => own_ne_block (by decide) hp5.op hp5.box e.symm
  have hX6 := hg6.block X hp5.low hXne
  have d1 := same_cell hX6 (cell_be c1 hb5)
  have f6 : w6.frozen? ⟨X, 1, none⟩ = false := free_blk (hX6.trans hp5.box)
  have hp6 := hp5.push (n := nx) hown6 hg6 (by
    rcases hv6 with e | e
    · exact .inl e
    · exact .inr ⟨_, e, Nat.le_refl _⟩)
  have hl6 : Below base w w6 := (HB4.out.low.trans (hb5.mono (Nat.le_of_lt HB4.out.at_.blt))).trans (below_row hp5.op (Nat.le_refl _) hg6 hn5)
  have hk6 : KeepT w w6 := (HB4.out.keep.trans (KeepT.below hb5)).trans (KeepT.own hp5.op (.inr (.inr (.inl rfl))) hg6)
  have HFIN : Hid (∀ W, W = w6.setCell ⟨X, 1, none⟩ (.slice A6 (Q2.opens.length + 1) c6) → BdTo m wt w W X base Bp R) := by
    rintro W rfl
    rw [HR.out]
    have hat : ∃ nV oV iV ps, PAt wt (w6.setCell ⟨X, 1, none⟩ (.slice A6 (Q2.opens.length + 1) c6)) X base Bp { Q2 with opens := Q2.opens ++ [nx] } nV oV iV ps := ⟨_, _, _, _, hp6⟩
    have hlow := hl6.trans (below_box w6 X 1 (.slice A6 (Q2.opens.length + 1) c6) hp5.hX)
    have hkk := hk6.trans (KeepT.row (hX6.trans hp5.box) (.inl rfl) (grown_set w6 X 1 (.slice A6 (Q2.opens.length + 1) c6)))
    refine ⟨hlow, hkk, ⟨hat, ?_, HB4.out.at_.pos⟩⟩
    exact (hlow.cell HB4.out.at_.pos).trans HLEN.out
  rw [hw5] at hrun
  clear hp4 hop hw5 hb5 hk5 hp5 hn5 hown6 hg6 hbl6 hv6 hXne hX6 hp6 hl6 hk6 hso
  go_wp2_with (at_builtin; refine wpList_append_runI (by kernel_rfl) (.tmp 24) (.tmp 26) 38 rfl (.slice AO Q2.opens.length cO) (.slice (some ⟨w4.heap.size, 0, none⟩) 1 1) rfl rfl hrun ?_)
  go_ret
  exact ⟨rfl, HFIN.out _ rfl⟩
end
end Go.Proofs.YtegcedboeemedaaGreatDoor

/-
How large the builder's state is, and what each step adds. No program in sight.
-/
namespace Go.Proofs.YtegcedboeemedaaGreatDoor
open Go.RowKit Go.Cl
namespace PS
/-- A tree of no more than so many nodes, with texts of no more than so many bytes. -/
structure Lim (P : PS) (N : Nat) : Prop where
  wf : P.Wf
  nodes : P.nodes.length ≤ N
  opens : P.opens.length ≤ N
  text : ∀ x ∈ P.nodes, x.text.size ≤ N
theorem Lim.more {P : PS} {N M : Nat} (h : P.Lim N) (hm : N ≤ M) : P.Lim M := ⟨h.wf, Nat.le_trans h.nodes hm, Nat.le_trans h.opens hm, fun x hx => Nat.le_trans (h.text x hx) hm⟩
theorem Lim.cut {P Q : PS} {N : Nat} (h : P.Lim N) (hw : Q.Wf) (e : Q.nodes = P.nodes) (hl : Q.opens.length ≤ P.opens.length) : Q.Lim N :=
  ⟨hw, by rw [e]; exact h.nodes, Nat.le_trans hl h.opens, by rw [e]; exact h.text⟩
section
variable {P : PS}
theorem pop_nodes : P.pop.nodes = P.nodes := by
  unfold PS.pop
  split <;> rfl
theorem pop_opens : P.pop.opens.length ≤ P.opens.length := by
  unfold PS.pop
  split
  · show P.opens.dropLast.length ≤ _
    rw [List.length_dropLast]
    omega
  · exact Nat.le_refl _
theorem pop_items : P.pop.items = P.items := by
  unfold PS.pop
  split <;> rfl
end
/-- Nodes and items stay, and no more is open. -/
structure Less (Q P : PS) : Prop where
  nodes : Q.nodes = P.nodes
  items : Q.items = P.items
  opens : Q.opens.length ≤ P.opens.length
theorem Less.refl (P : PS) : Less P P := ⟨rfl, rfl, Nat.le_refl _⟩
theorem Less.trans {A B C : PS} (h : Less A B) (k : Less B C) : Less A C := ⟨h.nodes.trans k.nodes, h.items.trans k.items, Nat.le_trans h.opens k.opens⟩
theorem less_pop (P : PS) : Less P.pop P := ⟨pop_nodes, pop_items, pop_opens⟩
theorem less_clearN : ∀ (k : Nat) (l : ByteArray) (P : PS), Less (clearN k l P) P
  | 0, _, P => .refl P
  | k + 1, l, P => by
    unfold clearN
    split
    · exact (less_clearN k l P.pop).trans (less_pop P)
    · exact .refl P
theorem less_clear (P : PS) (l : ByteArray) : Less (P.clear l) P := less_clearN _ l P
section
variable {P : PS} {N : Nat}
theorem Lim.pop (h : P.Lim N) : P.pop.Lim N := h.cut h.wf.pop (less_pop P).nodes (less_pop P).opens
theorem Lim.clear (h : P.Lim N) (l : ByteArray) : (P.clear l).Lim N := h.cut (h.wf.clear l) (less_clear P l).nodes (less_clear P l).opens
theorem Lim.same {Q : PS} (h : P.Lim N) (e : Q.nodes = P.nodes) (e2 : Q.opens = P.opens) : Q.Lim N := h.cut (h.wf.same e e2) e (by rw [e2]; exact Nat.le_refl _)
theorem mem_setNd {n : Int} {x y : Nd} (h : y ∈ (P.setNd n x).nodes) : y = x ∨ y ∈ P.nodes := (List.mem_or_eq_of_mem_set h).symm
theorem put_text {s : Int × Nat} {n : Int} (hp : P.has s.1) (hn : P.has n) (hne : s.1 ≠ n) {M : Nat} (h : ∀ x ∈ P.nodes, x.text.size ≤ M) : ∀ x ∈ (P.put s n).nodes, x.text.size ≤ M := fun x hx => by
  have hin : ∀ {Q : PS} {k : Int}, Q.has k → Q.nd k ∈ Q.nodes := fun {Q} {k} hk => by
    obtain ⟨a, rfl, ha, _⟩ := has_at hk
    exact List.mem_of_getElem? ha
  unfold PS.put at hx
  simp only at hx
  rcases mem_setNd hx with rfl | hx
  · show (nd _ n).text.size ≤ M
    rw [nd_setNd hp _ hn.1, if_neg (Ne.symm hne)]
    exact h _ (hin hn)
  · rcases mem_setNd hx with rfl | hx
    · exact h (P.nd s.1) (hin hp)
    · exact h x hx
theorem put_len {s : Int × Nat} {n : Int} : (P.put s n).nodes.length = P.nodes.length := by unfold PS.put; simp only; rw [len_setNd, len_setNd]
theorem made_len {s : Int × Nat} {x : Nd} : ((P.make x).put s P.next).nodes.length = P.nodes.length + 1 := by
  rw [put_len]
  unfold PS.make
  simp
theorem made_text {s : Int × Nat} (hs : P.Spot s) {x : Nd} {M : Nat} (h : ∀ x ∈ P.nodes, x.text.size ≤ M) (hx : x.text.size ≤ M) : ∀ y ∈ ((P.make x).put s P.next).nodes, y.text.size ≤ M :=
  put_text (has_make.2 (.inl hs.1)) (has_make.2 (.inr rfl)) (fun e => not_has_next (e ▸ hs.1)) fun y hy => by
    unfold PS.make at hy
    simp only [List.mem_append, List.mem_singleton] at hy
    rcases hy with hy | rfl
    · exact h y hy
    · exact hx
theorem Lim.element (h : P.Lim N) {s : Int × Nat} (hs : P.Spot s) (nm : ByteArray) (ats : List DAttr) : (P.element s nm ats).Lim (N + 1) :=
  ⟨h.wf.element hs nm ats, by show ((P.make _).put s P.next).nodes.length ≤ _; rw [made_len]; have := h.nodes; omega,
    by show (P.opens ++ [P.next]).length ≤ _; rw [List.length_append]; have := h.opens; simp; omega,
    made_text hs (fun x hx => by have := h.text x hx; omega) (Nat.zero_le _)⟩
theorem Lim.start (h : P.Lim N) (nm : ByteArray) (ats : List DAttr) : (P.start nm ats).Lim (N + 1) := h.element (spot_place h.wf h.wf.top) nm ats
theorem nd_text (h : ∀ x ∈ P.nodes, x.text.size ≤ N) (n : Int) : (P.nd n).text.size ≤ N := by
  unfold nd
  rw [List.getD_eq_getElem?_getD]
  cases e : P.nodes[n.toNat]? with
  | none => exact Nat.zero_le _
  | some x => exact h x (List.mem_of_getElem? e)
theorem Lim.text_ (h : P.Lim N) (s : ByteArray) : (P.text s).Lim (N + 1 + s.size) := by
  have hw := h.wf.text s
  have hs := spot_place h.wf h.wf.top
  unfold PS.text at hw ⊢
  simp only at hw ⊢
  split at hw
  · rename_i h1
    rw [if_pos h1]
    exact h.more (by omega)
  · rename_i h1
    rw [if_neg h1]
    split at hw
    · rename_i h2
      rw [if_pos h2]
      refine ⟨hw, by rw [len_setNd]; have := h.nodes; omega, by show P.opens.length ≤ _; have := h.opens; omega, fun x hx => ?_⟩
      rcases mem_setNd hx with rfl | hx
      · show (_ ++ s : ByteArray).size ≤ _
        rw [ByteArray.size_append]
        have := nd_text h.text ((P.nd (P.place P.top).1).kids.getD ((P.place P.top).2 - 1) 0)
        omega
      · have := h.text x hx
        omega
    · rename_i h2
      rw [if_neg h2]
      exact ⟨hw, by rw [made_len]; have := h.nodes; omega, by show P.opens.length ≤ _; have := h.opens; omega, made_text hs (fun x hx => by have := h.text x hx; omega) (by show s.size ≤ _; omega)⟩
end
end PS
end Go.Proofs.YtegcedboeemedaaGreatDoor

/-
The tree's own functions: an element at the place, a text at the place.
-/
namespace Go.Proofs.YtegcedboeemedaaGreatDoor
open Go.RowKit Go.Cl
attribute [local go_sem ↓] Go.wp_at_zero Go.wp_at_succ
section
variable {m : Int} {wt w w' w2 : World} {X base Bp : Nat} {P Q : PS}
theorem PS.Lim.ok {N : Nat} (h : P.Lim N) (hN : N ≤ 9000000) : P.Ok := h.wf.ok (by have := h.opens; omega)
set_option maxRecDepth 100000 in
set_option maxHeartbeats 1000000 in
theorem start_at (h : BdAt m wt w X base Bp P) (hl : P.Lim 9000000) (nm : ByteArray) (hnm : nm.size ≤ 1000000000) {A : Option Addr} {n c : Nat} {ats : List DAttr} (hat : Sl tDA w (lt w.heap.size) A n c ats) (hfew : ats.length ≤ 1000000000) :
    Calls Tryz.prog 232 #[.pointer (some ⟨X, 0, none⟩), .string nm, .slice A n c] w fun e w' => e = .returned (.int .i64 P.next) ∧ BdTo m wt w w' X base Bp (P.start nm ats) := by
  have HT := Lib.hid (top_at h (hl.ok (Nat.le_refl _)))
  have HP := Lib.hid (fun (v : World) (hv : Below w.heap.size w v) => place_at (h.next hv) hl.wf (by have := hl.opens; omega) hl.wf.top)
  have HE := Lib.hid (fun (v : World) (hv : Below w.heap.size w v) => element_at (h.next hv) hl.wf.tr hl.wf.zero (by have := hl.nodes; omega) (by have := hl.opens; omega) (PS.spot_place hl.wf hl.wf.top) nm hnm ((hat.below hv (Nat.le_refl _)).up hv.size) hfew)
  have HR : Hid (P.start nm ats = P.element (P.place P.top) nm ats) := rfl
  have hX := h.lt
  clear h hl hat
  generalize P.start nm ats = R at *
  generalize P.place P.top = s at *
  generalize P.next = nx at *
  generalize P.top = tp at *
  go_enter Tryz.func232, Tryz.ntmps232
  go_wp2_with (first
    | (go_at_call 273; refine HT.out.mono ?_; rintro e w1 ⟨rfl, hb1⟩; have HB1 := Lib.hid hb1; clear hb1)
    | (go_at_call 272; refine (HP.out _ HB1.out).mono ?_; rintro e w2 ⟨rfl, hb2⟩; have HB2 := Lib.hid (HB1.out.trans (hb2.mono HB1.out.size)); clear hb2)
    | (go_at_call 84; refine (HE.out _ HB2.out).mono ?_; rintro e w3 ⟨rfl, hb3⟩; have HB3 := Lib.hid (BdTo.before HB2.out hX hb3); clear hb3)
    | fail)
  go_ret
  exact ⟨rfl, by rw [HR.out]; exact HB3.out⟩
theorem str_nil {s : ByteArray} (h : s.size = 0) : (s.toList == []) = true := by
  rw [ByteArray.toList_eq]
  have : s.data.toList = [] := List.length_eq_zero_iff.1 (by simpa using h)
  rw [this]
  rfl
theorem str_ne {s : ByteArray} (h : s.size ≠ 0) : (s.toList == []) = false := by
  rw [ByteArray.toList_eq]
  cases e : s.data.toList with
  | nil => exact absurd (by have := congrArg List.length e; simpa using this) h
  | cons => rfl
set_option maxRecDepth 100000 in
set_option maxHeartbeats 2000000 in
theorem text_at (h : BdAt m wt w X base Bp P) (hl : P.Lim 9000000) (t : ByteArray) (htx : t.size ≤ 1000000000) :
    Calls Tryz.prog 233 #[.pointer (some ⟨X, 0, none⟩), .string t] w fun e w' => e = .returned (.tuple #[]) ∧ BdTo m wt w w' X base Bp (P.text t) := by
  have HT := Lib.hid (top_at h (hl.ok (Nat.le_refl _)))
  have HP := Lib.hid (fun (v : World) (hv : Below w.heap.size w v) => place_at (h.next hv) hl.wf (by have := hl.opens; omega) hl.wf.top)
  have hsp := PS.spot_place hl.wf hl.wf.top
  have HR : Hid (P.text t = if (P.place P.top).1 = 0 ∨ t.size = 0 then P else if 0 < (P.place P.top).2 ∧ (P.nd ((P.nd (P.place P.top).1).kids.getD ((P.place P.top).2 - 1) 0)).kind = 3 then P.setNd ((P.nd (P.place P.top).1).kids.getD ((P.place P.top).2 - 1) 0) { P.nd ((P.nd (P.place P.top).1).kids.getD ((P.place P.top).2 - 1) 0) with text := (P.nd ((P.nd (P.place P.top).1).kids.getD ((P.place P.top).2 - 1) 0)).text ++ t } else (P.make ⟨3, ⟨#[]⟩, [], t, -1, []⟩).put (P.place P.top) P.next) := rfl
  have HM := Lib.hid (fun (v : World) (hv : Below w.heap.size w v) => make_at m wt w v X base Bp P h hv ⟨3, ⟨#[]⟩, [], t, -1, []⟩ (.slice none 0 0) 0 (OwnF.nil _ _ _) rfl hl.wf.zero (by have := hl.nodes; omega) rfl (Nat.zero_le _) htx (Nat.zero_le _))
  have HPU := Lib.hid (fun (v : World) (hv : BdAt m wt v X base Bp (P.make ⟨3, ⟨#[]⟩, [], t, -1, []⟩)) => put_made hv hl.wf.tr hl.wf.zero hsp rfl (by have := hl.nodes; omega))
  have HX : Hid (X < w.heap.size) := h.lt
  have HL := Lib.hid hl
  have HH := Lib.hid h
  generalize P.text t = R at *
  generalize hsv : P.place P.top = s at *
  generalize P.next = nx at *
  generalize P.top = tp at *
  obtain ⟨s1, at_⟩ := s
  obtain ⟨p, hp1, hx, hpl⟩ := PS.has_at hsp.1
  obtain rfl : s1 = (p : Int) := hp1
  have hat : at_ ≤ (P.nd (p : Int)).kids.length := hsp.2
  have HSP := Lib.hid hsp
  clear h hl hsv hsp
  go_enter Tryz.func233, Tryz.ntmps233
  go_upto_region 1 with (first
    | (go_at_call 273; refine HT.out.mono ?_; rintro e w1 ⟨rfl, hb1⟩; have HB1 := Lib.hid hb1; clear hb1)
    | (go_at_call 272; refine (HP.out _ HB1.out).mono ?_; rintro e w2 ⟨rfl, hb2⟩; have HB2 := Lib.hid (HB1.out.trans (hb2.mono HB1.out.size)); clear hb2)
    | fail)
  obtain ⟨w3, hw3⟩ : ∃ w3, w3 = w2.alloc (.cells #[.int .i64 (p : Int), .int .i64 (at_ : Int)] 144) := ⟨_, rfl⟩
  have hb3 : Below w2.heap.size w2 w3 := by rw [hw3]; exact (Below.refl _ _).alloc (Nat.le_refl _) _
  have hk3 : w3.heap[w2.heap.size]? = some (.cells #[.int .i64 (p : Int), .int .i64 (at_ : Int)] 144 (0, 0)) := by rw [hw3]; exact heap_alloc_new w2 _
  rw [← hw3]
  have HB3 := Lib.hid (HB2.out.trans (hb3.mono HB2.out.size))
  have HK3 := Lib.hid hk3
  have hat3 := HH.out.next HB3.out
  obtain ⟨nV, oV, iV, ps, hp3⟩ := hat3.mem
  obtain ⟨g, cN, q, rfl, hq, hPq, hgl, hXg, hcell⟩ := hp3.node hx
  obtain ⟨q1, qv⟩ := q
  obtain ⟨Ak, ck, ev, hks⟩ := OwnF.sl hPq.kids (by decide) (by have := hPq.ok.kids; show _ * 8 ≤ _; omega)
  obtain rfl : qv = .slice Ak (P.nd (p : Int)).kids.length ck := ev
  have c0 := hp3.cell 0 (v := .slice (some ⟨g, 0, none⟩) P.nodes.length cN) rfl
  have b0 := cell_blk (i := 0) (v := .int .i64 (p : Int)) hk3 rfl
  have b1 := cell_blk (i := 1) (v := .int .i64 (at_ : Int)) hk3 rfl
  have g5 := (hcell 5 _ rfl).1
  have i1 : (0 : Int) ≤ (p : Int) := by omega
  have i2 : (p : Int) < (P.nodes.length : Int) := by omega
  have HKS := Lib.hid hks
  have HP3 := Lib.hid hp3
  have HNG : Hid (X ≠ g) := hXg
  clear hw3 hb3 hk3 hat3 hp3 hq hPq hgl hXg hcell hks HT HP
  go_region_held3 (fun w' => w'.cell? ⟨X, 0, none⟩ = some (.slice (some ⟨g, 0, none⟩) P.nodes.length cN) ∧ w'.cell? ⟨w2.heap.size, 0, none⟩ = some (.int .i64 p) ∧ w'.cell? ⟨g, p * 6 + 5, none⟩ = some (.slice Ak (P.nd (p : Int)).kids.length ck)) (first | go_keep | assumption) (fail)
  by_cases hp0 : p = 0
  · have HRE := Lib.hid (HR.out.trans (if_pos (.inl (by show (p : Int) = 0; omega))))
    have e0 : ((p : Int) == 0) = true := by rw [hp0]; rfl
    clear hp0
    go_wp2_with fail
    exact bodyPost_end (results_none rfl _ _ _) rfl ⟨rfl, by rw [HRE.out]; exact (HH.out.to HB3.out).drew⟩
  have e0 : ((p : Int) == 0) = false := beq_eq_false_iff_ne.2 (by omega)
  by_cases ht0 : t.size = 0
  · have HRE := Lib.hid (HR.out.trans (if_pos (.inr ht0)))
    have e1 := str_nil ht0
    clear ht0 hp0
    go_wp2_with fail
    exact bodyPost_end (results_none rfl _ _ _) rfl ⟨rfl, by rw [HRE.out]; exact (HH.out.to HB3.out).drew⟩
  have e1 := str_ne ht0
  have HR1 := Lib.hid (HR.out.trans (if_neg (by rintro (k | k); exact hp0 (by have k : (p : Int) = 0 := k; omega); exact ht0 k)))
  clear hp0 ht0 HR
  go_upto_region 4 with fail
  by_cases ha0 : at_ = 0
  · have HRE := Lib.hid (HR1.out.trans (if_neg (fun k => by have := k.1; have k2 : 0 < at_ := this; omega)))
    have j0 : decide ((0 : Int) < (at_ : Int)) = false := decide_eq_false (by omega)
    have j1 : ¬ (0 : Int) < (at_ : Int) := by omega
    have j2 : decide (0 < at_) = false := decide_eq_false (by omega)
    clear ha0
    go_quiet (fail)
    obtain ⟨wd, hwd⟩ : ∃ wd, wd = w3.drew.drewN nq := ⟨_, rfl⟩
    have hbd : Below w3.heap.size w3 wd := by rw [hwd]; exact below_dN ((Below.refl _ _).drew) _
    rw [← hwd]
    have HBD := Lib.hid (HB3.out.trans (hbd.mono HB3.out.size))
    have hkd := (hbd.block _ (Array.getElem?_eq_some_iff.1 HK3.out).1).trans HK3.out
    have HKD := Lib.hid hkd
    have s0 := cell_blk (i := 0) (v := .int .i64 (p : Int)) hkd rfl
    have s1 := cell_blk (i := 1) (v := .int .i64 (at_ : Int)) hkd rfl
    clear hwd hbd hkd b0 b1 c0 g5
    go_upto_region 2 with fail
    go_region_held3 (fun w' => w'.cell? ⟨w2.heap.size, 0, none⟩ = some (.int .i64 (p : Int)) ∧ w'.cell? ⟨w2.heap.size, 1, none⟩ = some (.int .i64 (at_ : Int))) (first | exact ⟨s0, s1⟩ | exact ⟨t0, t1⟩ | exact ⟨q0, q1⟩)
      (first
        | (go_at_call 118; refine (HM.out _ HBD.out.drew).mono ?_; rintro e w4 ⟨rfl, hb4⟩; have HB4 := Lib.hid hb4; have hk4 := hb4.other (b := w2.heap.size) HKD.out (by decide); have t0 := cell_blk (i := 0) (v := .int .i64 (p : Int)) hk4 rfl; have t1 := cell_blk (i := 1) (v := .int .i64 (at_ : Int)) hk4 rfl; have HK4 := Lib.hid hk4; clear hk4 hb4)
        | (go_at_call 120; refine (HPU.out _ HB4.out.at_).mono ?_; rintro e w5 ⟨rfl, hb5⟩; have HB5 := Lib.hid (HB4.out.trans hb5); have hk5 := hb5.other (b := w2.heap.size) HK4.out (by decide); have q0 := cell_blk (i := 0) (v := .int .i64 (p : Int)) hk5 rfl; have q1 := cell_blk (i := 1) (v := .int .i64 (at_ : Int)) hk5 rfl; clear hk5 hb5)
        | fail)
    go_wp2_with fail
    exact bodyPost_end (results_none rfl _ _ _) rfl ⟨rfl, by rw [HRE.out]; exact BdTo.before HBD.out.drew HX.out HB5.out⟩
  obtain ⟨i, rfl⟩ : ∃ i, at_ = i + 1 := ⟨at_ - 1, by omega⟩
  have hkle : (P.nd (p : Int)).kids.length ≤ P.nodes.length := HL.out.wf.tr.kids_le HSP.out.1
  obtain ⟨kk, hkk⟩ : ∃ kk, (P.nd (p : Int)).kids[i]? = some kk := get_some (by omega)
  obtain ⟨hkh, hkp⟩ := HL.out.wf.tr.down _ HSP.out.1 kk (List.mem_of_getElem? hkk)
  obtain ⟨k, rfl, hxk, hkl⟩ := PS.has_at hkh
  obtain ⟨bk, ok, rfl, k0⟩ := open_at HKS.out hkk
  have hgd : (P.nd (p : Int)).kids.getD i 0 = (k : Int) := by rw [List.getD_eq_getElem?_getD, hkk]; rfl
  have HR2 := Lib.hid (HR1.out.trans (by rw [show (i + 1 - 1) = i from rfl, hgd]))
  obtain ⟨g2, c2, r, e2, hr, hR, hgl, _, hcell⟩ := HP3.out.node hxk
  obtain rfl : g = g2 := by
    injection e2 with e2
    injection e2 with e2
    injection e2
  have n0 : w3.cell? ⟨g, k * 6, none⟩ = some (.int .i64 (P.nd (k : Int)).kind) := (hcell 0 _ rfl).1
  have n3 := (hcell 3 _ rfl).1
  have F3 := Lib.hid (hcell 3 _ rfl).2
  have w1z : IntKind.i64.wrap (((i + 1 : Nat) : Int) - 1) = (i : Int) := by rw [IntWalk.i64_in _ (by have := HL.out.nodes; omega)]; omega
  have w2z : IntKind.i64.wrap ((i : Int) + 1 - 1) = (i : Int) := by rw [IntWalk.i64_in _ (by have := HL.out.nodes; omega)]; omega
  have w3z : IntKind.i64.wrap (i : Int) = (i : Int) := IntWalk.i64_in _ (by have := HL.out.nodes; omega)
  have j1 : (0 : Int) ≤ (i : Int) := by omega
  have j2 : (i : Int) < ((P.nd (p : Int)).kids.length : Int) := by omega
  have j3 : (0 : Int) ≤ (k : Int) := by omega
  have j4 : (k : Int) < (P.nodes.length : Int) := by omega
  have j5 : (0 : Int) < ((i + 1 : Nat) : Int) := by omega
  have HXK := Lib.hid hxk
  have HRP := Lib.hid hr
  have HOK := Lib.hid hR.ok
  have htz : (P.nd (k : Int)).text.size ≤ 9000000 := PS.nd_text HL.out.text k
  have hcz : ¬ 9223372036854775807 < (P.nd (k : Int)).text.size + t.size := by omega
  have HGB : Hid (base ≤ g) := (Own.lt HP3.out.ed.row g rfl).1
  clear hkk hkh hkp hkl hxk hr hR hgl hcell ha0 hgd HR1
  by_cases h3 : (P.nd (k : Int)).kind = 3
  · have HRE := Lib.hid (HR2.out.trans (if_pos ⟨by show 0 < i + 1; omega, h3⟩))
    have e3 : ((P.nd (k : Int)).kind == 3) = true := beq_iff_eq.2 h3
    have HFIN : Hid (∀ v, Below w3.heap.size w3 v → ∀ W, W = v.setCell ⟨g, k * 6 + 3, none⟩ (.string ((P.nd (k : Int)).text ++ t)) → BdTo m wt w W X base Bp R) := by
      intro v hv W hW
      have hpv := HP3.out.next hv
      have hpl := hpv.plain (j := 3) (u := .string ((P.nd (k : Int)).text ++ t)) (y := { P.nd (k : Int) with text := (P.nd (k : Int)).text ++ t }) HXK.out HRP.out (by decide) rfl rfl rfl
        ⟨HOK.out.kind, HOK.out.name, by show ((P.nd (k : Int)).text ++ t).size ≤ _; rw [ByteArray.size_append]; omega, HOK.out.parent, HOK.out.attrs, HOK.out.kids⟩
      rw [← hW] at hpl
      have hbw := HB3.out.trans (hv.mono HB3.out.size)
      refine .of HH.out ⟨?_, ?_, _, _, _, _, by rw [HRE.out]; exact hpl⟩
      · rw [hW]
        exact (hbw.mono (Nat.le_of_lt HH.out.blt)).setCell (p := ⟨g, k * 6 + 3, none⟩) HGB.out _
      · rw [hW]
        exact (KeepT.below hbw).trans (KeepT.own hpv.ed.row (.inr (.inl rfl)) (grown_set v g (k * 6 + 3) _))
    have FV : Hid (∀ v, Below w3.heap.size w3 v → v.frozen? ⟨g, k * 6 + 3, none⟩ = false) := fun v hv => by
      have := F3.out
      unfold World.frozen? at this ⊢
      rw [hv.block g (World.block_lt_of_cell? _ _ n3)]
      exact this
    rw [h3] at n0
    clear HR2 e3 h3 hx
    go_quiet (fail)
    obtain ⟨wd, hwd⟩ : ∃ wd, wd = w3.drew.drewN nq := ⟨_, rfl⟩
    have hbd : Below w3.heap.size w3 wd := by rw [hwd]; exact below_dN ((Below.refl _ _).drew) _
    rw [← hwd]
    have c0 := cell_be c0 hbd
    have b1 := cell_be b1 hbd
    have k0 := cell_be k0 hbd
    have n3 := cell_be n3 hbd
    have HBD := Lib.hid hbd.drew
    have fz := FV.out _ HBD.out
    clear hwd hbd b0 g5 n0 HM HPU
    go_upto_region 5 with fail
    generalize (P.nd (k : Int)).text = tx at *
    generalize P.nodes.length = N at *
    refine wp_region_G (S := (fun w' : World => w'.cell? ⟨X, 0, none⟩ = some (.slice (some ⟨g, 0, none⟩) N cN) ∧ w'.cell? ⟨w2.heap.size, 1, none⟩ = some (.int .i64 ((i + 1 : Nat) : Int)) ∧ w'.cell? ⟨bk, ok + i, none⟩ = some (.int .i64 (k : Int)) ∧ w'.cell? ⟨g, k * 6 + 3, none⟩ = some (.string tx))) (T := [17]) (by kernel_rfl) ?_
    have hS : (fun w' : World => w'.cell? ⟨X, 0, none⟩ = some (.slice (some ⟨g, 0, none⟩) N cN) ∧ w'.cell? ⟨w2.heap.size, 1, none⟩ = some (.int .i64 ((i + 1 : Nat) : Int)) ∧ w'.cell? ⟨bk, ok + i, none⟩ = some (.int .i64 (k : Int)) ∧ w'.cell? ⟨g, k * 6 + 3, none⟩ = some (.string tx)) wd.drew := ⟨c0, b1, k0, n3⟩
    refine wpAnyG_take (i := 0) (v := ?_) rfl (by kernel_rfl) (by kernel_rfl) (by kernel_rfl) (by kernel_rfl) (fun _ _ _ h => h) hS rfl ?_ ?_
    rotate_left
    · intro w' hSw
      (try dsimp only at hSw)
      first | (go_simp; done) | (go_simp; with_reducible rfl)
    refine wpAnyG_take (i := 1) (v := ?_) rfl (by kernel_rfl) (by kernel_rfl) (by kernel_rfl) (by kernel_rfl) (fun _ _ _ h => h) hS rfl ?_ ?_
    rotate_left
    · intro w' hSw
      (try dsimp only at hSw)
      first | (go_simp; done) | (go_simp; with_reducible rfl)
    refine wpAnyG_take (i := 2) (v := ?_) rfl (by kernel_rfl) (by kernel_rfl) (by kernel_rfl) (by kernel_rfl) (fun _ _ _ h => h) hS rfl ?_ ?_
    rotate_left
    · intro w' hSw
      (try dsimp only at hSw)
      first | (go_simp; done) | (go_simp; with_reducible rfl)
    refine wpAnyG_take (i := 3) (v := ?_) rfl (by kernel_rfl) (by kernel_rfl) (by kernel_rfl) (by kernel_rfl) (fun _ _ _ h => h) hS rfl ?_ ?_
    rotate_left
    · intro w' hSw
      (try dsimp only at hSw)
      first | (go_simp; done) | (go_simp; with_reducible rfl)
    refine wpAnyG_take (i := 4) (v := ?_) rfl (by kernel_rfl) (by kernel_rfl) (by kernel_rfl) (by kernel_rfl) (fun _ _ _ h => h) hS rfl ?_ ?_
    rotate_left
    · intro w' hSw
      (try dsimp only at hSw)
      first | (go_simp; done) | (go_simp; with_reducible rfl)
    refine wpAnyG_take (i := 5) (v := ?_) rfl (by kernel_rfl) (by kernel_rfl) (by kernel_rfl) (by kernel_rfl) (fun _ _ _ h => h) hS rfl ?_ ?_
    rotate_left
    · intro w' hSw
      (try dsimp only at hSw)
      first | (go_simp; done) | (go_simp; with_reducible rfl)
    refine wpAnyG_take (i := 6) (v := ?_) rfl (by kernel_rfl) (by kernel_rfl) (by kernel_rfl) (by kernel_rfl) (fun _ _ _ h => h) hS rfl ?_ ?_
    rotate_left
    · intro w' hSw
      (try dsimp only at hSw)
      first | (go_simp; done) | (go_simp; with_reducible rfl)
    refine wpAnyG_take (i := 7) (v := ?_) rfl (by kernel_rfl) (by kernel_rfl) (by kernel_rfl) (by kernel_rfl) (fun _ _ _ h => h) hS rfl ?_ ?_
    rotate_left
    · intro w' hSw
      (try dsimp only at hSw)
      first | (go_simp; done) | (go_simp; with_reducible rfl)
    refine wpAnyG_take (i := 8) (v := ?_) rfl (by kernel_rfl) (by kernel_rfl) (by kernel_rfl) (by kernel_rfl) (fun _ _ _ h => h) hS rfl ?_ ?_
    rotate_left
    · intro w' hSw
      (try dsimp only at hSw)
      first | (go_simp; done) | (go_simp; with_reducible rfl)
    refine wpAnyG_take (i := 9) (v := ?_) rfl (by kernel_rfl) (by kernel_rfl) (by kernel_rfl) (by kernel_rfl) (fun _ _ _ h => h) hS rfl ?_ ?_
    rotate_left
    · intro w' hSw
      (try dsimp only at hSw)
      first | (go_simp; done) | (go_simp; with_reducible rfl)
    refine wpAnyG_take (i := 10) (v := ?_) rfl (by kernel_rfl) (by kernel_rfl) (by kernel_rfl) (by kernel_rfl) (fun _ _ _ h => h) hS rfl ?_ ?_
    rotate_left
    · intro w' hSw
      (try dsimp only at hSw)
      first | (go_simp; done) | (go_simp; with_reducible rfl)
    refine wpAnyG_take (i := 11) (v := ?_) rfl (by kernel_rfl) (by kernel_rfl) (by kernel_rfl) (by kernel_rfl) (fun _ _ _ h => h) hS rfl ?_ ?_
    rotate_left
    · intro w' hSw
      (try dsimp only at hSw)
      first | (go_simp; done) | (go_simp; with_reducible rfl)
    refine wpAnyG_take (i := 12) (v := ?_) rfl (by kernel_rfl) (by kernel_rfl) (by kernel_rfl) (by kernel_rfl) (fun _ _ _ h => h) hS rfl ?_ ?_
    rotate_left
    · intro w' hSw
      (try dsimp only at hSw)
      first | (go_simp; done) | (go_simp; with_reducible rfl)
    refine wpAnyG_take (i := 13) (v := ?_) rfl (by kernel_rfl) (by kernel_rfl) (by kernel_rfl) (by kernel_rfl) (fun _ _ _ h => h) hS rfl ?_ ?_
    rotate_left
    · intro w' hSw
      (try dsimp only at hSw)
      first | (go_simp; done) | (go_simp; with_reducible rfl)
    refine wpAnyG_take (i := 14) (v := ?_) rfl (by kernel_rfl) (by kernel_rfl) (by kernel_rfl) (by kernel_rfl) (fun _ _ _ h => h) hS rfl ?_ ?_
    rotate_left
    · intro w' hSw
      (try dsimp only at hSw)
      first | (go_simp; done) | (go_simp; with_reducible rfl)
    refine wpAnyG_one (i := 15) (by kernel_rfl) rfl rfl (fun K hK => ?_)
    go_simp
    refine hK.out _ _ (fun _ h => h) ?_
    clear hK K
    refine wpAnyG_one (i := 16) (by kernel_rfl) rfl rfl (fun K hK => ?_)
    go_simp
    refine hK.out _ _ (fun _ h => h) ?_
    clear hK K
    refine wpAnyG_one (i := 17) (by kernel_rfl) rfl rfl (fun K hK => ?_)
    go_simp
    refine hK.out _ _ (fun h => absurd (by decide) h) ?_
    clear hK K
    refine wpAnyG_done (by kernel_rfl) ?_ _
    go_wp2_with fail
    exact bodyPost_end (results_none rfl _ _ _) rfl ⟨rfl, HFIN.out _ HBD.out _ rfl⟩
  · have HRE := Lib.hid (HR2.out.trans (if_neg (fun q => h3 q.2)))
    have e3 : ((P.nd (k : Int)).kind == 3) = false := beq_eq_false_iff_ne.2 h3
    clear HR2 h3 hx
    go_quiet (fail)
    clear k0 n0 n3
    obtain ⟨wd, hwd⟩ : ∃ wd, wd = w3.drew.drewN nq := ⟨_, rfl⟩
    have hbd : Below w3.heap.size w3 wd := by rw [hwd]; exact below_dN ((Below.refl _ _).drew) _
    rw [← hwd]
    have HBD := Lib.hid (HB3.out.trans (hbd.mono HB3.out.size))
    have hkd := (hbd.block _ (Array.getElem?_eq_some_iff.1 HK3.out).1).trans HK3.out
    have HKD := Lib.hid hkd
    have s0 := cell_blk (i := 0) (v := .int .i64 (p : Int)) hkd rfl
    have s1 := cell_blk (i := 1) (v := .int .i64 ((i + 1 : Nat) : Int)) hkd rfl
    clear hwd hbd hkd b0 b1 c0 g5
    go_upto_region 2 with fail
    go_region_held3 (fun w' => w'.cell? ⟨w2.heap.size, 0, none⟩ = some (.int .i64 (p : Int)) ∧ w'.cell? ⟨w2.heap.size, 1, none⟩ = some (.int .i64 ((i + 1 : Nat) : Int))) (first | exact ⟨s0, s1⟩ | exact ⟨t0, t1⟩ | exact ⟨q0, q1⟩)
      (first
        | (go_at_call 118; refine (HM.out _ HBD.out.drew).mono ?_; rintro e w4 ⟨rfl, hb4⟩; have HB4 := Lib.hid hb4; have hk4 := hb4.other (b := w2.heap.size) HKD.out (by decide); have t0 := cell_blk (i := 0) (v := .int .i64 (p : Int)) hk4 rfl; have t1 := cell_blk (i := 1) (v := .int .i64 ((i + 1 : Nat) : Int)) hk4 rfl; have HK4 := Lib.hid hk4; clear hk4 hb4)
        | (go_at_call 120; refine (HPU.out _ HB4.out.at_).mono ?_; rintro e w5 ⟨rfl, hb5⟩; have HB5 := Lib.hid (HB4.out.trans hb5); have hk5 := hb5.other (b := w2.heap.size) HK4.out (by decide); have q0 := cell_blk (i := 0) (v := .int .i64 (p : Int)) hk5 rfl; have q1 := cell_blk (i := 1) (v := .int .i64 ((i + 1 : Nat) : Int)) hk5 rfl; clear hk5 hb5)
        | fail)
    go_wp2_with fail
    exact bodyPost_end (results_none rfl _ _ _) rfl ⟨rfl, by rw [HRE.out]; exact BdTo.before HBD.out.drew HX.out HB5.out⟩
end
end Go.Proofs.YtegcedboeemedaaGreatDoor

/-
A token is asked: does it start or end one of a list of names, is it the end of all, which blanks are ahead of its text.
-/
namespace Go.Proofs.YtegcedboeemedaaGreatDoor
open Go.RowKit Go.Cl
attribute [local go_sem ↓] Go.wp_at_zero Go.wp_at_succ
/-- A token's cells. -/
abbrev tkC7 (t : Tk) (A : Option Addr) (n c : Nat) (a z : Int) : Array Value := #[.int .i64 t.kind, .string t.name, .slice A n c, .string t.text, .bool t.self, .int .i64 a, .int .i64 z]
section
variable {m : Int} {wt w w' w2 : World} {X base Bp : Nat} {P Q : PS}
set_option maxRecDepth 100000 in
theorem tokStart_any (t : Tk) (A : Option Addr) (n c : Nat) (a z : Int) (list : ByteArray) (m : Int) (w : World) (hn : t.name.size ≤ 1000000000) (hs : list.size < 4294967281) (hm : w.cell? ⟨0, 0, none⟩ = some (.int .i64 m)) :
    Calls Tryz.prog 228 #[tkV t A n c a z, .string list] w fun e w' => e = .returned (.bool (PS.st t list)) ∧ Below w.heap.size w w' := by
  obtain ⟨w1, hw1⟩ : ∃ w1, w1 = w.alloc (.cells (tkC7 t A n c a z) 170) := ⟨_, rfl⟩
  have hb1 : Below w.heap.size w w1 := by rw [hw1]; exact (Below.refl _ w).alloc (Nat.le_refl _) _
  have hk1 : w1.heap[w.heap.size]? = some (.cells (tkC7 t A n c a z) 170 (0, 0)) := by rw [hw1]; exact heap_alloc_new w _
  have k0 := cell_blk (i := 0) (v := .int .i64 t.kind) hk1 rfl
  have k1 := cell_blk (i := 1) (v := .string t.name) hk1 rfl
  have HO := Lib.hid (one_any t.name list m w1 (by omega) hs (cell_be hm hb1))
  have HB := Lib.hid hb1
  have HR : Hid (PS.st t list = (t.kind == 1 && oneB t.name list)) := rfl
  generalize PS.st t list = r at *
  generalize oneB t.name list = q at *
  clear hk1 hb1 hm hn hs
  by_cases h1 : t.kind = 1
  · have e1 : (t.kind == 1) = true := beq_iff_eq.2 h1
    have HRE := Lib.hid (HR.out.trans (by rw [e1, Bool.true_and]))
    clear h1
    go_enter Tryz.func228, Tryz.ntmps228
    go_upto_region 1 with fail
    rw [← hw1]
    clear hw1
    go_wp2_with (go_at_call 160; refine HO.out.mono ?_; rintro e w2 ⟨rfl, hw2⟩; subst hw2)
    go_ret
    exact ⟨retB HRE.out.symm, HB.out⟩
  · have e1 : (t.kind == 1) = false := beq_eq_false_iff_ne.2 h1
    have HRE := Lib.hid (HR.out.trans (by rw [e1, Bool.false_and]))
    clear h1
    go_enter Tryz.func228, Tryz.ntmps228
    go_upto_region 1 with fail
    rw [← hw1]
    clear hw1
    go_wp2_with fail
    go_ret
    exact ⟨retB HRE.out.symm, HB.out⟩
set_option maxRecDepth 100000 in
theorem tokEnd_any (t : Tk) (A : Option Addr) (n c : Nat) (a z : Int) (list : ByteArray) (m : Int) (w : World) (hn : t.name.size ≤ 1000000000) (hs : list.size < 4294967281) (hm : w.cell? ⟨0, 0, none⟩ = some (.int .i64 m)) :
    Calls Tryz.prog 230 #[tkV t A n c a z, .string list] w fun e w' => e = .returned (.bool (PS.en t list)) ∧ Below w.heap.size w w' := by
  obtain ⟨w1, hw1⟩ : ∃ w1, w1 = w.alloc (.cells (tkC7 t A n c a z) 170) := ⟨_, rfl⟩
  have hb1 : Below w.heap.size w w1 := by rw [hw1]; exact (Below.refl _ w).alloc (Nat.le_refl _) _
  have hk1 : w1.heap[w.heap.size]? = some (.cells (tkC7 t A n c a z) 170 (0, 0)) := by rw [hw1]; exact heap_alloc_new w _
  have k0 := cell_blk (i := 0) (v := .int .i64 t.kind) hk1 rfl
  have k1 := cell_blk (i := 1) (v := .string t.name) hk1 rfl
  have HO := Lib.hid (one_any t.name list m w1 (by omega) hs (cell_be hm hb1))
  have HB := Lib.hid hb1
  have HR : Hid (PS.en t list = (t.kind == 2 && oneB t.name list)) := rfl
  generalize PS.en t list = r at *
  generalize oneB t.name list = q at *
  clear hk1 hb1 hm hn hs
  by_cases h1 : t.kind = 2
  · have e1 : (t.kind == 2) = true := beq_iff_eq.2 h1
    have HRE := Lib.hid (HR.out.trans (by rw [e1, Bool.true_and]))
    clear h1
    go_enter Tryz.func230, Tryz.ntmps230
    go_upto_region 1 with fail
    rw [← hw1]
    clear hw1
    go_wp2_with (go_at_call 160; refine HO.out.mono ?_; rintro e w2 ⟨rfl, hw2⟩; subst hw2)
    go_ret
    exact ⟨retB HRE.out.symm, HB.out⟩
  · have e1 : (t.kind == 2) = false := beq_eq_false_iff_ne.2 h1
    have HRE := Lib.hid (HR.out.trans (by rw [e1, Bool.false_and]))
    clear h1
    go_enter Tryz.func230, Tryz.ntmps230
    go_upto_region 1 with fail
    rw [← hw1]
    clear hw1
    go_wp2_with fail
    go_ret
    exact ⟨retB HRE.out.symm, HB.out⟩
set_option maxRecDepth 100000 in
theorem tokOver_any (t : Tk) (A : Option Addr) (n c : Nat) (a z : Int) (w : World) :
    Calls Tryz.prog 237 #[tkV t A n c a z] w fun e w' => e = .returned (.bool (PS.over t)) ∧ Below w.heap.size w w' := by
  obtain ⟨w1, hw1⟩ : ∃ w1, w1 = w.alloc (.cells (tkC7 t A n c a z) 170) := ⟨_, rfl⟩
  have hb1 : Below w.heap.size w w1 := by rw [hw1]; exact (Below.refl _ w).alloc (Nat.le_refl _) _
  have hk1 : w1.heap[w.heap.size]? = some (.cells (tkC7 t A n c a z) 170 (0, 0)) := by rw [hw1]; exact heap_alloc_new w _
  have k0 := cell_blk (i := 0) (v := .int .i64 t.kind) hk1 rfl
  have HB := Lib.hid hb1
  have HR : Hid (PS.over t = (t.kind == 0)) := rfl
  generalize PS.over t = r at *
  clear hk1 hb1
  go_enter Tryz.func237, Tryz.ntmps237
  go_upto_region 1 with fail
  rw [← hw1]
  clear hw1
  go_wp2_with fail
  go_ret
  exact ⟨retB HR.out.symm, HB.out⟩
theorem bl_is (b : UInt8) : ([32, 9, 10, 12, 13] : List UInt8).contains b = blankB b := by
  have h : ∀ n : Fin 256, ([32, 9, 10, 12, 13] : List UInt8).contains (UInt8.ofNat n.val) = blankB (UInt8.ofNat n.val) := by decide +kernel
  have h2 := h ⟨b.toNat, b.toNat_lt⟩
  simpa using h2
theorem trim_blank (l : List UInt8) : Lib.trimLeftS l [32, 9, 10, 12, 13] = l.dropWhile blankB := by
  unfold Lib.trimLeftS
  congr 1
  funext b
  exact bl_is b
theorem head_rest (l : List UInt8) : (l.takeWhile blankB).length + (l.dropWhile blankB).length = l.length := by
  have := congrArg List.length (List.takeWhile_append_dropWhile (p := blankB) (l := l))
  rwa [List.length_append] at this
set_option maxRecDepth 100000 in
theorem blanks_any (t : Tk) (A : Option Addr) (n c : Nat) (a z : Int) (w : World) (ht : t.text.size ≤ 1000000000) :
    Calls Tryz.prog 154 #[tkV t A n c a z] w fun e w' => e = .returned (.tuple #[.string (bs (PS.headT t)), .string (bs (PS.restT t))]) ∧ Below w.heap.size w w' := by
  obtain ⟨w1, hw1⟩ : ∃ w1, w1 = w.alloc (.cells (tkC7 t A n c a z) 170) := ⟨_, rfl⟩
  have hb1 : Below w.heap.size w w1 := by rw [hw1]; exact (Below.refl _ w).alloc (Nat.le_refl _) _
  have hk1 : w1.heap[w.heap.size]? = some (.cells (tkC7 t A n c a z) 170 (0, 0)) := by rw [hw1]; exact heap_alloc_new w _
  have k0 := cell_blk (i := 0) (v := .int .i64 t.kind) hk1 rfl
  have k3 := cell_blk (i := 3) (v := .string t.text) hk1 rfl
  have HB := Lib.hid hb1
  have HK := Lib.hid hk1
  clear hk1 hb1
  by_cases h1 : t.kind = 3
  · have e1 : (t.kind != 3) = false := by simp [h1]
    have HH : Hid (PS.headT t = t.text.data.toList.takeWhile blankB) := if_pos h1
    have HE : Hid (PS.restT t = t.text.data.toList.dropWhile blankB) := if_pos h1
    clear h1
    generalize PS.headT t = hd at *
    generalize PS.restT t = re at *
    obtain ⟨tS, htS⟩ : ∃ tS : ByteArray, tS = ⟨(t.text.data.toList.dropWhile blankB).toArray⟩ := ⟨_, rfl⟩
    have htl : tS.data.toList = t.text.data.toList.dropWhile blankB := by rw [htS]
    have htz : tS.size = (t.text.data.toList.dropWhile blankB).length := by rw [← htl]; simp
    have HTL := Lib.hid (fun u : World => (show Calls Tryz.prog 26 #[.string t.text, .string ⟨#[32, 9, 10, 12, 13]⟩] u fun e w' => e = .returned (.string tS) ∧ Below u.heap.size u w' from by
      rw [htS, ← trim_blank]
      exact Any.strings_TrimLeft_laid Tryz.laysTrimL (by kernel_rfl) t.text ⟨#[32, 9, 10, 12, 13]⟩ u (by decide) (ascii_of_all (by decide))))
    have hsz : t.text.size = t.text.data.toList.length := by simp
    have hhr := head_rest t.text.data.toList
    have hle : tS.size ≤ t.text.size := by omega
    have HCUT : Hid (t.text.extract 0 (t.text.size - tS.size) = bs (t.text.data.toList.takeWhile blankB)) := by
      show _ = _
      refine bs_of ?_
      rw [ByteArray.data_extract, Array.toList_extract]
      have e : t.text.size - tS.size = (t.text.data.toList.takeWhile blankB).length := by omega
      rw [e]
      simp
      exact (List.prefix_iff_eq_take.1 (List.takeWhile_prefix blankB)).symm
    have HTS := Lib.hid htS
    clear htS htl htz hsz hhr
    go_enter Tryz.func154, Tryz.ntmps154
    go_upto_region 1 with fail
    rw [← hw1]
    clear hw1
    go_upto_region 4 with (go_at_call 26; refine (HTL.out _).mono ?_; rintro e w2 ⟨rfl, hb2⟩; have HB2 := Lib.hid hb2; have k32 := cell_be k3 hb2; clear hb2)
    clear k3 k0
    have wz : IntKind.i64.wrap ((t.text.size : Int) - (tS.size : Int)) = ((t.text.size - tS.size : Nat) : Int) := by rw [IntWalk.i64_in _ (by omega)]; omega
    have q1 : (0 : Int) ≤ ((t.text.size - tS.size : Nat) : Int) := by omega
    have q2 : ((t.text.size - tS.size : Nat) : Int) ≤ (t.text.size : Int) := by omega
    go_wp2_with fail
    go_ret2
    exact ⟨by rw [HH.out, HE.out, HCUT.out, HTS.out]; rfl, HB.out.trans (HB2.out.mono HB.out.size)⟩
  · have e1 : (t.kind != 3) = true := by simp [h1]
    have HH : Hid (PS.headT t = []) := if_neg h1
    have HE : Hid (PS.restT t = []) := if_neg h1
    clear h1
    generalize PS.headT t = hd at *
    generalize PS.restT t = re at *
    go_enter Tryz.func154, Tryz.ntmps154
    go_upto_region 1 with fail
    rw [← hw1]
    clear hw1
    go_wp2_with fail
    go_ret2
    exact ⟨by rw [HH.out, HE.out]; rfl, HB.out⟩
end
end Go.Proofs.YtegcedboeemedaaGreatDoor

/-
Popping: until a name, clear to a name, implied ends, a paragraph's end; scopes.
-/
namespace Go.Proofs.YtegcedboeemedaaGreatDoor
open Go.RowKit Go.Cl
attribute [local go_sem ↓] Go.wp_at_zero Go.wp_at_succ
section
variable {m : Int} {wt w w' w2 : World} {X base Bp : Nat} {P Q : PS}
theorem PS.Ok.pop (h : P.Ok) : P.pop.Ok := by
  unfold PS.pop
  split
  · rename_i h1
    refine ⟨?_, fun e => ?_, fun n hn => h.in_ n (List.dropLast_subset _ hn)⟩
    · show P.opens.dropLast.length ≤ _
      rw [List.length_dropLast]
      have := h.few
      omega
    · have : P.opens.dropLast.length = 0 := by rw [show P.opens.dropLast = [] from e]; rfl
      rw [List.length_dropLast] at this
      omega
  · exact h
theorem pop_less (h : 1 < P.opens.length) : P.pop.opens.length + 1 = P.opens.length := by
  unfold PS.pop
  rw [if_pos h]
  show P.opens.dropLast.length + 1 = _
  rw [List.length_dropLast]
  omega
/-- How much is open, as it stands in the box. -/
def openN (w : World) (X : Nat) : Nat := match w.cell? ⟨X, 1, none⟩ with
  | some (.slice _ n _) => n
  | _ => 0
theorem BdAt.c1 (h : BdAt m wt w X base Bp P) (hl : P.opens.length ≤ 1000000000) : ∃ A c, w.cell? ⟨X, 1, none⟩ = some (.slice A P.opens.length c) := by
  obtain ⟨nV, oV, iV, ps, hp⟩ := h.mem
  obtain ⟨A, c, rfl, _⟩ := hp.opens_sl hl
  exact ⟨A, c, hp.cell 1 (v := .slice A P.opens.length c) rfl⟩
theorem BdAt.openN (h : BdAt m wt w X base Bp P) (hl : P.opens.length ≤ 1000000000) : openN w X = P.opens.length := by
  obtain ⟨A, c, e⟩ := h.c1 hl
  unfold Go.Proofs.YtegcedboeemedaaGreatDoor.openN
  rw [e]
theorem BdAt.current_small (h : BdAt m wt w X base Bp P) (ho : P.Ok) : P.current.size ≤ 1152921504606846976 := by
  refine h.name_small (ho.in_ _ ?_)
  unfold PS.top
  rw [List.getLastD_eq_getLast?, List.getLast?_eq_some_getLast ho.one]
  exact List.getLast_mem ho.one
set_option maxRecDepth 100000 in
theorem clear_at (h : BdAt m wt w X base Bp P) (ho : P.Ok) (list : ByteArray) (hli : list.size < 4294967281) :
    Calls Tryz.prog 250 #[.pointer (some ⟨X, 0, none⟩), .string list] w fun e w' => e = .returned (.tuple #[]) ∧ BdTo m wt w w' X base Bp (P.clear list) := by
  have HST : Hid (BdTo m wt w w X base Bp P ∧ P.Ok ∧ P.clear list = PS.clearN P.opens.length list P) := ⟨.refl h, ho, rfl⟩
  generalize P.clear list = R at *
  clear h ho
  go_enter Tryz.func250, Tryz.ntmps250
  go_wp2_with fail
  go_loopw [] (fun wr => ∃ Q : PS, BdTo m wt w wr X base Bp Q ∧ Q.Ok ∧ R = PS.clearN Q.opens.length list Q) (fun wr => openN wr X)
  case atStart => exact ⟨P, HST.out⟩
  case round =>
    clear HST
    obtain ⟨Q, hto, hok, hR⟩ := hrel
    have HM := Lib.hid (hto.at_.openN hok.few)
    obtain ⟨A, c, c1⟩ := hto.at_.c1 hok.few
    obtain ⟨k, hk⟩ : ∃ k, Q.opens.length = k + 1 := ⟨Q.opens.length - 1, by have := List.length_pos_iff.2 hok.one; omega⟩
    have HR := Lib.hid (hR.trans (by rw [hk, PS.clearN]))
    have HTO := Lib.hid hto
    have HOK := Lib.hid hok
    have HK := Lib.hid hk
    clear hto hok hR
    rw [hk] at c1
    by_cases h1 : 1 < k + 1
    · have i1 : (1 : Int) < ((k + 1 : Nat) : Int) := by omega
      have i2 : (1 : Int) < (k : Int) + 1 := by omega
      have HLS := Lib.hid (pop_less (P := Q) (by rw [hk]; exact h1))
      cases hq : oneB Q.current list with
      | true =>
        have HR2 := Lib.hid (HR.out.trans (if_neg (by rw [hq]; simp)))
        have HQ := Lib.hid hq
        clear hq hk h1
        go_wp2_with (first
          | (go_at_call 242; refine (current_at HTO.out.at_ HOK.out).mono ?_; rintro e w2 ⟨rfl, hb2⟩; have HT2 := Lib.hid (HTO.out.next hb2); clear hb2 c1)
          | (go_at_call 160; refine (one_any _ list m w2 (HTO.out.at_.current_small HOK.out) hli HT2.out.at_.len).mono ?_; rintro e w4 ⟨rfl, hw4⟩; subst hw4; rw [HQ.out])
          | fail)
        go_returns
        exact ⟨rfl, by rw [HR2.out]; exact HT2.out⟩
      | false =>
        have HR2 := Lib.hid (HR.out.trans (if_pos ⟨by rw [hk]; exact h1, hq⟩))
        have HQ := Lib.hid hq
        clear hq hk h1
        go_wp2_with (first
          | (go_at_call 242; refine (current_at HTO.out.at_ HOK.out).mono ?_; rintro e w2 ⟨rfl, hb2⟩; have HT2 := Lib.hid (HTO.out.next hb2); clear hb2 c1)
          | (go_at_call 160; refine (one_any _ list m w2 (HTO.out.at_.current_small HOK.out) hli HT2.out.at_.len).mono ?_; rintro e w4 ⟨rfl, hw4⟩; subst hw4; rw [HQ.out])
          | (go_at_call 236; refine (pop_at HT2.out.at_ HOK.out).mono ?_; rintro e w3 ⟨rfl, hb3⟩; have HT3 := Lib.hid (HT2.out.trans hb3); clear hb3)
          | fail)
        go_roundw
        case rel => exact ⟨Q.pop, HT3.out, HOK.out.pop, by rw [HR2.out, show Q.pop.opens.length = k from by have := HLS.out; have := HK.out; omega]⟩
        case measure =>
          rw [HM.out, HT3.out.at_.openN HOK.out.pop.few]
          have := HLS.out
          omega
    · have HR1 := Lib.hid (HR.out.trans (if_neg (fun k => h1 (by rw [HK.out] at k; exact k.1))))
      have i1 : ¬ (1 : Int) < ((k + 1 : Nat) : Int) := by omega
      have i2 : ¬ (1 : Int) < (k : Int) + 1 := by omega
      clear h1 hk
      go_wp2_with fail
      exact bodyPost_end (results_none rfl _ _ _) rfl ⟨rfl, by rw [HR1.out]; exact HTO.out⟩
end
end Go.Proofs.YtegcedboeemedaaGreatDoor

/-
The parser's own small functions: to a mode, html, formatting that has none to be made again, an element without kids.
-/
namespace Go.Proofs.YtegcedboeemedaaGreatDoor
open Go.RowKit Go.Cl
attribute [local go_sem ↓] Go.wp_at_zero Go.wp_at_succ
section
variable {m : Int} {wt w w' w2 : World} {X base Bp : Nat} {P Q : PS}
theorem BdAt.tk (h : BdAt m wt w X base Bp P) {t : Tk} {A : Option Addr} {n c : Nat} (ht : TkAt wt Bp t A n c) : Sl tDA w (Cl.lt w.heap.size) A n c t.attrs := by
  obtain ⟨nV, oV, iV, ps, hp⟩ := h.mem
  exact (hp.tk ht.attrs).more fun b hb => Nat.lt_of_lt_of_le hb.2 hp.ht
set_option maxRecDepth 100000 in
theorem to_at (h : BdAt m wt w X base Bp P) (mode : Int) (again : Bool) :
    Calls Tryz.prog 227 #[.pointer (some ⟨X, 0, none⟩), .int .i64 mode, .bool again] w fun e w' => e = .returned (.bool again) ∧ BdTo m wt w w' X base Bp { P with mode := mode } := by
  have HS := Lib.hid (h.store (i := 4) (v := .int .i64 mode) (Q := { P with mode := mode }) (fun _ _ _ => rfl) rfl rfl rfl)
  have c4 := h.cell 4 (v := .int .i64 P.mode) (fun _ _ _ => rfl)
  have f4 := h.fr 4
  clear h
  go_enter Tryz.func227, Tryz.ntmps227
  go_wp2_with fail
  go_ret
  exact ⟨rfl, HS.out⟩
theorem nil_opens (h : BdAt m wt w X base Bp P) : BdTo m wt w (w.setCell ⟨X, 1, none⟩ (.slice none 0 0)) X base Bp { P with opens := [] } := by
  obtain ⟨nV, oV, iV, ps, hp⟩ := h.mem
  have h1 := hp.opens (grown_refl w _) (v := .slice none 0 0) (xs := []) (OwnF.nil _ _ _) (.inr (.inl rfl))
  exact .of h ⟨below_box w X 1 _ hp.hX, KeepT.box hp 1 _, _, _, _, _, h1⟩
set_option maxRecDepth 100000 in
theorem html_at (h : BdAt m wt w X base Bp P) (hl : P.Lim 9000000) {A : Option Addr} {n c : Nat} {ats : List DAttr} (hat : ∀ v, BdAt m wt v X base Bp { P with opens := [] } → Sl tDA v (lt v.heap.size) A n c ats) (hfew : ats.length ≤ 1000000000) :
    Calls Tryz.prog 229 #[.pointer (some ⟨X, 0, none⟩), .slice A n c] w fun e w' => e = .returned (.tuple #[]) ∧ BdTo m wt w w' X base Bp (P.html ats) := by
  have hS := nil_opens h
  obtain ⟨w1, hw1⟩ : ∃ w1, w1 = w.setCell ⟨X, 1, none⟩ (.slice none 0 0) := ⟨_, rfl⟩
  rw [← hw1] at hS
  have HS := Lib.hid hS
  have hats : Sl tDA w1 (lt w1.heap.size) A n c ats := hat w1 hS.at_
  have HB := Lib.hid (fun (v : World) (hv : Below w1.heap.size w1 v) => behind_at (hS.at_.next hv) (n := 0) (by exact hl.wf.zero))
  have HE := Lib.hid (fun (v : World) (hv : Below w1.heap.size w1 v) => element_at (hS.at_.next hv) (s := PS.behind { P with opens := [] } 0) (hl.wf.tr.same rfl) hl.wf.zero (by have := hl.nodes; show P.nodes.length ≤ _; omega) (Nat.zero_le _) (PS.spot_behind hl.wf.zero) (⟨#[104, 116, 109, 108]⟩ : ByteArray) (by decide) ((hats.below hv (Nat.le_refl _)).up hv.size) hfew)
  have HR : Hid (P.html ats = PS.element { P with opens := [] } (PS.behind { P with opens := [] } 0) (⟨#[104, 116, 109, 108]⟩ : ByteArray) ats) := rfl
  obtain ⟨A1, c1', c1⟩ := h.c1 (by have := hl.opens; omega)
  have f1 := h.fr 1
  clear h hl hat hats hS
  generalize P.html ats = R at *
  generalize PS.behind { P with opens := [] } 0 = s at *
  go_enter Tryz.func229, Tryz.ntmps229
  go_upto_region 1 with fail
  rw [← hw1]
  clear hw1 c1 f1
  go_region_held3 (fun _ => True) (trivial)
    (first
      | (go_at_call 226; refine (HB.out _ (Below.refl _ _).drew).mono ?_; rintro e w2 ⟨rfl, hb2⟩; have HB2 := Lib.hid (((Below.refl _ w1).drew).trans hb2); clear hb2)
      | (go_at_call 84; refine (HE.out _ HB2.out).mono ?_; rintro e w3 ⟨rfl, hb3⟩; have HB3 := Lib.hid (HS.out.trans (BdTo.before HB2.out HS.out.at_.lt hb3)); clear hb3)
      | fail)
  go_wp2_with fail
  exact bodyPost_end (results_none rfl _ _ _) rfl ⟨rfl, by rw [HR.out]; exact HB3.out⟩
/-- Nothing is to be made again. -/
theorem reopen_no (h : BdAt m wt w X base Bp P) (hl : P.Lim 9000000) (hit : P.items.length ≤ 1000000) (hm : missRev P.opens P.items.reverse = P.items.length) :
    Calls Tryz.prog 239 #[.pointer (some ⟨X, 0, none⟩)] w fun e w' => e = .returned (.tuple #[]) ∧ BdTo m wt w w' X base Bp P := by
  obtain ⟨nV, oV, iV, ps, hp⟩ := h.mem
  obtain ⟨AO, cO, rfl, hso⟩ := hp.opens_sl (by have := hl.opens; omega)
  obtain ⟨AI, cI, rfl⟩ := Own.form hp.it
  have hsi : Sl tItem w (lt w.heap.size) AI P.items.length cI P.items := (hp.it.sl (by decide) (by show _ * 48 ≤ _; omega)).more fun b hb => by
    rcases hb with hb | hb
    · exact Nat.lt_of_lt_of_le hb.2 hp.ht
    · exact hb.2
  have HM := Lib.hid (fun (v : World) (hv : Below w.heap.size w v) => missing_any AI P.items.length cI P.items AO P.opens.length cO P.opens v v.heap.size ((hsi.below hv (Nat.le_refl _)).up hv.size) ((hso.below hv (Nat.le_refl _)).up hv.size) (Nat.le_refl _))
  rw [hm] at HM
  have c1 := hp.cell 1 (v := .slice AO P.opens.length cO) rfl
  have c2 := hp.cell 2 (v := .slice AI P.items.length cI) rfl
  have HH := Lib.hid h
  have i1 : ¬ (P.items.length : Int) < (P.items.length : Int) := by omega
  clear h hl hm hsi hso hp
  generalize P.items.length = ni at *
  generalize P.opens.length = no at *
  go_enter Tryz.func239, Tryz.ntmps239
  go_upto_region 0 with fail
  go_region_held3 (fun w' => w'.cell? ⟨X, 1, none⟩ = some (.slice AO no cO) ∧ w'.cell? ⟨X, 2, none⟩ = some (.slice AI ni cI)) (first | exact ⟨c1, c2⟩ | exact ⟨d1, d2⟩)
    (first
      | (go_at_call 277; refine (HM.out _ (Below.refl _ _).drew).mono ?_; rintro e w1 ⟨rfl, hb1⟩; have hb1d := ((Below.refl _ w).drew).trans hb1; have d1 := cell_be c1 hb1d; have d2 := cell_be c2 hb1d; have HB1 := Lib.hid hb1d; clear hb1 hb1d)
      | fail)
  clear c1 c2
  go_wp2_with fail
  go_loopw [2] (fun i wr => i = .int .i64 (ni : Int) ∧ Below w.heap.size w wr ∧ wr.cell? ⟨X, 2, none⟩ = some (.slice AI ni cI)) (fun _ _ => 0)
  case atStart => exact ⟨rfl, HB1.out, d2⟩
  case round =>
    obtain ⟨rfl, hb2, e2⟩ := hrel
    have HB2 := Lib.hid hb2
    clear hb2 d1 d2
    go_wp2_with fail
    exact bodyPost_end (results_none rfl _ _ _) rfl ⟨rfl, HH.out.to HB2.out⟩
end
end Go.Proofs.YtegcedboeemedaaGreatDoor

/-
A token is taken by a mode; one token, as often as it is to be taken; all tokens, and the end (printed by gen/bdone.py).
-/
namespace Go.Proofs.YtegcedboeemedaaGreatDoor
open Go.RowKit Go.Cl
attribute [local go_sem ↓] Go.wp_at_zero Go.wp_at_succ
section
variable {m : Int} {wt w w' w2 : World} {X base Bp : Nat} {P Q : PS}
set_option maxRecDepth 100000 in
theorem take0_at (h : BdAt m wt w X base Bp P) {t : Tk} {A : Option Addr} {n c : Nat} (a z : Int) {r : Bool} {Q : PS} (hc : ∀ v, BdAt m wt v X base Bp P → Calls Tryz.prog 187 #[.pointer (some ⟨X, 0, none⟩), tkV t A n c a z] v fun e w' => e = .returned (.bool r) ∧ BdTo m wt v w' X base Bp Q) :
    Calls Tryz.prog 156 #[.pointer (some ⟨X, 0, none⟩), .int .i64 0, tkV t A n c a z] w fun e w' => e = .returned (.bool r) ∧ BdTo m wt w w' X base Bp Q := by
  obtain ⟨w1, hw1⟩ : ∃ w1, w1 = w.alloc (.cells (tkC7 t A n c a z) 170) := ⟨_, rfl⟩
  have hb1 : Below w.heap.size w w1 := by rw [hw1]; exact (Below.refl _ w).alloc (Nat.le_refl _) _
  have hk1 : w1.heap[w.heap.size]? = some (.cells (tkC7 t A n c a z) 170 (0, 0)) := by rw [hw1]; exact heap_alloc_new w _
  have T1 := Lib.hid (h.to hb1)
  have HC := Lib.hid hc
  have a1_0 := cell_blk (i := 0) (v := .int .i64 t.kind) hk1 rfl
  have a1_1 := cell_blk (i := 1) (v := .string t.name) hk1 rfl
  have a1_2 := cell_blk (i := 2) (v := .slice A n c) hk1 rfl
  have a1_3 := cell_blk (i := 3) (v := .string t.text) hk1 rfl
  have a1_4 := cell_blk (i := 4) (v := .bool t.self) hk1 rfl
  have a1_5 := cell_blk (i := 5) (v := .int .i64 a) hk1 rfl
  have a1_6 := cell_blk (i := 6) (v := .int .i64 z) hk1 rfl
  clear h hc hk1 hb1
  go_enter Tryz.func156, Tryz.ntmps156
  go_upto_region 1 with fail
  rw [← hw1]
  clear hw1
  go_wp2_with (go_at_call 187; refine (HC.out _ T1.out.at_).mono ?_; rintro e w2 ⟨rfl, hb⟩; have T2 := Lib.hid (T1.out.trans hb); clear hb)
  go_ret
  exact ⟨rfl, T2.out⟩
set_option maxRecDepth 100000 in
theorem take1_at (h : BdAt m wt w X base Bp P) {t : Tk} {A : Option Addr} {n c : Nat} (a z : Int) {r : Bool} {Q : PS} (hc : ∀ v, BdAt m wt v X base Bp P → Calls Tryz.prog 188 #[.pointer (some ⟨X, 0, none⟩), tkV t A n c a z] v fun e w' => e = .returned (.bool r) ∧ BdTo m wt v w' X base Bp Q) :
    Calls Tryz.prog 156 #[.pointer (some ⟨X, 0, none⟩), .int .i64 1, tkV t A n c a z] w fun e w' => e = .returned (.bool r) ∧ BdTo m wt w w' X base Bp Q := by
  obtain ⟨w1, hw1⟩ : ∃ w1, w1 = w.alloc (.cells (tkC7 t A n c a z) 170) := ⟨_, rfl⟩
  have hb1 : Below w.heap.size w w1 := by rw [hw1]; exact (Below.refl _ w).alloc (Nat.le_refl _) _
  have hk1 : w1.heap[w.heap.size]? = some (.cells (tkC7 t A n c a z) 170 (0, 0)) := by rw [hw1]; exact heap_alloc_new w _
  have T1 := Lib.hid (h.to hb1)
  have HC := Lib.hid hc
  have a1_0 := cell_blk (i := 0) (v := .int .i64 t.kind) hk1 rfl
  have a1_1 := cell_blk (i := 1) (v := .string t.name) hk1 rfl
  have a1_2 := cell_blk (i := 2) (v := .slice A n c) hk1 rfl
  have a1_3 := cell_blk (i := 3) (v := .string t.text) hk1 rfl
  have a1_4 := cell_blk (i := 4) (v := .bool t.self) hk1 rfl
  have a1_5 := cell_blk (i := 5) (v := .int .i64 a) hk1 rfl
  have a1_6 := cell_blk (i := 6) (v := .int .i64 z) hk1 rfl
  clear h hc hk1 hb1
  go_enter Tryz.func156, Tryz.ntmps156
  go_upto_region 1 with fail
  rw [← hw1]
  clear hw1
  go_wp2_with (go_at_call 188; refine (HC.out _ T1.out.at_).mono ?_; rintro e w2 ⟨rfl, hb⟩; have T2 := Lib.hid (T1.out.trans hb); clear hb)
  go_ret
  exact ⟨rfl, T2.out⟩
set_option maxRecDepth 100000 in
theorem take2_at (h : BdAt m wt w X base Bp P) {t : Tk} {A : Option Addr} {n c : Nat} (a z : Int) {r : Bool} {Q : PS} (hc : ∀ v, BdAt m wt v X base Bp P → Calls Tryz.prog 189 #[.pointer (some ⟨X, 0, none⟩), tkV t A n c a z] v fun e w' => e = .returned (.bool r) ∧ BdTo m wt v w' X base Bp Q) :
    Calls Tryz.prog 156 #[.pointer (some ⟨X, 0, none⟩), .int .i64 2, tkV t A n c a z] w fun e w' => e = .returned (.bool r) ∧ BdTo m wt w w' X base Bp Q := by
  obtain ⟨w1, hw1⟩ : ∃ w1, w1 = w.alloc (.cells (tkC7 t A n c a z) 170) := ⟨_, rfl⟩
  have hb1 : Below w.heap.size w w1 := by rw [hw1]; exact (Below.refl _ w).alloc (Nat.le_refl _) _
  have hk1 : w1.heap[w.heap.size]? = some (.cells (tkC7 t A n c a z) 170 (0, 0)) := by rw [hw1]; exact heap_alloc_new w _
  have T1 := Lib.hid (h.to hb1)
  have HC := Lib.hid hc
  have a1_0 := cell_blk (i := 0) (v := .int .i64 t.kind) hk1 rfl
  have a1_1 := cell_blk (i := 1) (v := .string t.name) hk1 rfl
  have a1_2 := cell_blk (i := 2) (v := .slice A n c) hk1 rfl
  have a1_3 := cell_blk (i := 3) (v := .string t.text) hk1 rfl
  have a1_4 := cell_blk (i := 4) (v := .bool t.self) hk1 rfl
  have a1_5 := cell_blk (i := 5) (v := .int .i64 a) hk1 rfl
  have a1_6 := cell_blk (i := 6) (v := .int .i64 z) hk1 rfl
  clear h hc hk1 hb1
  go_enter Tryz.func156, Tryz.ntmps156
  go_upto_region 1 with fail
  rw [← hw1]
  clear hw1
  go_wp2_with (go_at_call 189; refine (HC.out _ T1.out.at_).mono ?_; rintro e w2 ⟨rfl, hb⟩; have T2 := Lib.hid (T1.out.trans hb); clear hb)
  go_ret
  exact ⟨rfl, T2.out⟩
set_option maxRecDepth 100000 in
theorem take3_at (h : BdAt m wt w X base Bp P) {t : Tk} {A : Option Addr} {n c : Nat} (a z : Int) {r : Bool} {Q : PS} (hc : ∀ v, BdAt m wt v X base Bp P → Calls Tryz.prog 190 #[.pointer (some ⟨X, 0, none⟩), tkV t A n c a z] v fun e w' => e = .returned (.bool r) ∧ BdTo m wt v w' X base Bp Q) :
    Calls Tryz.prog 156 #[.pointer (some ⟨X, 0, none⟩), .int .i64 3, tkV t A n c a z] w fun e w' => e = .returned (.bool r) ∧ BdTo m wt w w' X base Bp Q := by
  obtain ⟨w1, hw1⟩ : ∃ w1, w1 = w.alloc (.cells (tkC7 t A n c a z) 170) := ⟨_, rfl⟩
  have hb1 : Below w.heap.size w w1 := by rw [hw1]; exact (Below.refl _ w).alloc (Nat.le_refl _) _
  have hk1 : w1.heap[w.heap.size]? = some (.cells (tkC7 t A n c a z) 170 (0, 0)) := by rw [hw1]; exact heap_alloc_new w _
  have T1 := Lib.hid (h.to hb1)
  have HC := Lib.hid hc
  have a1_0 := cell_blk (i := 0) (v := .int .i64 t.kind) hk1 rfl
  have a1_1 := cell_blk (i := 1) (v := .string t.name) hk1 rfl
  have a1_2 := cell_blk (i := 2) (v := .slice A n c) hk1 rfl
  have a1_3 := cell_blk (i := 3) (v := .string t.text) hk1 rfl
  have a1_4 := cell_blk (i := 4) (v := .bool t.self) hk1 rfl
  have a1_5 := cell_blk (i := 5) (v := .int .i64 a) hk1 rfl
  have a1_6 := cell_blk (i := 6) (v := .int .i64 z) hk1 rfl
  clear h hc hk1 hb1
  go_enter Tryz.func156, Tryz.ntmps156
  go_upto_region 1 with fail
  rw [← hw1]
  clear hw1
  go_wp2_with (go_at_call 190; refine (HC.out _ T1.out.at_).mono ?_; rintro e w2 ⟨rfl, hb⟩; have T2 := Lib.hid (T1.out.trans hb); clear hb)
  go_ret
  exact ⟨rfl, T2.out⟩
set_option maxRecDepth 100000 in
theorem take5_at (h : BdAt m wt w X base Bp P) {t : Tk} {A : Option Addr} {n c : Nat} (a z : Int) {r : Bool} {Q : PS} (hc : ∀ v, BdAt m wt v X base Bp P → Calls Tryz.prog 192 #[.pointer (some ⟨X, 0, none⟩), tkV t A n c a z] v fun e w' => e = .returned (.bool r) ∧ BdTo m wt v w' X base Bp Q) :
    Calls Tryz.prog 156 #[.pointer (some ⟨X, 0, none⟩), .int .i64 5, tkV t A n c a z] w fun e w' => e = .returned (.bool r) ∧ BdTo m wt w w' X base Bp Q := by
  obtain ⟨w1, hw1⟩ : ∃ w1, w1 = w.alloc (.cells (tkC7 t A n c a z) 170) := ⟨_, rfl⟩
  have hb1 : Below w.heap.size w w1 := by rw [hw1]; exact (Below.refl _ w).alloc (Nat.le_refl _) _
  have hk1 : w1.heap[w.heap.size]? = some (.cells (tkC7 t A n c a z) 170 (0, 0)) := by rw [hw1]; exact heap_alloc_new w _
  have T1 := Lib.hid (h.to hb1)
  have HC := Lib.hid hc
  have a1_0 := cell_blk (i := 0) (v := .int .i64 t.kind) hk1 rfl
  have a1_1 := cell_blk (i := 1) (v := .string t.name) hk1 rfl
  have a1_2 := cell_blk (i := 2) (v := .slice A n c) hk1 rfl
  have a1_3 := cell_blk (i := 3) (v := .string t.text) hk1 rfl
  have a1_4 := cell_blk (i := 4) (v := .bool t.self) hk1 rfl
  have a1_5 := cell_blk (i := 5) (v := .int .i64 a) hk1 rfl
  have a1_6 := cell_blk (i := 6) (v := .int .i64 z) hk1 rfl
  clear h hc hk1 hb1
  go_enter Tryz.func156, Tryz.ntmps156
  go_upto_region 1 with fail
  rw [← hw1]
  clear hw1
  go_wp2_with (go_at_call 192; refine (HC.out _ T1.out.at_).mono ?_; rintro e w2 ⟨rfl, hb⟩; have T2 := Lib.hid (T1.out.trans hb); clear hb)
  go_ret
  exact ⟨rfl, T2.out⟩
set_option maxRecDepth 100000 in
theorem take6_at (h : BdAt m wt w X base Bp P) {t : Tk} {A : Option Addr} {n c : Nat} (a z : Int) {r : Bool} {Q : PS} (hc : ∀ v, BdAt m wt v X base Bp P → Calls Tryz.prog 193 #[.pointer (some ⟨X, 0, none⟩), tkV t A n c a z] v fun e w' => e = .returned (.bool r) ∧ BdTo m wt v w' X base Bp Q) :
    Calls Tryz.prog 156 #[.pointer (some ⟨X, 0, none⟩), .int .i64 6, tkV t A n c a z] w fun e w' => e = .returned (.bool r) ∧ BdTo m wt w w' X base Bp Q := by
  obtain ⟨w1, hw1⟩ : ∃ w1, w1 = w.alloc (.cells (tkC7 t A n c a z) 170) := ⟨_, rfl⟩
  have hb1 : Below w.heap.size w w1 := by rw [hw1]; exact (Below.refl _ w).alloc (Nat.le_refl _) _
  have hk1 : w1.heap[w.heap.size]? = some (.cells (tkC7 t A n c a z) 170 (0, 0)) := by rw [hw1]; exact heap_alloc_new w _
  have T1 := Lib.hid (h.to hb1)
  have HC := Lib.hid hc
  have a1_0 := cell_blk (i := 0) (v := .int .i64 t.kind) hk1 rfl
  have a1_1 := cell_blk (i := 1) (v := .string t.name) hk1 rfl
  have a1_2 := cell_blk (i := 2) (v := .slice A n c) hk1 rfl
  have a1_3 := cell_blk (i := 3) (v := .string t.text) hk1 rfl
  have a1_4 := cell_blk (i := 4) (v := .bool t.self) hk1 rfl
  have a1_5 := cell_blk (i := 5) (v := .int .i64 a) hk1 rfl
  have a1_6 := cell_blk (i := 6) (v := .int .i64 z) hk1 rfl
  clear h hc hk1 hb1
  go_enter Tryz.func156, Tryz.ntmps156
  go_upto_region 1 with fail
  rw [← hw1]
  clear hw1
  go_wp2_with (go_at_call 193; refine (HC.out _ T1.out.at_).mono ?_; rintro e w2 ⟨rfl, hb⟩; have T2 := Lib.hid (T1.out.trans hb); clear hb)
  go_ret
  exact ⟨rfl, T2.out⟩
set_option maxRecDepth 100000 in
theorem take11_at (h : BdAt m wt w X base Bp P) {t : Tk} {A : Option Addr} {n c : Nat} (a z : Int) {r : Bool} {Q : PS} (hc : ∀ v, BdAt m wt v X base Bp P → Calls Tryz.prog 198 #[.pointer (some ⟨X, 0, none⟩), tkV t A n c a z] v fun e w' => e = .returned (.bool r) ∧ BdTo m wt v w' X base Bp Q) :
    Calls Tryz.prog 156 #[.pointer (some ⟨X, 0, none⟩), .int .i64 11, tkV t A n c a z] w fun e w' => e = .returned (.bool r) ∧ BdTo m wt w w' X base Bp Q := by
  obtain ⟨w1, hw1⟩ : ∃ w1, w1 = w.alloc (.cells (tkC7 t A n c a z) 170) := ⟨_, rfl⟩
  have hb1 : Below w.heap.size w w1 := by rw [hw1]; exact (Below.refl _ w).alloc (Nat.le_refl _) _
  have hk1 : w1.heap[w.heap.size]? = some (.cells (tkC7 t A n c a z) 170 (0, 0)) := by rw [hw1]; exact heap_alloc_new w _
  have T1 := Lib.hid (h.to hb1)
  have HC := Lib.hid hc
  have a1_0 := cell_blk (i := 0) (v := .int .i64 t.kind) hk1 rfl
  have a1_1 := cell_blk (i := 1) (v := .string t.name) hk1 rfl
  have a1_2 := cell_blk (i := 2) (v := .slice A n c) hk1 rfl
  have a1_3 := cell_blk (i := 3) (v := .string t.text) hk1 rfl
  have a1_4 := cell_blk (i := 4) (v := .bool t.self) hk1 rfl
  have a1_5 := cell_blk (i := 5) (v := .int .i64 a) hk1 rfl
  have a1_6 := cell_blk (i := 6) (v := .int .i64 z) hk1 rfl
  clear h hc hk1 hb1
  go_enter Tryz.func156, Tryz.ntmps156
  go_upto_region 1 with fail
  rw [← hw1]
  clear hw1
  go_wp2_with (go_at_call 198; refine (HC.out _ T1.out.at_).mono ?_; rintro e w2 ⟨rfl, hb⟩; have T2 := Lib.hid (T1.out.trans hb); clear hb)
  go_ret
  exact ⟨rfl, T2.out⟩
set_option maxRecDepth 100000 in
theorem take12_at (h : BdAt m wt w X base Bp P) {t : Tk} {A : Option Addr} {n c : Nat} (a z : Int) {r : Bool} {Q : PS} (hc : ∀ v, BdAt m wt v X base Bp P → Calls Tryz.prog 199 #[.pointer (some ⟨X, 0, none⟩), tkV t A n c a z] v fun e w' => e = .returned (.bool r) ∧ BdTo m wt v w' X base Bp Q) :
    Calls Tryz.prog 156 #[.pointer (some ⟨X, 0, none⟩), .int .i64 12, tkV t A n c a z] w fun e w' => e = .returned (.bool r) ∧ BdTo m wt w w' X base Bp Q := by
  obtain ⟨w1, hw1⟩ : ∃ w1, w1 = w.alloc (.cells (tkC7 t A n c a z) 170) := ⟨_, rfl⟩
  have hb1 : Below w.heap.size w w1 := by rw [hw1]; exact (Below.refl _ w).alloc (Nat.le_refl _) _
  have hk1 : w1.heap[w.heap.size]? = some (.cells (tkC7 t A n c a z) 170 (0, 0)) := by rw [hw1]; exact heap_alloc_new w _
  have T1 := Lib.hid (h.to hb1)
  have HC := Lib.hid hc
  have a1_0 := cell_blk (i := 0) (v := .int .i64 t.kind) hk1 rfl
  have a1_1 := cell_blk (i := 1) (v := .string t.name) hk1 rfl
  have a1_2 := cell_blk (i := 2) (v := .slice A n c) hk1 rfl
  have a1_3 := cell_blk (i := 3) (v := .string t.text) hk1 rfl
  have a1_4 := cell_blk (i := 4) (v := .bool t.self) hk1 rfl
  have a1_5 := cell_blk (i := 5) (v := .int .i64 a) hk1 rfl
  have a1_6 := cell_blk (i := 6) (v := .int .i64 z) hk1 rfl
  clear h hc hk1 hb1
  go_enter Tryz.func156, Tryz.ntmps156
  go_upto_region 1 with fail
  rw [← hw1]
  clear hw1
  go_wp2_with (go_at_call 199; refine (HC.out _ T1.out.at_).mono ?_; rintro e w2 ⟨rfl, hb⟩; have T2 := Lib.hid (T1.out.trans hb); clear hb)
  go_ret
  exact ⟨rfl, T2.out⟩
set_option maxRecDepth 100000 in
theorem parts_any (mode : Int) (w : World) : Calls Tryz.prog 155 #[.int .i64 mode] w fun e w' => e = .returned (.bool (PS.parts mode)) ∧ w' = w := by
  have HR : Hid (PS.parts mode = (decide (mode ≤ 2) || mode == 3 || mode == 5 || mode == 9 || decide (15 ≤ mode))) := rfl
  generalize PS.parts mode = r at *
  by_cases h1 : mode ≤ 2
  · have HRE := Lib.hid (HR.out.trans (by rw [decide_eq_true h1] <;> rfl))
    go_enter Tryz.func155, Tryz.ntmps155
    go_wp2_with fail
    go_ret
    exact ⟨retB HRE.out.symm, rfl⟩
  have b1 : decide (mode ≤ 2) = false := decide_eq_false h1
  by_cases h2 : mode = 3
  · have HRE := Lib.hid (HR.out.trans (by rw [h2] <;> rfl))
    have b2 : (mode == 3) = true := by rw [h2]; rfl
    go_enter Tryz.func155, Tryz.ntmps155
    go_wp2_with fail
    go_ret
    exact ⟨retB HRE.out.symm, rfl⟩
  have b2 : (mode == 3) = false := beq_eq_false_iff_ne.2 h2
  by_cases h3 : mode = 5
  · have HRE := Lib.hid (HR.out.trans (by rw [h3] <;> rfl))
    have b3 : (mode == 5) = true := by rw [h3]; rfl
    go_enter Tryz.func155, Tryz.ntmps155
    go_wp2_with fail
    go_ret
    exact ⟨retB HRE.out.symm, rfl⟩
  have b3 : (mode == 5) = false := beq_eq_false_iff_ne.2 h3
  by_cases h4 : mode = 9
  · have HRE := Lib.hid (HR.out.trans (by rw [h4] <;> rfl))
    have b4 : (mode == 9) = true := by rw [h4]; rfl
    go_enter Tryz.func155, Tryz.ntmps155
    go_wp2_with fail
    go_ret
    exact ⟨retB HRE.out.symm, rfl⟩
  have b4 : (mode == 9) = false := beq_eq_false_iff_ne.2 h4
  by_cases h5 : 15 ≤ mode
  · have HRE := Lib.hid (HR.out.trans (by rw [b1, b2, b3, b4, decide_eq_true h5] <;> rfl))
    go_enter Tryz.func155, Tryz.ntmps155
    go_wp2_with fail
    go_ret
    exact ⟨retB HRE.out.symm, rfl⟩
  · have HRE := Lib.hid (HR.out.trans (by rw [b1, b2, b3, b4, decide_eq_false h5] <;> rfl))
    go_enter Tryz.func155, Tryz.ntmps155
    go_wp2_with fail
    go_ret
    exact ⟨retB HRE.out.symm, rfl⟩
end
theorem rest_le (t : Tk) : (PS.restT t).length ≤ t.text.size := by
  unfold PS.restT
  split
  · have := head_rest t.text.data.toList
    have h : t.text.size = t.text.data.toList.length := by simp
    omega
  · exact Nat.zero_le _
/-- A cell of a block of another type is stored. -/
theorem PAt.far {wt w : World} {X base Bp : Nat} {P : PS} {nV oV iV : Value} {ps : List (Value × Value)} (h : PAt wt w X base Bp P nV oV iV ps) {b : Nat} {cs : Array Value} {e : TypeId} (hb : w.heap[b]? = some (.cells cs e (0, 0))) (he : FarT e) (hX : b ≠ X) (hr : ¬ rg Bp wt.heap.size b) (i : Nat) (v : Value) : PAt wt (w.setCell ⟨b, i, none⟩ v) X base Bp P nV oV iV ps :=
  have hg := grown_set w b i v
  have hl : Loose wt X Bp oV iV (some b) := ⟨fun q => hX (by injection q), Or.inr (own_ne_block (Ne.symm he.2.2.1) h.op hb), Or.inr (own_ne_block (Ne.symm he.2.2.2.1) h.it hb), fun c hc q => hr (by injection q with q; subst q; exact hc)⟩
  (h.rest.grown hl hg).at_ h (h.ed.other hb (Ne.symm he.2.1) (Ne.symm he.2.2.2.2) (Ne.symm he.2.2.1) hg) h.opk h.outN h.outP h.outO h.outI
theorem BdTo.far {m : Int} {wt w w' : World} {X base Bp : Nat} {P : PS} (h : BdTo m wt w w' X base Bp P) {b i : Nat} {cs : Array Value} {e : TypeId} {v : Value} (hb : w'.heap[b]? = some (.cells cs e (0, 0))) (he : FarT e) (hXw : X < w.heap.size) (hbw : w.heap.size ≤ b) (hwt : wt.heap.size ≤ w.heap.size) : BdTo m wt w (w'.setCell ⟨b, i, none⟩ v) X base Bp P := by
  obtain ⟨nV, oV, iV, ps, hp⟩ := h.at_.mem
  have hq := hp.hX
  refine ⟨h.low.setCell (p := ⟨b, i, none⟩) (by show base ≤ b; omega) v, fun k cs' e' fr hk h1 h2 h3 h4 h5 => ?_, ⟨nV, oV, iV, ps, hp.far hb he (by omega) (fun q => by have := q.2; omega) i v⟩, ?_, h.at_.pos⟩
  · refine (Below.heap_setCell _ _ _ _ (fun q => ?_)).trans (h.keep k cs' e' fr hk h1 h2 h3 h4 h5)
    have hlt := (Array.getElem?_eq_some_iff.1 hk).1
    have q : k = b := q
    omega
  · exact cell_far (by have := h.at_.pos; omega) h.at_.len v
/-- The contract of take at a state. -/
def TakeC (m : Int) (wt : World) (X base Bp : Nat) (A : Option Addr) (n c : Nat) (a z : Int) (t : Tk) (P : PS) : Prop :=
  ∀ v, BdAt m wt v X base Bp P → Calls Tryz.prog 156 #[.pointer (some ⟨X, 0, none⟩), .int .i64 P.mode, tkV t A n c a z] v fun e w' => e = .returned (.bool (P.take P.mode t).1) ∧ BdTo m wt v w' X base Bp (P.take P.mode t).2
/-- .. at all states that a token comes through. -/
def TakesC (C : Tk → PS → Prop) : Nat → Tk → PS → Prop
  | 0, _, _ => True
  | f + 1, t, P => C t P ∧ ((P.take P.mode t).1 = true → TakesC C f t (P.take P.mode t).2)
def OneC (C : Tk → PS → Prop) : Nat → Tk → PS → Prop
  | 0, _, _ => True
  | f + 1, t, P => if P.parted t then TakesC C f (PS.onlyT t) P ∧ ∀ Q, PS.takesO f (PS.onlyT t) P = some Q → OneC C f (PS.restTk t) Q
    else C t P ∧ ((P.take P.mode t).1 = true → OneC C f t (P.take P.mode t).2)
section
variable {m : Int} {wt w : World} {X base Bp : Nat} {P : PS}
set_option maxRecDepth 100000 in
set_option maxHeartbeats 4000000 in
theorem one_at (h : BdAt m wt w X base Bp P) {t : Tk} {A : Option Addr} {n c : Nat} (a z : Int) (htx : t.text.size ≤ 1000000000) (hf : P.fresh = false) {f : Nat} {R : PS} (hr : P.one_ f t = some R) (hc : OneC (TakeC m wt X base Bp A n c a z) f t { P with fresh := false }) :
    Calls Tryz.prog 116 #[.pointer (some ⟨X, 0, none⟩), tkV t A n c a z] w fun e w' => e = .returned (.tuple #[]) ∧ BdTo m wt w w' X base Bp R := by
  obtain ⟨w1, hw1⟩ : ∃ w1, w1 = w.alloc (.cells (tkC7 t A n c a z) 170) := ⟨_, rfl⟩
  have hb1 : Below w.heap.size w w1 := by rw [hw1]; exact (Below.refl _ w).alloc (Nat.le_refl _) _
  have hk1 : w1.heap[w.heap.size]? = some (.cells (tkC7 t A n c a z) 170 (0, 0)) := by rw [hw1]; exact heap_alloc_new w _
  have T1 := Lib.hid (h.to hb1)
  have hS := T1.out.at_.store (i := 10) (v := .bool false) (Q := { P with fresh := false }) (fun _ _ _ => rfl) rfl rfl rfl
  have f10 := T1.out.at_.fr 10
  have c10 := T1.out.at_.cell 10 (v := .bool P.fresh) (fun _ _ _ => rfl)
  obtain ⟨w2, hw2⟩ : ∃ w2, w2 = w1.setCell ⟨X, 10, none⟩ (.bool false) := ⟨_, rfl⟩
  rw [← hw2] at hS
  have hk2 := hS.other (b := w.heap.size) hk1 (by decide)
  have TS := Lib.hid (T1.out.trans hS)
  have KS := Lib.hid hk2
  have mS := TS.out.at_.cell 4 (v := .int .i64 P.mode) (fun _ _ _ => rfl)
  have hu : PS.freshTk t P.fresh = t := by
    unfold PS.freshTk
    rw [hf]
    rfl
  rw [hf] at c10
  have HO := Lib.hid (show (if (t.kind = 3 ∧ t.text.size = 0) ∨ (t.kind = 5 ∧ P.mode ≠ 0) then some { P with fresh := false } else PS.oneO f t { P with fresh := false }) = some R from by
    have := hr
    unfold PS.one_ at this
    simp only [hu] at this
    exact this)
  have HC := Lib.hid hc
  have HXW : Hid (X < w.heap.size) := h.lt
  have HWT : Hid (wt.heap.size ≤ w.heap.size) := by obtain ⟨_, _, _, _, hp⟩ := h.mem; exact hp.ht
  have HTX : Hid (t.text.size ≤ 1000000000) := htx
  have a1_0 := cell_blk (i := 0) (v := .int .i64 t.kind) hk1 rfl
  have a1_1 := cell_blk (i := 1) (v := .string t.name) hk1 rfl
  have a1_2 := cell_blk (i := 2) (v := .slice A n c) hk1 rfl
  have a1_3 := cell_blk (i := 3) (v := .string t.text) hk1 rfl
  have a1_4 := cell_blk (i := 4) (v := .bool t.self) hk1 rfl
  have a1_5 := cell_blk (i := 5) (v := .int .i64 a) hk1 rfl
  have a1_6 := cell_blk (i := 6) (v := .int .i64 z) hk1 rfl
  have b_0 := cell_blk (i := 0) (v := .int .i64 t.kind) hk2 rfl
  have b_1 := cell_blk (i := 1) (v := .string t.name) hk2 rfl
  have b_2 := cell_blk (i := 2) (v := .slice A n c) hk2 rfl
  have b_3 := cell_blk (i := 3) (v := .string t.text) hk2 rfl
  have b_4 := cell_blk (i := 4) (v := .bool t.self) hk2 rfl
  have b_5 := cell_blk (i := 5) (v := .int .i64 a) hk2 rfl
  have b_6 := cell_blk (i := 6) (v := .int .i64 z) hk2 rfl
  have HW2 := Lib.hid hw2
  clear h hb1 hk1 hk2 hS hr hc hu htx hw2
  go_enter Tryz.func116, Tryz.ntmps116
  go_upto_region 1 with fail
  rw [← hw1]
  clear hw1
  go_upto_region 3 with fail
  rw [← HW2.out]
  clear HW2 f10 c10 a1_0 a1_1 a1_2 a1_3 a1_4 a1_5 a1_6
  have hskip : ∃ sk : Bool, (sk = true ↔ (t.kind = 3 ∧ t.text.size = 0) ∨ (t.kind = 5 ∧ P.mode ≠ 0)) := ⟨decide ((t.kind = 3 ∧ t.text.size = 0) ∨ (t.kind = 5 ∧ P.mode ≠ 0)), decide_eq_true_iff⟩
  obtain ⟨sk, hsk⟩ := hskip
  have HSK := Lib.hid hsk
  clear hsk hf
  go_upto_region 5 with fail
  go_cut [50] (fun b wx => b = .bool sk ∧ w2 = wx)
  case first =>
    by_cases h3 : t.kind = 3
    · have e3 : (t.kind == 3) = true := beq_iff_eq.2 h3
      have e5 : (t.kind == 5) = false := beq_eq_false_iff_ne.2 (by omega)
      by_cases hz : t.text.size = 0
      · have en := str_nil hz
        have HV : Hid (sk = true) := HSK.out.2 (.inl ⟨h3, hz⟩)
        clear h3 hz
        go_wp2_with fail
        go_meet
        case rel => exact ⟨by rw [HV.out], rfl⟩
      · have en := str_ne hz
        have HV : Hid (sk = false) := Bool.eq_false_iff.2 fun q => by rcases HSK.out.1 q with q | q; exact hz q.2; omega
        clear h3 hz
        go_wp2_with fail
        go_meet
        case rel => exact ⟨by rw [HV.out], rfl⟩
    · have e3 : (t.kind == 3) = false := beq_eq_false_iff_ne.2 h3
      by_cases h5 : t.kind = 5
      · have e5 : (t.kind == 5) = true := beq_iff_eq.2 h5
        by_cases hm0 : P.mode = 0
        · have em : (P.mode != 0) = false := by simp [hm0]
          have HV : Hid (sk = false) := Bool.eq_false_iff.2 fun q => by rcases HSK.out.1 q with q | q; exact h3 q.1; exact q.2 hm0
          clear h3 h5 hm0
          go_wp2_with fail
          go_meet
          case rel => exact ⟨by rw [HV.out], rfl⟩
        · have em : (P.mode != 0) = true := by simpa using hm0
          have HV : Hid (sk = true) := HSK.out.2 (.inr ⟨h5, hm0⟩)
          clear h3 h5 hm0
          go_wp2_with fail
          go_meet
          case rel => exact ⟨by rw [HV.out], rfl⟩
      · have e5 : (t.kind == 5) = false := beq_eq_false_iff_ne.2 h5
        have HV : Hid (sk = false) := Bool.eq_false_iff.2 fun q => by rcases HSK.out.1 q with q | q; exact h3 q.1; exact h5 q.1
        clear h3 h5
        go_wp2_with fail
        go_meet
        case rel => exact ⟨by rw [HV.out], rfl⟩
  case rest =>
  obtain ⟨rfl, rfl⟩ := hcut
  cases sk with
  | true =>
    have e := HO.out
    rw [if_pos (HSK.out.1 rfl)] at e
    have HRE := Lib.hid (Option.some.inj e)
    clear e
    go_wp2_with fail
    go_returns
    exact ⟨rfl, by rw [← HRE.out]; exact TS.out⟩
  | false =>
  have HRN := Lib.hid (show PS.oneO f t { P with fresh := false } = some R from by
    have e := HO.out
    rw [if_neg (fun q => by have := HSK.out.2 q; cases this)] at e
    exact e)
  clear HO HSK mS b_0 b_1 b_2 b_3 b_4 b_5 b_6
  go_wp2_with fail
  go_loopg [] f (fun g wr => ∃ (tk : Tk) (Q : PS), BdTo m wt w wr X base Bp Q ∧ wr.heap[w.heap.size]? = some (.cells (tkC7 tk A n c a z) 170 (0, 0)) ∧ tk.text.size ≤ 1000000000 ∧ PS.oneO g tk Q = some R ∧ OneC (TakeC m wt X base Bp A n c a z) g tk Q)
  case atStart => exact ⟨t, _, TS.out, KS.out, HTX.out, HRN.out, HC.out⟩
  case round =>
    clear TS KS HTX HRN HC
    obtain ⟨tk, Q, hto, hbx, htz, hOne, hCon⟩ := hrel
    have TR := Lib.hid hto
    have KR := Lib.hid hbx
    have HTS := Lib.hid htz
    obtain ⟨g, rfl⟩ : ∃ g, gk = g + 1 := by
      cases gk with
      | zero => exact absurd hOne (by simp [PS.oneO])
      | succ g => exact ⟨g, rfl⟩
    have HON := Lib.hid hOne
    have HCO := Lib.hid hCon
    have r_0 := cell_blk (i := 0) (v := .int .i64 tk.kind) hbx rfl
    have r_1 := cell_blk (i := 1) (v := .string tk.name) hbx rfl
    have r_2 := cell_blk (i := 2) (v := .slice A n c) hbx rfl
    have r_3 := cell_blk (i := 3) (v := .string tk.text) hbx rfl
    have r_4 := cell_blk (i := 4) (v := .bool tk.self) hbx rfl
    have r_5 := cell_blk (i := 5) (v := .int .i64 a) hbx rfl
    have r_6 := cell_blk (i := 6) (v := .int .i64 z) hbx rfl
    clear hto hbx htz hOne hCon
    go_upto_region 7 with (first
      | (go_at_call 154; refine (blanks_any tk A n c a z _ HTS.out).mono ?_; rintro e w3 ⟨rfl, hb⟩; have T3 := Lib.hid (TR.out.next hb); have hk := (hb.block _ (Array.getElem?_eq_some_iff.1 KR.out).1).trans KR.out; clear r_0 r_1 r_2 r_3 r_4 r_5 r_6; have a3_0 := cell_blk (i := 0) (v := .int .i64 tk.kind) hk rfl; have a3_1 := cell_blk (i := 1) (v := .string tk.name) hk rfl; have a3_2 := cell_blk (i := 2) (v := .slice A n c) hk rfl; have a3_3 := cell_blk (i := 3) (v := .string tk.text) hk rfl; have a3_4 := cell_blk (i := 4) (v := .bool tk.self) hk rfl; have a3_5 := cell_blk (i := 5) (v := .int .i64 a) hk rfl; have a3_6 := cell_blk (i := 6) (v := .int .i64 z) hk rfl; have m3 := T3.out.at_.cell 4 (v := .int .i64 Q.mode) (fun _ _ _ => rfl); have K3 := Lib.hid hk; clear hk hb)
      | fail)
    obtain ⟨hd, HHD⟩ : ∃ hd, Hid (hd = bs (PS.headT tk)) := ⟨_, rfl⟩
    obtain ⟨re, HRS⟩ : ∃ re, Hid (re = bs (PS.restT tk)) := ⟨_, rfl⟩
    rw [← HHD.out, ← HRS.out]
    go_cut [68] (fun b wx => b = .bool (Q.parted tk) ∧ w3 = wx)
    case first =>
      have HPD : Hid (Q.parted tk = (PS.parts Q.mode && !(PS.headT tk).isEmpty && !(PS.restT tk).isEmpty)) := rfl
      generalize Q.parted tk = pd at *
      cases hp : PS.parts Q.mode with
      | false =>
        have HV : Hid (pd = false) := HPD.out.trans (by rw [hp] <;> rfl)
        have HPR := Lib.hid hp
        clear hp
        go_wp2_with (go_at_call 155; refine (parts_any Q.mode _).mono ?_; rintro e w9 ⟨rfl, hw9⟩; have hw9 := hw9.symm; subst hw9; rw [HPR.out])
        go_meet
        case rel => exact ⟨by rw [HV.out], rfl⟩
      | true =>
        have HPR := Lib.hid hp
        by_cases h1 : PS.headT tk = []
        · have HV : Hid (pd = false) := HPD.out.trans (by rw [hp, h1] <;> simp)
          have en : (hd.toList == []) = true := str_nil (by rw [HHD.out, h1]; rfl)
          clear hp h1
          go_wp2_with (go_at_call 155; refine (parts_any Q.mode _).mono ?_; rintro e w9 ⟨rfl, hw9⟩; have hw9 := hw9.symm; subst hw9; rw [HPR.out])
          go_meet
          case rel => exact ⟨by rw [HV.out], rfl⟩
        · have en : (hd.toList == []) = false := str_ne (by rw [HHD.out]; exact fun e => h1 (List.length_eq_zero_iff.1 e))
          by_cases h2 : PS.restT tk = []
          · have HV : Hid (pd = false) := HPD.out.trans (by rw [hp, h2] <;> simp)
            have en2 : (re.toList == []) = true := str_nil (by rw [HRS.out, h2]; rfl)
            clear hp h1 h2
            go_wp2_with (go_at_call 155; refine (parts_any Q.mode _).mono ?_; rintro e w9 ⟨rfl, hw9⟩; have hw9 := hw9.symm; subst hw9; rw [HPR.out])
            go_meet
            case rel => exact ⟨by rw [HV.out], rfl⟩
          · have en2 : (re.toList == []) = false := str_ne (by rw [HRS.out]; exact fun e => h2 (List.length_eq_zero_iff.1 e))
            have HV : Hid (pd = true) := HPD.out.trans (by rw [hp, List.isEmpty_eq_false_iff.2 h1, List.isEmpty_eq_false_iff.2 h2] <;> rfl)
            clear hp h1 h2
            go_wp2_with (go_at_call 155; refine (parts_any Q.mode _).mono ?_; rintro e w9 ⟨rfl, hw9⟩; have hw9 := hw9.symm; subst hw9; rw [HPR.out])
            go_meet
            case rel => exact ⟨by rw [HV.out], rfl⟩
    case rest =>
    obtain ⟨rfl, rfl⟩ := hcut
    cases hpd : Q.parted tk with
    | true =>
      have HOT := Lib.hid (show (PS.takesO g (PS.onlyT tk) Q).bind (PS.oneO g (PS.restTk tk)) = some R from by
        have e := HON.out
        rw [PS.oneO, if_pos hpd] at e
        exact e)
      have HCT := Lib.hid (show TakesC (TakeC m wt X base Bp A n c a z) g (PS.onlyT tk) Q ∧ ∀ Q', PS.takesO g (PS.onlyT tk) Q = some Q' → OneC (TakeC m wt X base Bp A n c a z) g (PS.restTk tk) Q' from by
        have e := HCO.out
        rw [OneC, if_pos hpd] at e
        exact e)
      clear hpd HON HCO
      obtain ⟨Q2, hQ2⟩ : ∃ Q2, PS.takesO g (PS.onlyT tk) Q = some Q2 := by
        cases e : PS.takesO g (PS.onlyT tk) Q with
        | none => have := HOT.out; rw [e] at this; cases this
        | some Q2 => exact ⟨Q2, rfl⟩
      have HQ2 := Lib.hid hQ2
      have HO2 := Lib.hid (show PS.oneO g (PS.restTk tk) Q2 = some R from by have := HOT.out; rw [hQ2] at this; exact this)
      have HC2 := Lib.hid (HCT.out.2 Q2 hQ2)
      have HC1 := Lib.hid HCT.out.1
      clear hQ2 HOT HCT
      -- the copy of the token, its text the blanks
      obtain ⟨w4, hw4⟩ : ∃ w4, w4 = w3 := ⟨_, rfl⟩
      rw [← hw4] at T3 K3 a3_0 a3_1 a3_2 a3_3 a3_4 a3_5 a3_6 m3
      rw [← hw4]
      clear hw4
      obtain ⟨w5, hw5⟩ : ∃ w5, w5 = w4.alloc (.cells (tkC7 tk A n c a z) 170) := ⟨_, rfl⟩
      have hb5 : Below w4.heap.size w4 w5 := by rw [hw5]; exact (Below.refl _ _).alloc (Nat.le_refl _) _
      have hk5 : w5.heap[w4.heap.size]? = some (.cells (tkC7 tk A n c a z) 170 (0, 0)) := by rw [hw5]; exact heap_alloc_new w4 _
      obtain ⟨w6, hw6⟩ : ∃ w6, w6 = w5.setCell ⟨w4.heap.size, 3, none⟩ (.string hd) := ⟨_, rfl⟩
      have hk6 : w6.heap[w4.heap.size]? = some (.cells (tkC7 (PS.onlyT tk) A n c a z) 170 (0, 0)) := by rw [hw6, set_blk hk5, HHD.out]; rfl
      have hb6 : Below w4.heap.size w4 w6 := by rw [hw6]; exact hb5.setCell (p := ⟨w4.heap.size, 3, none⟩) (Nat.le_refl _) _
      have T6 := Lib.hid (T3.out.next hb6)
      have KO := Lib.hid hk6
      have KB := Lib.hid ((hb6.block _ (Array.getElem?_eq_some_iff.1 K3.out).1).trans K3.out)
      have x3 := cell_blk (i := 3) (v := .string tk.text) hk5 rfl
      have y3 : w5.frozen? ⟨w4.heap.size, 3, none⟩ = false := free_blk hk5
      have HW6 := Lib.hid hw6
      clear hb5 hk5 hb6 hk6 hw6
      go_upto_region 9 with fail
      rw [← hw5]
      clear hw5 a3_0 a3_1 a3_2 a3_3 a3_4 a3_5 a3_6 m3
      go_wp2_with fail
      rw [← HW6.out]
      clear HW6 x3 y3
      go_loopg [] g (fun gi wr => ∃ QI : PS, BdTo m wt w wr X base Bp QI ∧ wr.heap[w.heap.size]? = some (.cells (tkC7 tk A n c a z) 170 (0, 0)) ∧ wr.heap[w4.heap.size]? = some (.cells (tkC7 (PS.onlyT tk) A n c a z) 170 (0, 0)) ∧ PS.takesO gi (PS.onlyT tk) QI = some Q2 ∧ TakesC (TakeC m wt X base Bp A n c a z) gi (PS.onlyT tk) QI)
      case atStart => exact ⟨Q, T6.out, KB.out, KO.out, HQ2.out, HC1.out⟩
      case round =>
        clear T6 KB KO HQ2 HC1
        obtain ⟨QI, hto, hkb, hko, hrun, hcon⟩ := hrel
        have TI := Lib.hid hto
        have KBI := Lib.hid hkb
        have KOI := Lib.hid hko
        have mI := hto.at_.cell 4 (v := .int .i64 QI.mode) (fun _ _ _ => rfl)
        have o_0 := cell_blk (i := 0) (v := .int .i64 (PS.onlyT tk).kind) hko rfl
        have o_1 := cell_blk (i := 1) (v := .string (PS.onlyT tk).name) hko rfl
        have o_2 := cell_blk (i := 2) (v := .slice A n c) hko rfl
        have o_3 := cell_blk (i := 3) (v := .string (PS.onlyT tk).text) hko rfl
        have o_4 := cell_blk (i := 4) (v := .bool (PS.onlyT tk).self) hko rfl
        have o_5 := cell_blk (i := 5) (v := .int .i64 a) hko rfl
        have o_6 := cell_blk (i := 6) (v := .int .i64 z) hko rfl
        obtain ⟨gj, hgj⟩ : ∃ gj, gk = gj + 1 := by
          cases gk with
          | zero => exact absurd hrun (by simp [PS.takesO])
          | succ gj => exact ⟨gj, rfl⟩
        subst hgj
        have HRU := Lib.hid hrun
        have HCT := Lib.hid (show TakeC m wt X base Bp A n c a z (PS.onlyT tk) QI ∧ ((QI.take QI.mode (PS.onlyT tk)).1 = true → TakesC (TakeC m wt X base Bp A n c a z) gj (PS.onlyT tk) (QI.take QI.mode (PS.onlyT tk)).2) from hcon)
        have HTI := Lib.hid (HCT.out.1 _ TI.out.drew.at_)
        have HNI := Lib.hid HCT.out.2
        have HR2 := Lib.hid (show (if (QI.take QI.mode (PS.onlyT tk)).1 = true then PS.takesO gj (PS.onlyT tk) (QI.take QI.mode (PS.onlyT tk)).2 else some (QI.take QI.mode (PS.onlyT tk)).2) = some Q2 from HRU.out)
        clear hto hkb hko hrun hcon HRU HCT
        generalize hS2 : (QI.take QI.mode (PS.onlyT tk)).2 = S2 at *
        clear hS2
        cases hr : (QI.take QI.mode (PS.onlyT tk)).1 with
        | true =>
          rw [hr] at HTI HNI HR2
          clear hr
          go_upto_region 10 with fail
          refine wp_region_G (S := (fun w' : World => w'.cell? ⟨X, 4, none⟩ = some (.int .i64 QI.mode) ∧ w'.cell? ⟨w4.heap.size, 0, none⟩ = some (.int .i64 (PS.onlyT tk).kind) ∧ w'.cell? ⟨w4.heap.size, 1, none⟩ = some (.string (PS.onlyT tk).name) ∧ w'.cell? ⟨w4.heap.size, 2, none⟩ = some (.slice A n c) ∧ w'.cell? ⟨w4.heap.size, 3, none⟩ = some (.string (PS.onlyT tk).text) ∧ w'.cell? ⟨w4.heap.size, 4, none⟩ = some (.bool (PS.onlyT tk).self) ∧ w'.cell? ⟨w4.heap.size, 5, none⟩ = some (.int .i64 a) ∧ w'.cell? ⟨w4.heap.size, 6, none⟩ = some (.int .i64 z))) (T := [6]) (by kernel_rfl) ?_
          have hS : (fun w' : World => w'.cell? ⟨X, 4, none⟩ = some (.int .i64 QI.mode) ∧ w'.cell? ⟨w4.heap.size, 0, none⟩ = some (.int .i64 (PS.onlyT tk).kind) ∧ w'.cell? ⟨w4.heap.size, 1, none⟩ = some (.string (PS.onlyT tk).name) ∧ w'.cell? ⟨w4.heap.size, 2, none⟩ = some (.slice A n c) ∧ w'.cell? ⟨w4.heap.size, 3, none⟩ = some (.string (PS.onlyT tk).text) ∧ w'.cell? ⟨w4.heap.size, 4, none⟩ = some (.bool (PS.onlyT tk).self) ∧ w'.cell? ⟨w4.heap.size, 5, none⟩ = some (.int .i64 a) ∧ w'.cell? ⟨w4.heap.size, 6, none⟩ = some (.int .i64 z)) wr.drew := ⟨mI, o_0, o_1, o_2, o_3, o_4, o_5, o_6⟩
          refine wpAnyG_pure (i := 0) (v := ?_) rfl (by kernel_rfl) (by kernel_rfl) (by kernel_rfl) (fun _ _ _ h => h) rfl ?_ ?_
          rotate_left
          · intro w'
            first | (go_simp; done) | (go_simp; with_reducible rfl)
          refine wpAnyG_pure (i := 1) (v := ?_) rfl (by kernel_rfl) (by kernel_rfl) (by kernel_rfl) (fun _ _ _ h => h) rfl ?_ ?_
          rotate_left
          · intro w'
            first | (go_simp; done) | (go_simp; with_reducible rfl)
          refine wpAnyG_pure (i := 2) (v := ?_) rfl (by kernel_rfl) (by kernel_rfl) (by kernel_rfl) (fun _ _ _ h => h) rfl ?_ ?_
          rotate_left
          · intro w'
            first | (go_simp; done) | (go_simp; with_reducible rfl)
          refine wpAnyG_pure (i := 3) (v := ?_) rfl (by kernel_rfl) (by kernel_rfl) (by kernel_rfl) (fun _ _ _ h => h) rfl ?_ ?_
          rotate_left
          · intro w'
            first | (go_simp; done) | (go_simp; with_reducible rfl)
          refine wpAnyG_take (i := 4) (v := ?_) rfl (by kernel_rfl) (by kernel_rfl) (by kernel_rfl) (by kernel_rfl) (fun _ _ _ h => h) hS rfl ?_ ?_
          rotate_left
          · intro w' hSw
            (try dsimp only at hSw)
            first | (go_simp; done) | (go_simp; with_reducible rfl)
          refine wpAnyG_take (i := 5) (v := ?_) rfl (by kernel_rfl) (by kernel_rfl) (by kernel_rfl) (by kernel_rfl) (fun _ _ _ h => h) hS rfl ?_ ?_
          rotate_left
          · intro w' hSw
            (try dsimp only at hSw)
            first | (go_simp; done) | (go_simp; with_reducible rfl)
          refine wpAnyG_one (i := 6) (by kernel_rfl) rfl rfl (fun K hK => ?_)
          go_simp
          go_at_call 156
          refine HTI.out.mono ?_
          rintro e w6 ⟨rfl, hb⟩
          have T6 := Lib.hid (TI.out.drew.trans hb)
          have hkb := hb.other (b := w.heap.size) KBI.out (by decide)
          have KB6 := Lib.hid hkb
          have hko := hb.other (b := w4.heap.size) KOI.out (by decide)
          have KO6 := Lib.hid hko
          clear hkb hko hb mI o_0 o_1 o_2 o_3 o_4 o_5 o_6
          go_wp2_with fail
          refine hK.out _ _ (fun h => absurd (by decide) h) ?_
          clear hK K hS
          refine wpAnyG_done (by kernel_rfl) ?_ _
          go_wp2_with fail
          go_roundg gj
          case rel => exact ⟨S2, T6.out, KB6.out, KO6.out, by simpa using HR2.out, HNI.out (by trivial)⟩
          case measure => omega
        | false =>
          rw [hr] at HTI HNI HR2
          clear hr
          go_upto_region 10 with fail
          refine wp_region_G (S := (fun w' : World => w'.cell? ⟨X, 4, none⟩ = some (.int .i64 QI.mode) ∧ w'.cell? ⟨w4.heap.size, 0, none⟩ = some (.int .i64 (PS.onlyT tk).kind) ∧ w'.cell? ⟨w4.heap.size, 1, none⟩ = some (.string (PS.onlyT tk).name) ∧ w'.cell? ⟨w4.heap.size, 2, none⟩ = some (.slice A n c) ∧ w'.cell? ⟨w4.heap.size, 3, none⟩ = some (.string (PS.onlyT tk).text) ∧ w'.cell? ⟨w4.heap.size, 4, none⟩ = some (.bool (PS.onlyT tk).self) ∧ w'.cell? ⟨w4.heap.size, 5, none⟩ = some (.int .i64 a) ∧ w'.cell? ⟨w4.heap.size, 6, none⟩ = some (.int .i64 z))) (T := [6]) (by kernel_rfl) ?_
          have hS : (fun w' : World => w'.cell? ⟨X, 4, none⟩ = some (.int .i64 QI.mode) ∧ w'.cell? ⟨w4.heap.size, 0, none⟩ = some (.int .i64 (PS.onlyT tk).kind) ∧ w'.cell? ⟨w4.heap.size, 1, none⟩ = some (.string (PS.onlyT tk).name) ∧ w'.cell? ⟨w4.heap.size, 2, none⟩ = some (.slice A n c) ∧ w'.cell? ⟨w4.heap.size, 3, none⟩ = some (.string (PS.onlyT tk).text) ∧ w'.cell? ⟨w4.heap.size, 4, none⟩ = some (.bool (PS.onlyT tk).self) ∧ w'.cell? ⟨w4.heap.size, 5, none⟩ = some (.int .i64 a) ∧ w'.cell? ⟨w4.heap.size, 6, none⟩ = some (.int .i64 z)) wr.drew := ⟨mI, o_0, o_1, o_2, o_3, o_4, o_5, o_6⟩
          refine wpAnyG_pure (i := 0) (v := ?_) rfl (by kernel_rfl) (by kernel_rfl) (by kernel_rfl) (fun _ _ _ h => h) rfl ?_ ?_
          rotate_left
          · intro w'
            first | (go_simp; done) | (go_simp; with_reducible rfl)
          refine wpAnyG_pure (i := 1) (v := ?_) rfl (by kernel_rfl) (by kernel_rfl) (by kernel_rfl) (fun _ _ _ h => h) rfl ?_ ?_
          rotate_left
          · intro w'
            first | (go_simp; done) | (go_simp; with_reducible rfl)
          refine wpAnyG_pure (i := 2) (v := ?_) rfl (by kernel_rfl) (by kernel_rfl) (by kernel_rfl) (fun _ _ _ h => h) rfl ?_ ?_
          rotate_left
          · intro w'
            first | (go_simp; done) | (go_simp; with_reducible rfl)
          refine wpAnyG_pure (i := 3) (v := ?_) rfl (by kernel_rfl) (by kernel_rfl) (by kernel_rfl) (fun _ _ _ h => h) rfl ?_ ?_
          rotate_left
          · intro w'
            first | (go_simp; done) | (go_simp; with_reducible rfl)
          refine wpAnyG_take (i := 4) (v := ?_) rfl (by kernel_rfl) (by kernel_rfl) (by kernel_rfl) (by kernel_rfl) (fun _ _ _ h => h) hS rfl ?_ ?_
          rotate_left
          · intro w' hSw
            (try dsimp only at hSw)
            first | (go_simp; done) | (go_simp; with_reducible rfl)
          refine wpAnyG_take (i := 5) (v := ?_) rfl (by kernel_rfl) (by kernel_rfl) (by kernel_rfl) (by kernel_rfl) (fun _ _ _ h => h) hS rfl ?_ ?_
          rotate_left
          · intro w' hSw
            (try dsimp only at hSw)
            first | (go_simp; done) | (go_simp; with_reducible rfl)
          refine wpAnyG_one (i := 6) (by kernel_rfl) rfl rfl (fun K hK => ?_)
          go_simp
          go_at_call 156
          refine HTI.out.mono ?_
          rintro e w6 ⟨rfl, hb⟩
          have T6 := Lib.hid (TI.out.drew.trans hb)
          have hkb := hb.other (b := w.heap.size) KBI.out (by decide)
          have KB6 := Lib.hid hkb
          have hko := hb.other (b := w4.heap.size) KOI.out (by decide)
          have KO6 := Lib.hid hko
          clear hkb hko hb mI o_0 o_1 o_2 o_3 o_4 o_5 o_6
          go_wp2_with fail
          refine hK.out _ _ (fun h => absurd (by decide) h) ?_
          clear hK K hS
          refine wpAnyG_done (by kernel_rfl) ?_ _
          have HRE : Hid (S2 = Q2) := by show _ = _; simpa using HR2.out
          have x3 := cell_blk (i := 3) (v := .string tk.text) KB6.out rfl
          have y3 : w6.frozen? ⟨w.heap.size, 3, none⟩ = false := free_blk KB6.out
          obtain ⟨w7, hw7⟩ : ∃ w7, w7 = w6.setCell ⟨w.heap.size, 3, none⟩ (.string re) := ⟨_, rfl⟩
          have hk7 : w7.heap[w.heap.size]? = some (.cells (tkC7 (PS.restTk tk) A n c a z) 170 (0, 0)) := by rw [hw7, set_blk KB6.out, HRS.out]; rfl
          have HW7 := Lib.hid hw7
          have HK7 := Lib.hid hk7
          have HT7 : Hid (BdTo m wt w w7 X base Bp Q2) := by
            show BdTo m wt w w7 X base Bp Q2
            rw [hw7, ← HRE.out]
            exact T6.out.far KB6.out (by decide) HXW.out (Nat.le_refl _) HWT.out
          clear hw7 hk7
          go_wp2_with fail
          rw [← HW7.out]
          clear x3 y3
          go_roundg g
          case rel => exact ⟨PS.restTk tk, Q2, HT7.out, HK7.out, Nat.le_trans (by show (PS.restT tk).length ≤ tk.text.size; exact rest_le tk) HTS.out, HO2.out, HC2.out⟩
          case measure => omega
    | false =>
      have HOT := Lib.hid (show (if (Q.take Q.mode tk).1 = true then PS.oneO g tk (Q.take Q.mode tk).2 else some (Q.take Q.mode tk).2) = some R from by
        have e := HON.out
        rw [PS.oneO, if_neg (by rw [hpd]; simp)] at e
        exact e)
      have HCT := Lib.hid (show TakeC m wt X base Bp A n c a z tk Q ∧ ((Q.take Q.mode tk).1 = true → OneC (TakeC m wt X base Bp A n c a z) g tk (Q.take Q.mode tk).2) from by
        have e := HCO.out
        rw [OneC, if_neg (by rw [hpd]; simp)] at e
        exact e)
      clear hpd HON HCO
      have HT12 := Lib.hid (HCT.out.1 _ T3.out.drew.at_)
      have HNX := Lib.hid HCT.out.2
      generalize hS2 : (Q.take Q.mode tk).2 = S2 at *
      clear hS2
      cases hr : (Q.take Q.mode tk).1 with
      | true =>
        rw [hr] at HT12 HNX HOT
        clear hr
        go_upto_region 12 with fail
        refine wp_region_G (S := (fun w' : World => w'.cell? ⟨X, 4, none⟩ = some (.int .i64 Q.mode) ∧ w'.cell? ⟨w.heap.size, 0, none⟩ = some (.int .i64 tk.kind) ∧ w'.cell? ⟨w.heap.size, 1, none⟩ = some (.string tk.name) ∧ w'.cell? ⟨w.heap.size, 2, none⟩ = some (.slice A n c) ∧ w'.cell? ⟨w.heap.size, 3, none⟩ = some (.string tk.text) ∧ w'.cell? ⟨w.heap.size, 4, none⟩ = some (.bool tk.self) ∧ w'.cell? ⟨w.heap.size, 5, none⟩ = some (.int .i64 a) ∧ w'.cell? ⟨w.heap.size, 6, none⟩ = some (.int .i64 z))) (T := [6]) (by kernel_rfl) ?_
        have hS : (fun w' : World => w'.cell? ⟨X, 4, none⟩ = some (.int .i64 Q.mode) ∧ w'.cell? ⟨w.heap.size, 0, none⟩ = some (.int .i64 tk.kind) ∧ w'.cell? ⟨w.heap.size, 1, none⟩ = some (.string tk.name) ∧ w'.cell? ⟨w.heap.size, 2, none⟩ = some (.slice A n c) ∧ w'.cell? ⟨w.heap.size, 3, none⟩ = some (.string tk.text) ∧ w'.cell? ⟨w.heap.size, 4, none⟩ = some (.bool tk.self) ∧ w'.cell? ⟨w.heap.size, 5, none⟩ = some (.int .i64 a) ∧ w'.cell? ⟨w.heap.size, 6, none⟩ = some (.int .i64 z)) w3.drew := ⟨m3, a3_0, a3_1, a3_2, a3_3, a3_4, a3_5, a3_6⟩
        refine wpAnyG_pure (i := 0) (v := ?_) rfl (by kernel_rfl) (by kernel_rfl) (by kernel_rfl) (fun _ _ _ h => h) rfl ?_ ?_
        rotate_left
        · intro w'
          first | (go_simp; done) | (go_simp; with_reducible rfl)
        refine wpAnyG_pure (i := 1) (v := ?_) rfl (by kernel_rfl) (by kernel_rfl) (by kernel_rfl) (fun _ _ _ h => h) rfl ?_ ?_
        rotate_left
        · intro w'
          first | (go_simp; done) | (go_simp; with_reducible rfl)
        refine wpAnyG_pure (i := 2) (v := ?_) rfl (by kernel_rfl) (by kernel_rfl) (by kernel_rfl) (fun _ _ _ h => h) rfl ?_ ?_
        rotate_left
        · intro w'
          first | (go_simp; done) | (go_simp; with_reducible rfl)
        refine wpAnyG_pure (i := 3) (v := ?_) rfl (by kernel_rfl) (by kernel_rfl) (by kernel_rfl) (fun _ _ _ h => h) rfl ?_ ?_
        rotate_left
        · intro w'
          first | (go_simp; done) | (go_simp; with_reducible rfl)
        refine wpAnyG_take (i := 4) (v := ?_) rfl (by kernel_rfl) (by kernel_rfl) (by kernel_rfl) (by kernel_rfl) (fun _ _ _ h => h) hS rfl ?_ ?_
        rotate_left
        · intro w' hSw
          (try dsimp only at hSw)
          first | (go_simp; done) | (go_simp; with_reducible rfl)
        refine wpAnyG_take (i := 5) (v := ?_) rfl (by kernel_rfl) (by kernel_rfl) (by kernel_rfl) (by kernel_rfl) (fun _ _ _ h => h) hS rfl ?_ ?_
        rotate_left
        · intro w' hSw
          (try dsimp only at hSw)
          first | (go_simp; done) | (go_simp; with_reducible rfl)
        refine wpAnyG_one (i := 6) (by kernel_rfl) rfl rfl (fun K hK => ?_)
        go_simp
        go_at_call 156
        refine HT12.out.mono ?_
        rintro e w4 ⟨rfl, hb⟩
        have T4 := Lib.hid (T3.out.drew.trans hb)
        have hk := hb.other (b := w.heap.size) K3.out (by decide)
        have K4 := Lib.hid hk
        clear hk hb m3 a3_0 a3_1 a3_2 a3_3 a3_4 a3_5 a3_6
        go_wp2_with fail
        refine hK.out _ _ (fun h => absurd (by decide) h) ?_
        clear hK K hS
        refine wpAnyG_one (i := 7) (by kernel_rfl) rfl rfl (fun K hK => ?_)
        go_simp
        refine hK.out _ _ (fun _ h => h) ?_
        clear hK K
        refine wpAnyG_done (by kernel_rfl) ?_ _
        go_wp2_with fail
        go_roundg g
        case rel => exact ⟨tk, S2, T4.out, K4.out, HTS.out, by simpa using HOT.out, HNX.out (by trivial)⟩
        case measure => omega
      | false =>
        rw [hr] at HT12 HNX HOT
        clear hr
        go_upto_region 12 with fail
        refine wp_region_G (S := (fun w' : World => w'.cell? ⟨X, 4, none⟩ = some (.int .i64 Q.mode) ∧ w'.cell? ⟨w.heap.size, 0, none⟩ = some (.int .i64 tk.kind) ∧ w'.cell? ⟨w.heap.size, 1, none⟩ = some (.string tk.name) ∧ w'.cell? ⟨w.heap.size, 2, none⟩ = some (.slice A n c) ∧ w'.cell? ⟨w.heap.size, 3, none⟩ = some (.string tk.text) ∧ w'.cell? ⟨w.heap.size, 4, none⟩ = some (.bool tk.self) ∧ w'.cell? ⟨w.heap.size, 5, none⟩ = some (.int .i64 a) ∧ w'.cell? ⟨w.heap.size, 6, none⟩ = some (.int .i64 z))) (T := [6]) (by kernel_rfl) ?_
        have hS : (fun w' : World => w'.cell? ⟨X, 4, none⟩ = some (.int .i64 Q.mode) ∧ w'.cell? ⟨w.heap.size, 0, none⟩ = some (.int .i64 tk.kind) ∧ w'.cell? ⟨w.heap.size, 1, none⟩ = some (.string tk.name) ∧ w'.cell? ⟨w.heap.size, 2, none⟩ = some (.slice A n c) ∧ w'.cell? ⟨w.heap.size, 3, none⟩ = some (.string tk.text) ∧ w'.cell? ⟨w.heap.size, 4, none⟩ = some (.bool tk.self) ∧ w'.cell? ⟨w.heap.size, 5, none⟩ = some (.int .i64 a) ∧ w'.cell? ⟨w.heap.size, 6, none⟩ = some (.int .i64 z)) w3.drew := ⟨m3, a3_0, a3_1, a3_2, a3_3, a3_4, a3_5, a3_6⟩
        refine wpAnyG_pure (i := 0) (v := ?_) rfl (by kernel_rfl) (by kernel_rfl) (by kernel_rfl) (fun _ _ _ h => h) rfl ?_ ?_
        rotate_left
        · intro w'
          first | (go_simp; done) | (go_simp; with_reducible rfl)
        refine wpAnyG_pure (i := 1) (v := ?_) rfl (by kernel_rfl) (by kernel_rfl) (by kernel_rfl) (fun _ _ _ h => h) rfl ?_ ?_
        rotate_left
        · intro w'
          first | (go_simp; done) | (go_simp; with_reducible rfl)
        refine wpAnyG_pure (i := 2) (v := ?_) rfl (by kernel_rfl) (by kernel_rfl) (by kernel_rfl) (fun _ _ _ h => h) rfl ?_ ?_
        rotate_left
        · intro w'
          first | (go_simp; done) | (go_simp; with_reducible rfl)
        refine wpAnyG_pure (i := 3) (v := ?_) rfl (by kernel_rfl) (by kernel_rfl) (by kernel_rfl) (fun _ _ _ h => h) rfl ?_ ?_
        rotate_left
        · intro w'
          first | (go_simp; done) | (go_simp; with_reducible rfl)
        refine wpAnyG_take (i := 4) (v := ?_) rfl (by kernel_rfl) (by kernel_rfl) (by kernel_rfl) (by kernel_rfl) (fun _ _ _ h => h) hS rfl ?_ ?_
        rotate_left
        · intro w' hSw
          (try dsimp only at hSw)
          first | (go_simp; done) | (go_simp; with_reducible rfl)
        refine wpAnyG_take (i := 5) (v := ?_) rfl (by kernel_rfl) (by kernel_rfl) (by kernel_rfl) (by kernel_rfl) (fun _ _ _ h => h) hS rfl ?_ ?_
        rotate_left
        · intro w' hSw
          (try dsimp only at hSw)
          first | (go_simp; done) | (go_simp; with_reducible rfl)
        refine wpAnyG_one (i := 6) (by kernel_rfl) rfl rfl (fun K hK => ?_)
        go_simp
        go_at_call 156
        refine HT12.out.mono ?_
        rintro e w4 ⟨rfl, hb⟩
        have T4 := Lib.hid (T3.out.drew.trans hb)
        have hk := hb.other (b := w.heap.size) K3.out (by decide)
        have K4 := Lib.hid hk
        clear hk hb m3 a3_0 a3_1 a3_2 a3_3 a3_4 a3_5 a3_6
        go_wp2_with fail
        refine hK.out _ _ (fun h => absurd (by decide) h) ?_
        clear hK K hS
        refine wpAnyG_one (i := 7) (by kernel_rfl) rfl rfl (fun K hK => ?_)
        go_simp
        refine hK.out _ _ (fun _ h => h) ?_
        clear hK K
        refine wpAnyG_done (by kernel_rfl) ?_ _
        go_wp2_with fail
        go_returns
        have e : S2 = R := by simpa using HOT.out
        exact ⟨rfl, by rw [← e]; exact T4.out⟩
end
end Go.Proofs.YtegcedboeemedaaGreatDoor

/-
Tokens: the walks of blank, letter, Raw and of the reader's small functions.
-/
namespace Go.Proofs.YtegcedboeemedaaGreatDoor
open Go.RowKit Go.Cl
attribute [local go_sem ↓] Go.wp_at_zero Go.wp_at_succ
theorem u8_ne {b : UInt8} {c : Nat} (hc : c < 256) (h : b ≠ c.toUInt8) : ((b.toNat : Int) == (c : Int)) = false := beq_eq_false_iff_ne.2 fun e => h (UInt8.toNat_inj.1 (by simp; omega))
theorem blank_any (b : UInt8) (w : World) : Calls Tryz.prog 114 #[.int .u8 (b.toNat : Int)] w fun e w' => e = .returned (.bool (blankB b)) ∧ w' = w := by
  by_cases h32 : b = 32
  · subst h32
    go_enter Tryz.func114, Tryz.ntmps114
    go_wp2_with fail
    go_ret
    exact ⟨rfl, rfl⟩
  by_cases h9 : b = 9
  · subst h9
    go_enter Tryz.func114, Tryz.ntmps114
    go_wp2_with fail
    go_ret
    exact ⟨rfl, rfl⟩
  by_cases h10 : b = 10
  · subst h10
    go_enter Tryz.func114, Tryz.ntmps114
    go_wp2_with fail
    go_ret
    exact ⟨rfl, rfl⟩
  by_cases h12 : b = 12
  · subst h12
    go_enter Tryz.func114, Tryz.ntmps114
    go_wp2_with fail
    go_ret
    exact ⟨rfl, rfl⟩
  by_cases h13 : b = 13
  · subst h13
    go_enter Tryz.func114, Tryz.ntmps114
    go_wp2_with fail
    go_ret
    exact ⟨rfl, rfl⟩
  have e32 : ((b.toNat : Int) == 32) = false := u8_ne (c := 32) (by decide) h32
  have e9 : ((b.toNat : Int) == 9) = false := u8_ne (c := 9) (by decide) h9
  have e10 : ((b.toNat : Int) == 10) = false := u8_ne (c := 10) (by decide) h10
  have e12 : ((b.toNat : Int) == 12) = false := u8_ne (c := 12) (by decide) h12
  have e13 : ((b.toNat : Int) == 13) = false := u8_ne (c := 13) (by decide) h13
  have HV := Lib.hid (show blankB b = false from by unfold blankB; simp [h32, h9, h10, h12, h13])
  clear h32 h9 h10 h12 h13
  go_enter Tryz.func114, Tryz.ntmps114
  go_wp2_with fail
  go_ret
  exact ⟨by first | (rw [HV.out]; rfl) | rfl, rfl⟩
theorem letter_any (b : UInt8) (w : World) : Calls Tryz.prog 104 #[.int .u8 (b.toNat : Int)] w fun e w' => e = .returned (.bool (letterB b)) ∧ w' = w := by
  have hl : letterB b = (decide (97 ≤ bits .or .u8 (b.toNat : Int) 32) && decide (bits .or .u8 (b.toNat : Int) 32 ≤ 122)) := rfl
  generalize hx : bits .or .u8 (b.toNat : Int) 32 = x at hl
  by_cases h1 : 97 ≤ x
  · by_cases h2 : x ≤ 122
    · have HV := Lib.hid (show letterB b = true from by rw [hl]; simp [h1, h2])
      rw [← hx] at h1 h2
      clear hl hx
      go_enter Tryz.func104, Tryz.ntmps104
      go_wp2_with fail
      go_ret
      exact ⟨by first | (rw [HV.out]; rfl) | rfl, rfl⟩
    · have HV := Lib.hid (show letterB b = false from by rw [hl]; simp [h2])
      rw [← hx] at h1 h2
      clear hl hx
      go_enter Tryz.func104, Tryz.ntmps104
      go_wp2_with fail
      go_ret
      exact ⟨by first | (rw [HV.out]; rfl) | rfl, rfl⟩
  · have HV := Lib.hid (show letterB b = false from by rw [hl]; simp [h1])
    rw [← hx] at h1
    clear hl hx
    go_enter Tryz.func104, Tryz.ntmps104
    go_wp2_with fail
    go_ret
    exact ⟨by first | (rw [HV.out]; rfl) | rfl, rfl⟩
theorem skipNot_any (b : UInt8) (w : World) : Calls Tryz.prog 146 #[.int .u8 (b.toNat : Int)] w fun e w' => e = .returned (.bool (!skipB b)) ∧ w' = w := by
  have HB := Lib.hid (blank_any b w)
  cases hb : blankB b with
  | true =>
    have HV := Lib.hid (show (!skipB b) = false from by unfold skipB; simp [hb])
    rw [hb] at HB
    clear hb
    go_enter Tryz.func146, Tryz.ntmps146
    go_wp2_with (go_at_call 114; refine HB.out.mono ?_; rintro e w2 ⟨rfl, rfl⟩)
    go_ret
    exact ⟨by first | (rw [HV.out]; rfl) | rfl, rfl⟩
  | false =>
    by_cases h47 : b = 47
    · have e47 : ((b.toNat : Int) == 47) = true := by rw [h47]; rfl
      have n47 : ((b.toNat : Int) != 47) = false := by simp only [bne, e47]; rfl
      have HV := Lib.hid (show (!skipB b) = false from by unfold skipB; simp [h47])
      rw [hb] at HB
      clear hb h47
      go_enter Tryz.func146, Tryz.ntmps146
      go_wp2_with (go_at_call 114; refine HB.out.mono ?_; rintro e w2 ⟨rfl, rfl⟩)
      go_ret
      exact ⟨by first | (rw [HV.out]; rfl) | rfl, rfl⟩
    have e47 : ((b.toNat : Int) == 47) = false := u8_ne (c := 47) (by decide) h47
    have n47 : ((b.toNat : Int) != 47) = true := by simp only [bne, e47]; rfl
    have HV := Lib.hid (show (!skipB b) = true from by unfold skipB; simp [hb, h47])
    rw [hb] at HB
    clear hb h47
    go_enter Tryz.func146, Tryz.ntmps146
    go_wp2_with (go_at_call 114; refine HB.out.mono ?_; rintro e w2 ⟨rfl, rfl⟩)
    go_ret
    exact ⟨by first | (rw [HV.out]; rfl) | rfl, rfl⟩
theorem blankNot_any (b : UInt8) (w : World) : Calls Tryz.prog 180 #[.int .u8 (b.toNat : Int)] w fun e w' => e = .returned (.bool (!blankB b)) ∧ w' = w := by
  have HB := Lib.hid (blank_any b w)
  cases hb : blankB b with
  | true =>
    have HV := Lib.hid (show (!blankB b) = false from by simp [hb])
    rw [hb] at HB
    clear hb
    go_enter Tryz.func180, Tryz.ntmps180
    go_wp2_with (go_at_call 114; refine HB.out.mono ?_; rintro e w2 ⟨rfl, rfl⟩)
    go_ret
    exact ⟨by first | (rw [HV.out]; rfl) | rfl, rfl⟩
  | false =>
    have HV := Lib.hid (show (!blankB b) = true from by simp [hb])
    rw [hb] at HB
    clear hb
    go_enter Tryz.func180, Tryz.ntmps180
    go_wp2_with (go_at_call 114; refine HB.out.mono ?_; rintro e w2 ⟨rfl, rfl⟩)
    go_ret
    exact ⟨by first | (rw [HV.out]; rfl) | rfl, rfl⟩
theorem blankNot2_any (b : UInt8) (w : World) : Calls Tryz.prog 221 #[.int .u8 (b.toNat : Int)] w fun e w' => e = .returned (.bool (!blankB b)) ∧ w' = w := by
  have HB := Lib.hid (blank_any b w)
  cases hb : blankB b with
  | true =>
    have HV := Lib.hid (show (!blankB b) = false from by simp [hb])
    rw [hb] at HB
    clear hb
    go_enter Tryz.func221, Tryz.ntmps221
    go_wp2_with (go_at_call 114; refine HB.out.mono ?_; rintro e w2 ⟨rfl, rfl⟩)
    go_ret
    exact ⟨by first | (rw [HV.out]; rfl) | rfl, rfl⟩
  | false =>
    have HV := Lib.hid (show (!blankB b) = true from by simp [hb])
    rw [hb] at HB
    clear hb
    go_enter Tryz.func221, Tryz.ntmps221
    go_wp2_with (go_at_call 114; refine HB.out.mono ?_; rintro e w2 ⟨rfl, rfl⟩)
    go_ret
    exact ⟨by first | (rw [HV.out]; rfl) | rfl, rfl⟩
theorem tagStop_any (b : UInt8) (w : World) : Calls Tryz.prog 145 #[.int .u8 (b.toNat : Int)] w fun e w' => e = .returned (.bool (!tagB b)) ∧ w' = w := by
  have HB := Lib.hid (blank_any b w)
  cases hb : blankB b with
  | true =>
    have HV := Lib.hid (show (!tagB b) = true from by unfold tagB; simp [hb])
    rw [hb] at HB
    clear hb
    go_enter Tryz.func145, Tryz.ntmps145
    go_wp2_with (go_at_call 114; refine HB.out.mono ?_; rintro e w2 ⟨rfl, rfl⟩)
    go_ret
    exact ⟨by first | (rw [HV.out]; rfl) | rfl, rfl⟩
  | false =>
    by_cases h47 : b = 47
    · have e47 : ((b.toNat : Int) == 47) = true := by rw [h47]; rfl
      have n47 : ((b.toNat : Int) != 47) = false := by simp only [bne, e47]; rfl
      have HV := Lib.hid (show (!tagB b) = true from by unfold tagB; simp [h47])
      rw [hb] at HB
      clear hb h47
      go_enter Tryz.func145, Tryz.ntmps145
      go_wp2_with (go_at_call 114; refine HB.out.mono ?_; rintro e w2 ⟨rfl, rfl⟩)
      go_ret
      exact ⟨by first | (rw [HV.out]; rfl) | rfl, rfl⟩
    have e47 : ((b.toNat : Int) == 47) = false := u8_ne (c := 47) (by decide) h47
    have n47 : ((b.toNat : Int) != 47) = true := by simp only [bne, e47]; rfl
    by_cases h62 : b = 62
    · have e62 : ((b.toNat : Int) == 62) = true := by rw [h62]; rfl
      have n62 : ((b.toNat : Int) != 62) = false := by simp only [bne, e62]; rfl
      have HV := Lib.hid (show (!tagB b) = true from by unfold tagB; simp [h62])
      rw [hb] at HB
      clear hb h62
      go_enter Tryz.func145, Tryz.ntmps145
      go_wp2_with (go_at_call 114; refine HB.out.mono ?_; rintro e w2 ⟨rfl, rfl⟩)
      go_ret
      exact ⟨by first | (rw [HV.out]; rfl) | rfl, rfl⟩
    have e62 : ((b.toNat : Int) == 62) = false := u8_ne (c := 62) (by decide) h62
    have n62 : ((b.toNat : Int) != 62) = true := by simp only [bne, e62]; rfl
    have HV := Lib.hid (show (!tagB b) = false from by unfold tagB; simp [hb, h47, h62])
    rw [hb] at HB
    clear hb h47 h62
    go_enter Tryz.func145, Tryz.ntmps145
    go_wp2_with (go_at_call 114; refine HB.out.mono ?_; rintro e w2 ⟨rfl, rfl⟩)
    go_ret
    exact ⟨by first | (rw [HV.out]; rfl) | rfl, rfl⟩
theorem anStop_any (b : UInt8) (w : World) : Calls Tryz.prog 179 #[.int .u8 (b.toNat : Int)] w fun e w' => e = .returned (.bool (!anB b)) ∧ w' = w := by
  have HB := Lib.hid (blank_any b w)
  cases hb : blankB b with
  | true =>
    have HV := Lib.hid (show (!anB b) = true from by unfold anB; simp [hb])
    rw [hb] at HB
    clear hb
    go_enter Tryz.func179, Tryz.ntmps179
    go_wp2_with (go_at_call 114; refine HB.out.mono ?_; rintro e w2 ⟨rfl, rfl⟩)
    go_ret
    exact ⟨by first | (rw [HV.out]; rfl) | rfl, rfl⟩
  | false =>
    by_cases h47 : b = 47
    · have e47 : ((b.toNat : Int) == 47) = true := by rw [h47]; rfl
      have n47 : ((b.toNat : Int) != 47) = false := by simp only [bne, e47]; rfl
      have HV := Lib.hid (show (!anB b) = true from by unfold anB; simp [h47])
      rw [hb] at HB
      clear hb h47
      go_enter Tryz.func179, Tryz.ntmps179
      go_wp2_with (go_at_call 114; refine HB.out.mono ?_; rintro e w2 ⟨rfl, rfl⟩)
      go_ret
      exact ⟨by first | (rw [HV.out]; rfl) | rfl, rfl⟩
    have e47 : ((b.toNat : Int) == 47) = false := u8_ne (c := 47) (by decide) h47
    have n47 : ((b.toNat : Int) != 47) = true := by simp only [bne, e47]; rfl
    by_cases h62 : b = 62
    · have e62 : ((b.toNat : Int) == 62) = true := by rw [h62]; rfl
      have n62 : ((b.toNat : Int) != 62) = false := by simp only [bne, e62]; rfl
      have HV := Lib.hid (show (!anB b) = true from by unfold anB; simp [h62])
      rw [hb] at HB
      clear hb h62
      go_enter Tryz.func179, Tryz.ntmps179
      go_wp2_with (go_at_call 114; refine HB.out.mono ?_; rintro e w2 ⟨rfl, rfl⟩)
      go_ret
      exact ⟨by first | (rw [HV.out]; rfl) | rfl, rfl⟩
    have e62 : ((b.toNat : Int) == 62) = false := u8_ne (c := 62) (by decide) h62
    have n62 : ((b.toNat : Int) != 62) = true := by simp only [bne, e62]; rfl
    by_cases h61 : b = 61
    · have e61 : ((b.toNat : Int) == 61) = true := by rw [h61]; rfl
      have n61 : ((b.toNat : Int) != 61) = false := by simp only [bne, e61]; rfl
      have HV := Lib.hid (show (!anB b) = true from by unfold anB; simp [h61])
      rw [hb] at HB
      clear hb h61
      go_enter Tryz.func179, Tryz.ntmps179
      go_wp2_with (go_at_call 114; refine HB.out.mono ?_; rintro e w2 ⟨rfl, rfl⟩)
      go_ret
      exact ⟨by first | (rw [HV.out]; rfl) | rfl, rfl⟩
    have e61 : ((b.toNat : Int) == 61) = false := u8_ne (c := 61) (by decide) h61
    have n61 : ((b.toNat : Int) != 61) = true := by simp only [bne, e61]; rfl
    have HV := Lib.hid (show (!anB b) = false from by unfold anB; simp [hb, h47, h62, h61])
    rw [hb] at HB
    clear hb h47 h62 h61
    go_enter Tryz.func179, Tryz.ntmps179
    go_wp2_with (go_at_call 114; refine HB.out.mono ?_; rintro e w2 ⟨rfl, rfl⟩)
    go_ret
    exact ⟨by first | (rw [HV.out]; rfl) | rfl, rfl⟩
theorem valStop_any (b : UInt8) (w : World) : Calls Tryz.prog 222 #[.int .u8 (b.toNat : Int)] w fun e w' => e = .returned (.bool (!valB b)) ∧ w' = w := by
  have HB := Lib.hid (blank_any b w)
  cases hb : blankB b with
  | true =>
    have HV := Lib.hid (show (!valB b) = true from by unfold valB; simp [hb])
    rw [hb] at HB
    clear hb
    go_enter Tryz.func222, Tryz.ntmps222
    go_wp2_with (go_at_call 114; refine HB.out.mono ?_; rintro e w2 ⟨rfl, rfl⟩)
    go_ret
    exact ⟨by first | (rw [HV.out]; rfl) | rfl, rfl⟩
  | false =>
    by_cases h62 : b = 62
    · have e62 : ((b.toNat : Int) == 62) = true := by rw [h62]; rfl
      have n62 : ((b.toNat : Int) != 62) = false := by simp only [bne, e62]; rfl
      have HV := Lib.hid (show (!valB b) = true from by unfold valB; simp [h62])
      rw [hb] at HB
      clear hb h62
      go_enter Tryz.func222, Tryz.ntmps222
      go_wp2_with (go_at_call 114; refine HB.out.mono ?_; rintro e w2 ⟨rfl, rfl⟩)
      go_ret
      exact ⟨by first | (rw [HV.out]; rfl) | rfl, rfl⟩
    have e62 : ((b.toNat : Int) == 62) = false := u8_ne (c := 62) (by decide) h62
    have n62 : ((b.toNat : Int) != 62) = true := by simp only [bne, e62]; rfl
    have HV := Lib.hid (show (!valB b) = false from by unfold valB; simp [hb, h62])
    rw [hb] at HB
    clear hb h62
    go_enter Tryz.func222, Tryz.ntmps222
    go_wp2_with (go_at_call 114; refine HB.out.mono ?_; rintro e w2 ⟨rfl, rfl⟩)
    go_ret
    exact ⟨by first | (rw [HV.out]; rfl) | rfl, rfl⟩
theorem raw_any (s : ByteArray) (w : World) : Calls Tryz.prog 68 #[.string s] w fun e w' => e = .returned (.int .i64 (rawN s.data.toList : Int)) ∧ w' = w := by
  have hr : rawN s.data.toList = if s.data.toList = ([115, 99, 114, 105, 112, 116] : List UInt8) ∨ s.data.toList = ([115, 116, 121, 108, 101] : List UInt8) then 1 else if s.data.toList = ([116, 101, 120, 116, 97, 114, 101, 97] : List UInt8) ∨ s.data.toList = ([116, 105, 116, 108, 101] : List UInt8) then 2 else 0 := rfl
  have ht : s.toList = s.data.toList := ByteArray.toList_eq s
  by_cases h0 : s.data.toList = ([115, 99, 114, 105, 112, 116] : List UInt8)
  · have HV := Lib.hid (show rawN s.data.toList = 1 from by rw [hr, h0]; rfl)
    have e0 : (s.toList == ([115, 99, 114, 105, 112, 116] : List UInt8)) = true := by rw [ht, h0]; rfl
    clear hr ht h0
    go_enter Tryz.func68, Tryz.ntmps68
    go_wp2_with fail
    go_ret
    exact ⟨by first | (rw [HV.out]; rfl) | rfl, rfl⟩
  have e0 : (s.toList == ([115, 99, 114, 105, 112, 116] : List UInt8)) = false := by rw [ht]; exact beq_eq_false_iff_ne.2 h0
  by_cases h1 : s.data.toList = ([115, 116, 121, 108, 101] : List UInt8)
  · have HV := Lib.hid (show rawN s.data.toList = 1 from by rw [hr, h1]; rfl)
    have e1 : (s.toList == ([115, 116, 121, 108, 101] : List UInt8)) = true := by rw [ht, h1]; rfl
    clear hr ht h1
    go_enter Tryz.func68, Tryz.ntmps68
    go_wp2_with fail
    go_ret
    exact ⟨by first | (rw [HV.out]; rfl) | rfl, rfl⟩
  have e1 : (s.toList == ([115, 116, 121, 108, 101] : List UInt8)) = false := by rw [ht]; exact beq_eq_false_iff_ne.2 h1
  by_cases h2 : s.data.toList = ([116, 101, 120, 116, 97, 114, 101, 97] : List UInt8)
  · have HV := Lib.hid (show rawN s.data.toList = 2 from by rw [hr, h2]; rfl)
    have e2 : (s.toList == ([116, 101, 120, 116, 97, 114, 101, 97] : List UInt8)) = true := by rw [ht, h2]; rfl
    clear hr ht h2
    go_enter Tryz.func68, Tryz.ntmps68
    go_wp2_with fail
    go_ret
    exact ⟨by first | (rw [HV.out]; rfl) | rfl, rfl⟩
  have e2 : (s.toList == ([116, 101, 120, 116, 97, 114, 101, 97] : List UInt8)) = false := by rw [ht]; exact beq_eq_false_iff_ne.2 h2
  by_cases h3 : s.data.toList = ([116, 105, 116, 108, 101] : List UInt8)
  · have HV := Lib.hid (show rawN s.data.toList = 2 from by rw [hr, h3]; rfl)
    have e3 : (s.toList == ([116, 105, 116, 108, 101] : List UInt8)) = true := by rw [ht, h3]; rfl
    clear hr ht h3
    go_enter Tryz.func68, Tryz.ntmps68
    go_wp2_with fail
    go_ret
    exact ⟨by first | (rw [HV.out]; rfl) | rfl, rfl⟩
  have e3 : (s.toList == ([116, 105, 116, 108, 101] : List UInt8)) = false := by rw [ht]; exact beq_eq_false_iff_ne.2 h3
  have HV := Lib.hid (show rawN s.data.toList = 0 from by rw [hr, if_neg (not_or.2 ⟨h0, h1⟩), if_neg (not_or.2 ⟨h2, h3⟩)])
  clear hr ht h0 h1 h2 h3
  go_enter Tryz.func68, Tryz.ntmps68
  go_wp2_with fail
  go_ret
  exact ⟨by first | (rw [HV.out]; rfl) | rfl, rfl⟩
end Go.Proofs.YtegcedboeemedaaGreatDoor

/-
Tokens: the walks of Name and attrName.
-/
namespace Go.Proofs.YtegcedboeemedaaGreatDoor
open Go.RowKit Go.Cl
attribute [local go_sem ↓] Go.wp_at_zero Go.wp_at_succ
/-- A block of bytes: what it holds first. -/
def Bx (w : World) (X : Nat) (l : List UInt8) : Prop := ∃ (cs : Array Value) (f : Nat), w.heap[X]? = some (.cells cs 5 (f, f + 1)) ∧ l.length ≤ f ∧ ∀ j (hj : j < l.length), cs[j]? = some (.int .u8 (l[j].toNat : Int))
theorem Bx.cell {w : World} {X : Nat} {l : List UInt8} (h : Bx w X l) {j : Nat} (hj : j < l.length) : w.cell? ⟨X, j, none⟩ = some (.int .u8 (l[j].toNat : Int)) := by
  obtain ⟨cs, f, h1, _, h3⟩ := h
  rw [cell_of_row w X j cs _ _ h1]
  exact h3 j hj
theorem Bx.free {w : World} {X : Nat} {l : List UInt8} (h : Bx w X l) {j : Nat} (hj : j < l.length) : w.frozen? ⟨X, j, none⟩ = false := by
  obtain ⟨cs, f, h1, h2, _⟩ := h
  simp [World.frozen?, h1]
  omega
theorem Bx.set {w : World} {X : Nat} {l : List UInt8} (h : Bx w X l) (i : Nat) (x : UInt8) : Bx (w.setCell ⟨X, i, none⟩ (.int .u8 (x.toNat : Int))) X (l.set i x) := by
  obtain ⟨cs, f, h1, h2, h3⟩ := h
  refine ⟨cs.setIfInBounds i (.int .u8 (x.toNat : Int)), f, ?_, by rw [List.length_set]; exact h2, fun j hj => ?_⟩
  · simp [World.setCell, Array.getElem?_modify, h1]
  · rw [List.length_set] at hj
    have h4 := h3 j hj
    rw [List.getElem_set, Array.getElem?_setIfInBounds]
    by_cases e : i = j
    · subst e
      rw [if_pos rfl, if_pos rfl, if_pos (Array.getElem?_eq_some_iff.1 h4).1]
    · rw [if_neg e, if_neg e]
      exact h4
/-- []byte(s). -/
theorem bytes_new (w : World) (s : ByteArray) : ∃ c w', (convert 9 62 (.string s)).run Tryz.prog w = .ok (.slice (some ⟨w.heap.size, 0, none⟩) s.size c) w' ∧ Below w.heap.size w w' ∧ Bx w' w.heap.size s.data.toList ∧ s.size ≤ c := by
  refine ⟨_, _, run_bytes_of_string w _ _ 5 s Tryz.underlying9 Tryz.underlying62 Tryz.underlying5, ?_, ?_, grownCap_ge _ _ _ _⟩
  · exact ((Below.refl _ _).drew).alloc (Nat.le_refl _) _
  · refine ⟨_, _, heap_alloc_new w.drew _, ?_, fun j hj => ?_⟩
    · simp [bytesRow]
    · have hj' : j < s.data.size := by simpa using hj
      simp only [bytesRow]
      rw [Array.getElem?_append_left (by simpa using hj'), Array.getElem?_map, Array.getElem?_eq_getElem hj']
      rfl
theorem Bx.str {w : World} {X : Nat} {l : List UInt8} (h : Bx w X l) (c : Nat) : (convert 62 9 (.slice (some ⟨X, 0, none⟩) l.length c)).run Tryz.prog w = .ok (.string ⟨l.toArray⟩) w :=
  run_convert_bytes_back w _ _ 5 ⟨X, 0, none⟩ c l Tryz.underlying62 Tryz.underlying5 Tryz.underlying9 fun j hj => by
    rw [show (⟨X, 0, none⟩ : Addr).add j = ⟨X, j, none⟩ from by unfold Addr.add; split <;> simp_all]
    exact h.cell hj
theorem nameB_up {b : UInt8} (h1 : 65 ≤ b.toNat) (h2 : b.toNat ≤ 90) : nameB b = b + 32 ∧ (IntKind.u8.wrap ((b.toNat : Int) + 32)) = ((nameB b).toNat : Int) := by
  have e : nameB b = b + 32 := if_pos ⟨h1, h2⟩
  refine ⟨e, ?_⟩
  rw [e, IntKind.wrap_u8, UInt8.toNat_add]
  show _ = (((b.toNat + 32) % 256 : Nat) : Int)
  omega
theorem nameB_same {b : UInt8} (h1 : ¬ (65 ≤ b.toNat ∧ b.toNat ≤ 90)) (h2 : (97 ≤ b.toNat ∧ b.toNat ≤ 122) ∨ (48 ≤ b.toNat ∧ b.toNat ≤ 57) ∨ b = 45 ∨ b = 95 ∨ b = 58) : nameB b = b := by
  unfold nameB
  rw [if_neg h1, if_pos h2]
theorem nameB_line {b : UInt8} (h1 : ¬ (65 ≤ b.toNat ∧ b.toNat ≤ 90)) (h2 : ¬ ((97 ≤ b.toNat ∧ b.toNat ≤ 122) ∨ (48 ≤ b.toNat ∧ b.toNat ≤ 57) ∨ b = 45 ∨ b = 95 ∨ b = 58)) : nameB b = 95 := by
  unfold nameB
  rw [if_neg h1, if_neg h2]
/-- One more sign is as it shall be. -/
theorem name_step {t : List UInt8} {k : Nat} (h : k < t.length) : ((t.take k).map nameB ++ t.drop k).set k (nameB t[k]) = (t.take (k + 1)).map nameB ++ t.drop (k + 1) := by
  have h1 : ((t.take k).map nameB).length = k := by rw [List.length_map, List.length_take]; omega
  rw [List.set_append, if_neg (by omega), h1, Nat.sub_self, List.drop_eq_getElem_cons h, List.set_cons_zero, take_snoc (List.getElem?_eq_getElem h), List.map_append, List.append_assoc]
  rfl
theorem name_at {t : List UInt8} {k : Nat} (h : k < t.length) (hk : k < ((t.take k).map nameB ++ t.drop k).length) : ((t.take k).map nameB ++ t.drop k)[k] = t[k] := by
  have h1 : ((t.take k).map nameB).length = k := by rw [List.length_map, List.length_take]; omega
  rw [List.getElem_append_right (by omega), List.getElem_drop]
  congr 1
  omega
theorem name_keep {t : List UInt8} {k : Nat} (h : k < t.length) (he : nameB t[k] = t[k]) : (t.take k).map nameB ++ t.drop k = (t.take (k + 1)).map nameB ++ t.drop (k + 1) := by
  rw [take_snoc (List.getElem?_eq_getElem h), List.map_append, List.append_assoc, List.drop_eq_getElem_cons h]
  show _ ++ (t[k] :: _) = _ ++ (nameB t[k] :: _)
  rw [he]
  rfl
set_option maxRecDepth 100000 in
set_option maxHeartbeats 8000000 in
theorem tkName_any (s : ByteArray) (w : World) : Calls Tryz.prog 77 #[.string s] w fun e w' => e = .returned (.string ⟨(nameL s.data.toList).toArray⟩) ∧ Below w.heap.size w w' := by
  obtain ⟨m, hm, hm1, hm2, hm3⟩ := min_nat s.size 40 (by decide)
  have hm4 : m ≤ 40 := by omega
  obtain ⟨t, ht⟩ : ∃ t, s.data.toList.take m = t := ⟨_, rfl⟩
  have hsl : s.data.toList.length = s.size := by simp
  have htl : t.length = m := by rw [← ht, List.length_take]; omega
  have HN := Lib.hid (show nameL s.data.toList = t.map nameB from by
    unfold nameL
    rw [← ht]
    rcases hm3 with e | e
    · rw [List.take_of_length_le (show s.data.toList.length ≤ 40 by omega), List.take_of_length_le (show s.data.toList.length ≤ m by omega)]
    · rw [show m = 40 by omega])
  obtain ⟨tS, htS⟩ : ∃ tS, s.extract 0 m = tS := ⟨_, rfl⟩
  have hts : tS.data.toList = t := by rw [← htS, ByteArray.data_extract, Array.toList_extract, List.extract_eq_take_drop, ← ht]; simp
  have hss : tS.size = m := by rw [← htl, ← hts]; simp
  obtain ⟨c, w1, hcv, hb1, hx1, hc1⟩ := bytes_new w tS
  rw [hts] at hx1
  rw [hss] at hcv
  have HB1 := Lib.hid hb1
  have HX1 := Lib.hid hx1
  have HTL := Lib.hid htl
  have hmc : m ≤ c := by omega
  generalize hX : w.heap.size = X at *
  clear hb1 hx1 hc1 hts hss ht hsl htl hm3
  go_enter Tryz.func77, Tryz.ntmps77
  go_upto_region 3 with fail
  clear hcv
  go_loopw [14] (fun i wr => ∃ k : Nat, k ≤ m ∧ i = .int .i64 (k : Int) ∧ Hid (Bx wr X ((t.take k).map nameB ++ t.drop k)) ∧ Hid (Below X w wr)) (fun i _ => m - (intOf i).toNat)
  case atStart => exact ⟨0, Nat.zero_le _, rfl, HX1, HB1⟩
  case round =>
    obtain ⟨k, hk, rfl, HB, HW⟩ := hrel
    by_cases hkm : k < m
    · have HKL : Hid (k < t.length) := by have := HTL.out; show k < _; omega
      have hlen : ((t.take k).map nameB ++ t.drop k).length = m := by have := HTL.out; rw [List.length_append, List.length_map, List.length_take, List.length_drop]; omega
      have cb := HB.out.cell (j := k) (by omega)
      have fb := HB.out.free (j := k) (by omega)
      rw [name_at HKL.out] at cb
      have i1 : (0 : Int) ≤ (k : Int) := by omega
      have i2 : (k : Int) < (m : Int) := by omega
      have HST := Lib.hid (name_step HKL.out)
      have HKP := Lib.hid (fun he => name_keep HKL.out he)
      generalize hb : t[k]'HKL.out = b at *
      have hb8 := b.toNat_lt
      clear hlen hb
      by_cases q48 : b.toNat < 48
      · skip
        by_cases hq : b = 45
        · have hn : b.toNat = 45 := by rw [hq]; rfl
          have g65 : ¬ (65 : Int) ≤ (b.toNat : Int) := by omega
          have g97 : ¬ (97 : Int) ≤ (b.toNat : Int) := by omega
          have g48 : ¬ (48 : Int) ≤ (b.toNat : Int) := by omega
          have e45 : ((b.toNat : Int) == 45) = true := by rw [beq_iff_eq]; omega
          have e95 : ((b.toNat : Int) == 95) = false := beq_eq_false_iff_ne.2 (by omega)
          have e58 : ((b.toNat : Int) == 58) = false := beq_eq_false_iff_ne.2 (by omega)
          have HB2 := Lib.hid (show Bx wr X ((t.take (k + 1)).map nameB ++ t.drop (k + 1)) from HKP.out (nameB_same (by omega) (by first | omega | (right; right; left; exact hq) | (right; right; right; left; exact hq) | (right; right; right; right; exact hq))) ▸ HB.out)
          clear HKP HST
          go_wp2_with fail
          go_roundw
          case rel => exact ⟨k + 1, by omega, by go_num, HB2, Lib.hid (HW.out)⟩
          case measure => simp [intOf]; omega
        · have hn : b.toNat ≠ 45 := fun e => hq (UInt8.toNat_inj.1 e)
          have g65 : ¬ (65 : Int) ≤ (b.toNat : Int) := by omega
          have g97 : ¬ (97 : Int) ≤ (b.toNat : Int) := by omega
          have g48 : ¬ (48 : Int) ≤ (b.toNat : Int) := by omega
          have e45 : ((b.toNat : Int) == 45) = false := beq_eq_false_iff_ne.2 (by omega)
          have e95 : ((b.toNat : Int) == 95) = false := beq_eq_false_iff_ne.2 (by omega)
          have e58 : ((b.toNat : Int) == 58) = false := beq_eq_false_iff_ne.2 (by omega)
          have HB2 := Lib.hid (show Bx (wr.setCell ⟨X, k, none⟩ (.int .u8 95)) X ((t.take (k + 1)).map nameB ++ t.drop (k + 1)) from by have h := HB.out.set k (nameB b); rw [HST.out, nameB_line (by omega) (by rintro (h | h | h | h | h) <;> first | omega | (rw [h] at e45; exact absurd e45 (by decide)) | (rw [h] at e95; exact absurd e95 (by decide)) | (rw [h] at e58; exact absurd e58 (by decide)))] at h; exact h)
          clear HKP HST
          go_wp2_with fail
          go_roundw
          case rel => exact ⟨k + 1, by omega, by go_num, HB2, Lib.hid (HW.out.setCell (p := ⟨X, k, none⟩) (Nat.le_refl _) _)⟩
          case measure => simp [intOf]; omega
      by_cases q58 : b.toNat < 58
      · skip
        have g65 : ¬ (65 : Int) ≤ (b.toNat : Int) := by omega
        have g97 : ¬ (97 : Int) ≤ (b.toNat : Int) := by omega
        have g48 : (48 : Int) ≤ (b.toNat : Int) := by omega
        have l57 : (b.toNat : Int) ≤ 57 := by omega
        have HB2 := Lib.hid (show Bx wr X ((t.take (k + 1)).map nameB ++ t.drop (k + 1)) from HKP.out (nameB_same (by omega) (by first | omega | (right; right; left; exact hq) | (right; right; right; left; exact hq) | (right; right; right; right; exact hq))) ▸ HB.out)
        clear HKP HST
        go_wp2_with fail
        go_roundw
        case rel => exact ⟨k + 1, by omega, by go_num, HB2, Lib.hid (HW.out)⟩
        case measure => simp [intOf]; omega
      by_cases q65 : b.toNat < 65
      · skip
        by_cases hq : b = 58
        · have hn : b.toNat = 58 := by rw [hq]; rfl
          have g65 : ¬ (65 : Int) ≤ (b.toNat : Int) := by omega
          have g97 : ¬ (97 : Int) ≤ (b.toNat : Int) := by omega
          have g48 : (48 : Int) ≤ (b.toNat : Int) := by omega
          have l57 : ¬ (b.toNat : Int) ≤ 57 := by omega
          have e45 : ((b.toNat : Int) == 45) = false := beq_eq_false_iff_ne.2 (by omega)
          have e95 : ((b.toNat : Int) == 95) = false := beq_eq_false_iff_ne.2 (by omega)
          have e58 : ((b.toNat : Int) == 58) = true := by rw [beq_iff_eq]; omega
          have HB2 := Lib.hid (show Bx wr X ((t.take (k + 1)).map nameB ++ t.drop (k + 1)) from HKP.out (nameB_same (by omega) (by first | omega | (right; right; left; exact hq) | (right; right; right; left; exact hq) | (right; right; right; right; exact hq))) ▸ HB.out)
          clear HKP HST
          go_wp2_with fail
          go_roundw
          case rel => exact ⟨k + 1, by omega, by go_num, HB2, Lib.hid (HW.out)⟩
          case measure => simp [intOf]; omega
        · have hn : b.toNat ≠ 58 := fun e => hq (UInt8.toNat_inj.1 e)
          have g65 : ¬ (65 : Int) ≤ (b.toNat : Int) := by omega
          have g97 : ¬ (97 : Int) ≤ (b.toNat : Int) := by omega
          have g48 : (48 : Int) ≤ (b.toNat : Int) := by omega
          have l57 : ¬ (b.toNat : Int) ≤ 57 := by omega
          have e45 : ((b.toNat : Int) == 45) = false := beq_eq_false_iff_ne.2 (by omega)
          have e95 : ((b.toNat : Int) == 95) = false := beq_eq_false_iff_ne.2 (by omega)
          have e58 : ((b.toNat : Int) == 58) = false := beq_eq_false_iff_ne.2 (by omega)
          have HB2 := Lib.hid (show Bx (wr.setCell ⟨X, k, none⟩ (.int .u8 95)) X ((t.take (k + 1)).map nameB ++ t.drop (k + 1)) from by have h := HB.out.set k (nameB b); rw [HST.out, nameB_line (by omega) (by rintro (h | h | h | h | h) <;> first | omega | (rw [h] at e45; exact absurd e45 (by decide)) | (rw [h] at e95; exact absurd e95 (by decide)) | (rw [h] at e58; exact absurd e58 (by decide)))] at h; exact h)
          clear HKP HST
          go_wp2_with fail
          go_roundw
          case rel => exact ⟨k + 1, by omega, by go_num, HB2, Lib.hid (HW.out.setCell (p := ⟨X, k, none⟩) (Nat.le_refl _) _)⟩
          case measure => simp [intOf]; omega
      by_cases q91 : b.toNat < 91
      · skip
        have g65 : (65 : Int) ≤ (b.toNat : Int) := by omega
        have l90 : (b.toNat : Int) ≤ 90 := by omega
        have HV2 := Lib.hid (show (b.toNat : Int) + 32 = ((nameB b).toNat : Int) from by have h := (nameB_up (b := b) (by omega) (by omega)).2; rw [IntKind.wrap_u8] at h; omega)
        have HB2 := Lib.hid (show Bx (wr.setCell ⟨X, k, none⟩ (.int .u8 ((nameB b).toNat : Int))) X ((t.take (k + 1)).map nameB ++ t.drop (k + 1)) from HST.out ▸ HB.out.set k (nameB b))
        clear HKP HST
        go_wp2_with fail
        go_roundw
        case rel => exact ⟨k + 1, by omega, by go_num, Lib.hid (by rw [HV2.out]; exact HB2.out), Lib.hid (HW.out.setCell (p := ⟨X, k, none⟩) (Nat.le_refl _) _)⟩
        case measure => simp [intOf]; omega
      by_cases q97 : b.toNat < 97
      · skip
        by_cases hq : b = 95
        · have hn : b.toNat = 95 := by rw [hq]; rfl
          have g65 : (65 : Int) ≤ (b.toNat : Int) := by omega
          have l90 : ¬ (b.toNat : Int) ≤ 90 := by omega
          have g97 : ¬ (97 : Int) ≤ (b.toNat : Int) := by omega
          have g48 : (48 : Int) ≤ (b.toNat : Int) := by omega
          have l57 : ¬ (b.toNat : Int) ≤ 57 := by omega
          have e45 : ((b.toNat : Int) == 45) = false := beq_eq_false_iff_ne.2 (by omega)
          have e95 : ((b.toNat : Int) == 95) = true := by rw [beq_iff_eq]; omega
          have e58 : ((b.toNat : Int) == 58) = false := beq_eq_false_iff_ne.2 (by omega)
          have HB2 := Lib.hid (show Bx wr X ((t.take (k + 1)).map nameB ++ t.drop (k + 1)) from HKP.out (nameB_same (by omega) (by first | omega | (right; right; left; exact hq) | (right; right; right; left; exact hq) | (right; right; right; right; exact hq))) ▸ HB.out)
          clear HKP HST
          go_wp2_with fail
          go_roundw
          case rel => exact ⟨k + 1, by omega, by go_num, HB2, Lib.hid (HW.out)⟩
          case measure => simp [intOf]; omega
        · have hn : b.toNat ≠ 95 := fun e => hq (UInt8.toNat_inj.1 e)
          have g65 : (65 : Int) ≤ (b.toNat : Int) := by omega
          have l90 : ¬ (b.toNat : Int) ≤ 90 := by omega
          have g97 : ¬ (97 : Int) ≤ (b.toNat : Int) := by omega
          have g48 : (48 : Int) ≤ (b.toNat : Int) := by omega
          have l57 : ¬ (b.toNat : Int) ≤ 57 := by omega
          have e45 : ((b.toNat : Int) == 45) = false := beq_eq_false_iff_ne.2 (by omega)
          have e95 : ((b.toNat : Int) == 95) = false := beq_eq_false_iff_ne.2 (by omega)
          have e58 : ((b.toNat : Int) == 58) = false := beq_eq_false_iff_ne.2 (by omega)
          have HB2 := Lib.hid (show Bx (wr.setCell ⟨X, k, none⟩ (.int .u8 95)) X ((t.take (k + 1)).map nameB ++ t.drop (k + 1)) from by have h := HB.out.set k (nameB b); rw [HST.out, nameB_line (by omega) (by rintro (h | h | h | h | h) <;> first | omega | (rw [h] at e45; exact absurd e45 (by decide)) | (rw [h] at e95; exact absurd e95 (by decide)) | (rw [h] at e58; exact absurd e58 (by decide)))] at h; exact h)
          clear HKP HST
          go_wp2_with fail
          go_roundw
          case rel => exact ⟨k + 1, by omega, by go_num, HB2, Lib.hid (HW.out.setCell (p := ⟨X, k, none⟩) (Nat.le_refl _) _)⟩
          case measure => simp [intOf]; omega
      by_cases q123 : b.toNat < 123
      · skip
        have g65 : (65 : Int) ≤ (b.toNat : Int) := by omega
        have l90 : ¬ (b.toNat : Int) ≤ 90 := by omega
        have g97 : (97 : Int) ≤ (b.toNat : Int) := by omega
        have l122 : (b.toNat : Int) ≤ 122 := by omega
        have HB2 := Lib.hid (show Bx wr X ((t.take (k + 1)).map nameB ++ t.drop (k + 1)) from HKP.out (nameB_same (by omega) (by first | omega | (right; right; left; exact hq) | (right; right; right; left; exact hq) | (right; right; right; right; exact hq))) ▸ HB.out)
        clear HKP HST
        go_wp2_with fail
        go_roundw
        case rel => exact ⟨k + 1, by omega, by go_num, HB2, Lib.hid (HW.out)⟩
        case measure => simp [intOf]; omega
      have hq : b ≠ 45 ∧ b ≠ 95 ∧ b ≠ 58 := ⟨fun e => by subst e; exact absurd q123 (by decide), fun e => by subst e; exact absurd q123 (by decide), fun e => by subst e; exact absurd q123 (by decide)⟩
      have g65 : (65 : Int) ≤ (b.toNat : Int) := by omega
      have l90 : ¬ (b.toNat : Int) ≤ 90 := by omega
      have g97 : (97 : Int) ≤ (b.toNat : Int) := by omega
      have l122 : ¬ (b.toNat : Int) ≤ 122 := by omega
      have g48 : (48 : Int) ≤ (b.toNat : Int) := by omega
      have l57 : ¬ (b.toNat : Int) ≤ 57 := by omega
      have e45 : ((b.toNat : Int) == 45) = false := beq_eq_false_iff_ne.2 (by omega)
      have e95 : ((b.toNat : Int) == 95) = false := beq_eq_false_iff_ne.2 (by omega)
      have e58 : ((b.toNat : Int) == 58) = false := beq_eq_false_iff_ne.2 (by omega)
      have HB2 := Lib.hid (show Bx (wr.setCell ⟨X, k, none⟩ (.int .u8 95)) X ((t.take (k + 1)).map nameB ++ t.drop (k + 1)) from by have h := HB.out.set k (nameB b); rw [HST.out, nameB_line (by omega) (by rintro (h | h | h | h | h) <;> first | omega | (rw [h] at e45; exact absurd e45 (by decide)) | (rw [h] at e95; exact absurd e95 (by decide)) | (rw [h] at e58; exact absurd e58 (by decide)))] at h; exact h)
      clear HKP HST
      go_wp2_with fail
      go_roundw
      case rel => exact ⟨k + 1, by omega, by go_num, HB2, Lib.hid (HW.out.setCell (p := ⟨X, k, none⟩) (Nat.le_refl _) _)⟩
      case measure => simp [intOf]; omega
    · obtain rfl : k = m := by omega
      have hcv : (convert 62 9 (.slice (some ⟨X, 0, none⟩) k c)).run Tryz.prog wr = .ok (.string ⟨(t.map nameB).toArray⟩) wr := by
        have h := HB.out
        rw [List.take_of_length_le (by have := HTL.out; omega), List.drop_eq_nil_of_le (by have := HTL.out; omega), List.append_nil] at h
        have h2 := h.str c
        rw [List.length_map, HTL.out] at h2
        exact h2
      go_wp2_with fail
      go_ret
      exact ⟨by rw [HN.out]; rfl, HW.out⟩
end Go.Proofs.YtegcedboeemedaaGreatDoor

/-
Tokens: the reader's until.
-/
namespace Go.Proofs.YtegcedboeemedaaGreatDoor
open Go.RowKit Go.Cl
attribute [local go_sem ↓] Go.wp_at_zero Go.wp_at_succ
/-- The reader in its box: the text, where it is, where the last markup ended, the row of tokens. -/
def Rc (w : World) (X : Nat) (s : ByteArray) (a : Nat) (E : Int) (O : Value) : Prop := w.heap[X]? = some (.cells #[.string s, .int .i64 (a : Int), .int .i64 E, O] 58 (0, 0))
section
variable {w w' : World} {X : Nat} {s : ByteArray} {a : Nat} {E : Int} {O : Value}
theorem Rc.c0 (h : Rc w X s a E O) : w.cell? ⟨X, 0, none⟩ = some (.string s) := cell_blk (i := 0) h rfl
theorem Rc.c1 (h : Rc w X s a E O) : w.cell? ⟨X, 1, none⟩ = some (.int .i64 (a : Int)) := cell_blk (i := 1) h rfl
theorem Rc.c2 (h : Rc w X s a E O) : w.cell? ⟨X, 2, none⟩ = some (.int .i64 E) := cell_blk (i := 2) h rfl
theorem Rc.c3 (h : Rc w X s a E O) : w.cell? ⟨X, 3, none⟩ = some O := cell_blk (i := 3) h rfl
theorem Rc.fr (h : Rc w X s a E O) (i : Nat) : w.frozen? ⟨X, i, none⟩ = false := free_blk h
theorem Rc.lt (h : Rc w X s a E O) : X < w.heap.size := (Array.getElem?_eq_some_iff.1 h).1
theorem Rc.drew (h : Rc w X s a E O) : Rc w.drew X s a E O := h
theorem Rc.next (h : Rc w X s a E O) (hb : Below w.heap.size w w') : Rc w' X s a E O := (hb.block X h.lt).trans h
/-- The reader has gone on. -/
theorem Rc.go (h : Rc w X s a E O) (b : Nat) : Rc (w.setCell ⟨X, 1, none⟩ (.int .i64 (b : Int))) X s b E O ∧ w.grownBy (w.setCell ⟨X, 1, none⟩ (.int .i64 (b : Int))) (some X) := ⟨set_blk h _, grown_set w X 1 _⟩
end
theorem grown_below {a b : World} (h : Below a.heap.size a b) (row : Option Nat) : a.grownBy b row := ⟨h.os, h.tape, h.output, h.size, fun k hk _ => h.block k hk⟩
def atOf (W : World) (X : Nat) : Nat := match W.cell? ⟨X, 1, none⟩ with
  | some (.int _ i) => i.toNat
  | _ => 0
theorem Rc.at_ {w : World} {X : Nat} {s : ByteArray} {a : Nat} {E : Int} {O : Value} (h : Rc w X s a E O) : atOf w X = a := by
  unfold atOf
  rw [h.c1]
  simp
theorem take_end (p : UInt8 → Bool) {l : List UInt8} {j : Nat} (h : l.length ≤ j) : (l.drop j).takeWhile p = [] := by rw [List.drop_eq_nil_of_le h]; rfl
theorem take_stop (p : UInt8 → Bool) {l : List UInt8} {j : Nat} (h : j < l.length) (hp : p l[j] = false) : (l.drop j).takeWhile p = [] := by rw [List.drop_eq_getElem_cons h, List.takeWhile_cons, hp]; rfl
theorem take_more (p : UInt8 → Bool) {l : List UInt8} {j : Nat} (h : j < l.length) (hp : p l[j] = true) : (l.drop j).takeWhile p = l[j] :: (l.drop (j + 1)).takeWhile p := by rw [List.drop_eq_getElem_cons h, List.takeWhile_cons, hp]; rfl
theorem cut_at (s : ByteArray) {a j : Nat} {x : List UInt8} (h : s.data.toList.drop a = x ++ s.data.toList.drop j) (hj : j = a + x.length) : s.extract a j = ⟨x.toArray⟩ := by
  apply ByteArray.ext
  apply Array.toList_inj.1
  rw [ByteArray.data_extract, Array.toList_extract, List.extract_eq_take_drop, h, hj, show a + x.length - a = x.length by omega, List.take_left']
  rfl
theorem drop_more {l : List UInt8} {a j : Nat} {x : List UInt8} (h : l.drop a = x ++ l.drop j) (hj : j < l.length) : l.drop a = (x ++ [l[j]]) ++ l.drop (j + 1) := by rw [h, List.drop_eq_getElem_cons hj, List.append_assoc]; rfl
set_option maxRecDepth 100000 in
set_option maxHeartbeats 4000000 in
theorem until_any (f : FuncId) (p : UInt8 → Bool) (hent : ∀ args w, (callFunc f args).run Tryz.prog w = .ok (.enter f args) w) (hf : ∀ (b : UInt8) (u : World), Calls Tryz.prog f #[.int .u8 (b.toNat : Int)] u fun e w' => e = .returned (.bool (!p b)) ∧ w' = u) (X : Nat) (s : ByteArray) (a : Nat) (E : Int) (O : Value) (w : World) (ha : a ≤ s.size) (hs : s.size ≤ 1000000) (h : Rc w X s a E O) :
    Calls Tryz.prog 144 #[.pointer (some ⟨X, 0, none⟩), .func (.func f) #[] #[]] w fun e w' => e = .returned (.string ⟨((s.data.toList.drop a).takeWhile p).toArray⟩) ∧ w.grownBy w' (some X) ∧ Rc w' X s (a + ((s.data.toList.drop a).takeWhile p).length) E O := by
  have HLEN := Lib.hid (show s.data.toList.length = s.size by simp)
  have H := Lib.hid h
  have HF0 := Lib.hid hf
  clear hf
  have c1 := h.c1
  clear h
  go_enter Tryz.func144, Tryz.ntmps144
  go_upto_region 2 with fail
  clear c1
  go_loopw [] (fun wr => ∃ (j : Nat) (x : List UInt8), j ≤ s.size ∧ j = a + x.length ∧ Hid (s.data.toList.drop a = x ++ s.data.toList.drop j) ∧ Hid ((s.data.toList.drop a).takeWhile p = x ++ (s.data.toList.drop j).takeWhile p) ∧ Hid (Rc wr X s j E O) ∧ Hid (w.grownBy wr (some X))) (fun wr => s.size - atOf wr X)
  case atStart => exact ⟨a, [], ha, rfl, Lib.hid rfl, Lib.hid rfl, H, Lib.hid (World.grownBy.refl w _)⟩
  case round =>
    obtain ⟨j, x, hj, hjx, HD, HT, HR, HG⟩ := hrel
    have HJ := Lib.hid hjx
    have i0 : (0 : Int) ≤ (a : Int) := by omega
    have i1 : (a : Int) ≤ (j : Int) := by omega
    have i2 : (0 : Int) ≤ (j : Int) := by omega
    have i3 : (j : Int) ≤ (s.size : Int) := by omega
    have HX := Lib.hid (cut_at s HD.out hjx)
    have HM := Lib.hid HR.out.at_
    clear hjx
    by_cases hlt : j < s.size
    · have hlt' : (j : Int) < (s.size : Int) := by omega
      have HLT : Hid (j < s.data.toList.length) := by have := HLEN.out; show j < _; omega
      cases hp : p s[j] with
      | true =>
        have HF : Hid (Calls Tryz.prog f #[.int .u8 (s[j].toNat : Int)] wr.drew fun e w' => e = .returned (.bool false) ∧ w' = wr.drew) := by have h := HF0.out s[j] wr.drew; rw [hp] at h; exact h
        have HT2 := Lib.hid (show (s.data.toList.drop a).takeWhile p = (x ++ [s[j]]) ++ (s.data.toList.drop (j + 1)).takeWhile p from by rw [HT.out, take_more _ HLT.out hp, List.append_assoc]; rfl)
        have HD2 := Lib.hid (drop_more HD.out HLT.out)
        have w1 : IntKind.i64.wrap ((j : Int) + 1) = (j : Int) + 1 := IntWalk.i64_in _ (by omega)
        clear hp HT HD
        go_upto_region 2 with fail
        refine wp_region_G (S := (fun W : World => W.cell? ⟨X, 0, none⟩ = some (.string s) ∧ W.cell? ⟨X, 1, none⟩ = some (.int .i64 (j : Int)))) (T := []) (by kernel_rfl) ?_
        have hS : (fun W : World => W.cell? ⟨X, 0, none⟩ = some (.string s) ∧ W.cell? ⟨X, 1, none⟩ = some (.int .i64 (j : Int))) wr.drew := ⟨HR.out.c0, HR.out.c1⟩
        refine wpAnyG_pureW (i := 0) (v := ?_) rfl (by kernel_rfl) (by kernel_rfl) (by kernel_rfl) (fun _ _ _ h => h) (by kernel_rfl) ?_ ?_
        rotate_left
        · intro w'
          first | (go_simp; done) | (go_simp; with_reducible rfl)
        refine wpAnyG_pureW (i := 1) (v := ?_) rfl (by kernel_rfl) (by kernel_rfl) (by kernel_rfl) (fun _ _ _ h => h) (by kernel_rfl) ?_ ?_
        rotate_left
        · intro w'
          first | (go_simp; done) | (go_simp; with_reducible rfl)
        refine wpAnyG_pureW (i := 2) (v := ?_) rfl (by kernel_rfl) (by kernel_rfl) (by kernel_rfl) (fun _ _ _ h => h) (by kernel_rfl) ?_ ?_
        rotate_left
        · intro w'
          first | (go_simp; done) | (go_simp; with_reducible rfl)
        refine wpAnyG_takeW (i := 3) (v := ?_) rfl (by kernel_rfl) (by kernel_rfl) (by kernel_rfl) (by kernel_rfl) (fun _ _ _ h => h) hS (by kernel_rfl) ?_ ?_
        rotate_left
        · intro w' hSw
          (try dsimp only at hSw)
          first | (go_simp; done) | (go_simp; with_reducible rfl)
        refine wpAnyG_pureW (i := 4) (v := ?_) rfl (by kernel_rfl) (by kernel_rfl) (by kernel_rfl) (fun _ _ _ h => h) (by kernel_rfl) ?_ ?_
        rotate_left
        · intro w'
          first | (go_simp; done) | (go_simp; with_reducible rfl)
        refine wpAnyG_pureW (i := 5) (v := ?_) rfl (by kernel_rfl) (by kernel_rfl) (by kernel_rfl) (fun _ _ _ h => h) (by kernel_rfl) ?_ ?_
        rotate_left
        · intro w'
          first | (go_simp; done) | (go_simp; with_reducible rfl)
        refine wpAnyG_pureW (i := 6) (v := ?_) rfl (by kernel_rfl) (by kernel_rfl) (by kernel_rfl) (fun _ _ _ h => h) (by kernel_rfl) ?_ ?_
        rotate_left
        · intro w'
          first | (go_simp; done) | (go_simp; with_reducible rfl)
        refine wpAnyG_takeW (i := 7) (v := ?_) rfl (by kernel_rfl) (by kernel_rfl) (by kernel_rfl) (by kernel_rfl) (fun _ _ _ h => h) hS (by kernel_rfl) ?_ ?_
        rotate_left
        · intro w' hSw
          (try dsimp only at hSw)
          first | (go_simp; done) | (go_simp; with_reducible rfl)
        refine wpAnyG_pureW (i := 8) (v := ?_) rfl (by kernel_rfl) (by kernel_rfl) (by kernel_rfl) (fun _ _ _ h => h) (by kernel_rfl) ?_ ?_
        rotate_left
        · intro w'
          first | (go_simp; done) | (go_simp; with_reducible rfl)
        refine wpAnyG_pureW (i := 9) (v := ?_) rfl (by kernel_rfl) (by kernel_rfl) (by kernel_rfl) (fun _ _ _ h => h) (by kernel_rfl) ?_ ?_
        rotate_left
        · intro w'
          first | (go_simp; done) | (go_simp; with_reducible rfl)
        refine wpAnyG_pureW (i := 10) (v := ?_) rfl (by kernel_rfl) (by kernel_rfl) (by kernel_rfl) (fun _ _ _ h => h) (by kernel_rfl) ?_ ?_
        rotate_left
        · intro w'
          first | (go_simp; done) | (go_simp; with_reducible rfl)
        refine wpAnyG_pureW (i := 11) (v := ?_) rfl (by kernel_rfl) (by kernel_rfl) (by kernel_rfl) (fun _ _ _ h => h) (by kernel_rfl) ?_ ?_
        rotate_left
        · intro w'
          first | (go_simp; done) | (go_simp; with_reducible rfl)
        refine wpAnyG_pureW (i := 12) (v := ?_) rfl (by kernel_rfl) (by kernel_rfl) (by kernel_rfl) (fun _ _ _ h => h) (by kernel_rfl) ?_ ?_
        rotate_left
        · intro w'
          first | (go_simp; done) | (go_simp; with_reducible rfl)
        refine wpAnyG_pureW (i := 13) (v := ?_) rfl (by kernel_rfl) (by kernel_rfl) (by kernel_rfl) (fun _ _ _ h => h) (by kernel_rfl) ?_ ?_
        rotate_left
        · intro w'
          first | (go_simp; done) | (go_simp; with_reducible rfl)
        refine wpAnyG_pureW (i := 14) (v := ?_) rfl (by kernel_rfl) (by kernel_rfl) (by kernel_rfl) (fun _ _ _ h => h) (by kernel_rfl) ?_ ?_
        rotate_left
        · intro w'
          first | (go_simp; done) | (go_simp; with_reducible rfl)
        refine wpAnyG_takeW (i := 15) (v := ?_) rfl (by kernel_rfl) (by kernel_rfl) (by kernel_rfl) (by kernel_rfl) (fun _ _ _ h => h) hS (by kernel_rfl) ?_ ?_
        rotate_left
        · intro w' hSw
          (try dsimp only at hSw)
          first | (go_simp; done) | (go_simp; with_reducible rfl)
        refine wpAnyG_pureW (i := 16) (v := ?_) rfl (by kernel_rfl) (by kernel_rfl) (by kernel_rfl) (fun _ _ _ h => h) (by kernel_rfl) ?_ ?_
        rotate_left
        · intro w'
          first | (go_simp; done) | (go_simp; with_reducible rfl)
        refine wpAnyG_pureW (i := 17) (v := ?_) rfl (by kernel_rfl) (by kernel_rfl) (by kernel_rfl) (fun _ _ _ h => h) (by kernel_rfl) ?_ ?_
        rotate_left
        · intro w'
          first | (go_simp; done) | (go_simp; with_reducible rfl)
        refine wpAnyG_pureW (i := 18) (v := ?_) rfl (by kernel_rfl) (by kernel_rfl) (by kernel_rfl) (fun _ _ _ h => h) (by kernel_rfl) ?_ ?_
        rotate_left
        · intro w'
          first | (go_simp; done) | (go_simp; with_reducible rfl)
        refine wpAnyG_takeW (i := 19) (v := ?_) rfl (by kernel_rfl) (by kernel_rfl) (by kernel_rfl) (by kernel_rfl) (fun _ _ _ h => h) hS (by kernel_rfl) ?_ ?_
        rotate_left
        · intro w' hSw
          (try dsimp only at hSw)
          first | (go_simp; done) | (go_simp; with_reducible rfl)
        refine wpAnyG_pureW (i := 20) (v := ?_) rfl (by kernel_rfl) (by kernel_rfl) (by kernel_rfl) (fun _ _ _ h => h) (by kernel_rfl) ?_ ?_
        rotate_left
        · intro w'
          first | (go_simp; done) | (go_simp; with_reducible rfl)
        refine wpAnyG_oneW (i := 21) (by kernel_rfl) rfl (by kernel_rfl) (fun K hK => ?_)
        go_simp
        refine HF.out.mono ?_
        rintro e' V ⟨rfl, rfl⟩
        go_wp2_with fail
        refine hK.out _ _ (fun _ _ => hS) ?_
        clear hK K
        refine wpAnyG_pureW (i := 22) (v := ?_) rfl (by kernel_rfl) (by kernel_rfl) (by kernel_rfl) (fun _ _ _ h => h) (by kernel_rfl) ?_ ?_
        rotate_left
        · intro w'
          first | (go_simp; done) | (go_simp; with_reducible rfl)
        refine wpAnyG_pureW (i := 23) (v := ?_) rfl (by kernel_rfl) (by kernel_rfl) (by kernel_rfl) (fun _ _ _ h => h) (by kernel_rfl) ?_ ?_
        rotate_left
        · intro w'
          first | (go_simp; done) | (go_simp; with_reducible rfl)
        clear hS
        refine wpAnyG_done (by kernel_rfl) ?_ _
        go_simp
        have c1 := HR.out.c1
        have f1 := HR.out.fr 1
        go_wp2_with fail
        have hgo := HR.out.go (j + 1)
        rw [show (((j + 1 : Nat) : Int)) = (j : Int) + 1 from by omega] at hgo
        first
          | (refine ⟨⟨j + 1, x ++ [s[j]], by omega, by rw [List.length_append]; have := HJ.out; show _ = _ + (_ + 1); omega, Lib.hid HD2.out, Lib.hid HT2.out, Lib.hid hgo.1.drew, Lib.hid ((HG.out.trans hgo.2).trans (grown_drew _ _))⟩, ?_⟩
             show s.size - atOf _ X < s.size - atOf wr X
             rw [hgo.1.drew.at_, HM.out]
             omega)
          | skip
      | false =>
        have HF : Hid (Calls Tryz.prog f #[.int .u8 (s[j].toNat : Int)] wr.drew fun e w' => e = .returned (.bool true) ∧ w' = wr.drew) := by have h := HF0.out s[j] wr.drew; rw [hp] at h; exact h
        have HTK := Lib.hid (show (s.data.toList.drop a).takeWhile p = x from by rw [HT.out, take_stop _ HLT.out hp, List.append_nil])
        clear hp HT HD
        go_upto_region 2 with fail
        refine wp_region_G (S := (fun W : World => W.cell? ⟨X, 0, none⟩ = some (.string s) ∧ W.cell? ⟨X, 1, none⟩ = some (.int .i64 (j : Int)))) (T := []) (by kernel_rfl) ?_
        have hS : (fun W : World => W.cell? ⟨X, 0, none⟩ = some (.string s) ∧ W.cell? ⟨X, 1, none⟩ = some (.int .i64 (j : Int))) wr.drew := ⟨HR.out.c0, HR.out.c1⟩
        refine wpAnyG_pureW (i := 0) (v := ?_) rfl (by kernel_rfl) (by kernel_rfl) (by kernel_rfl) (fun _ _ _ h => h) (by kernel_rfl) ?_ ?_
        rotate_left
        · intro w'
          first | (go_simp; done) | (go_simp; with_reducible rfl)
        refine wpAnyG_pureW (i := 1) (v := ?_) rfl (by kernel_rfl) (by kernel_rfl) (by kernel_rfl) (fun _ _ _ h => h) (by kernel_rfl) ?_ ?_
        rotate_left
        · intro w'
          first | (go_simp; done) | (go_simp; with_reducible rfl)
        refine wpAnyG_pureW (i := 2) (v := ?_) rfl (by kernel_rfl) (by kernel_rfl) (by kernel_rfl) (fun _ _ _ h => h) (by kernel_rfl) ?_ ?_
        rotate_left
        · intro w'
          first | (go_simp; done) | (go_simp; with_reducible rfl)
        refine wpAnyG_takeW (i := 3) (v := ?_) rfl (by kernel_rfl) (by kernel_rfl) (by kernel_rfl) (by kernel_rfl) (fun _ _ _ h => h) hS (by kernel_rfl) ?_ ?_
        rotate_left
        · intro w' hSw
          (try dsimp only at hSw)
          first | (go_simp; done) | (go_simp; with_reducible rfl)
        refine wpAnyG_pureW (i := 4) (v := ?_) rfl (by kernel_rfl) (by kernel_rfl) (by kernel_rfl) (fun _ _ _ h => h) (by kernel_rfl) ?_ ?_
        rotate_left
        · intro w'
          first | (go_simp; done) | (go_simp; with_reducible rfl)
        refine wpAnyG_pureW (i := 5) (v := ?_) rfl (by kernel_rfl) (by kernel_rfl) (by kernel_rfl) (fun _ _ _ h => h) (by kernel_rfl) ?_ ?_
        rotate_left
        · intro w'
          first | (go_simp; done) | (go_simp; with_reducible rfl)
        refine wpAnyG_pureW (i := 6) (v := ?_) rfl (by kernel_rfl) (by kernel_rfl) (by kernel_rfl) (fun _ _ _ h => h) (by kernel_rfl) ?_ ?_
        rotate_left
        · intro w'
          first | (go_simp; done) | (go_simp; with_reducible rfl)
        refine wpAnyG_takeW (i := 7) (v := ?_) rfl (by kernel_rfl) (by kernel_rfl) (by kernel_rfl) (by kernel_rfl) (fun _ _ _ h => h) hS (by kernel_rfl) ?_ ?_
        rotate_left
        · intro w' hSw
          (try dsimp only at hSw)
          first | (go_simp; done) | (go_simp; with_reducible rfl)
        refine wpAnyG_pureW (i := 8) (v := ?_) rfl (by kernel_rfl) (by kernel_rfl) (by kernel_rfl) (fun _ _ _ h => h) (by kernel_rfl) ?_ ?_
        rotate_left
        · intro w'
          first | (go_simp; done) | (go_simp; with_reducible rfl)
        refine wpAnyG_pureW (i := 9) (v := ?_) rfl (by kernel_rfl) (by kernel_rfl) (by kernel_rfl) (fun _ _ _ h => h) (by kernel_rfl) ?_ ?_
        rotate_left
        · intro w'
          first | (go_simp; done) | (go_simp; with_reducible rfl)
        refine wpAnyG_pureW (i := 10) (v := ?_) rfl (by kernel_rfl) (by kernel_rfl) (by kernel_rfl) (fun _ _ _ h => h) (by kernel_rfl) ?_ ?_
        rotate_left
        · intro w'
          first | (go_simp; done) | (go_simp; with_reducible rfl)
        refine wpAnyG_pureW (i := 11) (v := ?_) rfl (by kernel_rfl) (by kernel_rfl) (by kernel_rfl) (fun _ _ _ h => h) (by kernel_rfl) ?_ ?_
        rotate_left
        · intro w'
          first | (go_simp; done) | (go_simp; with_reducible rfl)
        refine wpAnyG_pureW (i := 12) (v := ?_) rfl (by kernel_rfl) (by kernel_rfl) (by kernel_rfl) (fun _ _ _ h => h) (by kernel_rfl) ?_ ?_
        rotate_left
        · intro w'
          first | (go_simp; done) | (go_simp; with_reducible rfl)
        refine wpAnyG_pureW (i := 13) (v := ?_) rfl (by kernel_rfl) (by kernel_rfl) (by kernel_rfl) (fun _ _ _ h => h) (by kernel_rfl) ?_ ?_
        rotate_left
        · intro w'
          first | (go_simp; done) | (go_simp; with_reducible rfl)
        refine wpAnyG_pureW (i := 14) (v := ?_) rfl (by kernel_rfl) (by kernel_rfl) (by kernel_rfl) (fun _ _ _ h => h) (by kernel_rfl) ?_ ?_
        rotate_left
        · intro w'
          first | (go_simp; done) | (go_simp; with_reducible rfl)
        refine wpAnyG_takeW (i := 15) (v := ?_) rfl (by kernel_rfl) (by kernel_rfl) (by kernel_rfl) (by kernel_rfl) (fun _ _ _ h => h) hS (by kernel_rfl) ?_ ?_
        rotate_left
        · intro w' hSw
          (try dsimp only at hSw)
          first | (go_simp; done) | (go_simp; with_reducible rfl)
        refine wpAnyG_pureW (i := 16) (v := ?_) rfl (by kernel_rfl) (by kernel_rfl) (by kernel_rfl) (fun _ _ _ h => h) (by kernel_rfl) ?_ ?_
        rotate_left
        · intro w'
          first | (go_simp; done) | (go_simp; with_reducible rfl)
        refine wpAnyG_pureW (i := 17) (v := ?_) rfl (by kernel_rfl) (by kernel_rfl) (by kernel_rfl) (fun _ _ _ h => h) (by kernel_rfl) ?_ ?_
        rotate_left
        · intro w'
          first | (go_simp; done) | (go_simp; with_reducible rfl)
        refine wpAnyG_pureW (i := 18) (v := ?_) rfl (by kernel_rfl) (by kernel_rfl) (by kernel_rfl) (fun _ _ _ h => h) (by kernel_rfl) ?_ ?_
        rotate_left
        · intro w'
          first | (go_simp; done) | (go_simp; with_reducible rfl)
        refine wpAnyG_takeW (i := 19) (v := ?_) rfl (by kernel_rfl) (by kernel_rfl) (by kernel_rfl) (by kernel_rfl) (fun _ _ _ h => h) hS (by kernel_rfl) ?_ ?_
        rotate_left
        · intro w' hSw
          (try dsimp only at hSw)
          first | (go_simp; done) | (go_simp; with_reducible rfl)
        refine wpAnyG_pureW (i := 20) (v := ?_) rfl (by kernel_rfl) (by kernel_rfl) (by kernel_rfl) (fun _ _ _ h => h) (by kernel_rfl) ?_ ?_
        rotate_left
        · intro w'
          first | (go_simp; done) | (go_simp; with_reducible rfl)
        refine wpAnyG_oneW (i := 21) (by kernel_rfl) rfl (by kernel_rfl) (fun K hK => ?_)
        go_simp
        refine HF.out.mono ?_
        rintro e' V ⟨rfl, rfl⟩
        go_wp2_with fail
        refine hK.out _ _ (fun _ _ => hS) ?_
        clear hK K
        refine wpAnyG_pureW (i := 22) (v := ?_) rfl (by kernel_rfl) (by kernel_rfl) (by kernel_rfl) (fun _ _ _ h => h) (by kernel_rfl) ?_ ?_
        rotate_left
        · intro w'
          first | (go_simp; done) | (go_simp; with_reducible rfl)
        refine wpAnyG_pureW (i := 23) (v := ?_) rfl (by kernel_rfl) (by kernel_rfl) (by kernel_rfl) (fun _ _ _ h => h) (by kernel_rfl) ?_ ?_
        rotate_left
        · intro w'
          first | (go_simp; done) | (go_simp; with_reducible rfl)
        clear hS
        refine wpAnyG_done (by kernel_rfl) ?_ _
        go_simp
        go_upto_region 4 with fail
        refine wp_region_G (S := (fun W : World => W.cell? ⟨X, 0, none⟩ = some (.string s) ∧ W.cell? ⟨X, 1, none⟩ = some (.int .i64 (j : Int)))) (T := []) (by kernel_rfl) ?_
        have hS : (fun W : World => W.cell? ⟨X, 0, none⟩ = some (.string s) ∧ W.cell? ⟨X, 1, none⟩ = some (.int .i64 (j : Int))) wr.drew.drew := ⟨HR.out.c0, HR.out.c1⟩
        refine wpAnyG_pureW (i := 0) (v := ?_) rfl (by kernel_rfl) (by kernel_rfl) (by kernel_rfl) (fun _ _ _ h => h) (by kernel_rfl) ?_ ?_
        rotate_left
        · intro w'
          first | (go_simp; done) | (go_simp; with_reducible rfl)
        refine wpAnyG_pureW (i := 1) (v := ?_) rfl (by kernel_rfl) (by kernel_rfl) (by kernel_rfl) (fun _ _ _ h => h) (by kernel_rfl) ?_ ?_
        rotate_left
        · intro w'
          first | (go_simp; done) | (go_simp; with_reducible rfl)
        refine wpAnyG_pureW (i := 2) (v := ?_) rfl (by kernel_rfl) (by kernel_rfl) (by kernel_rfl) (fun _ _ _ h => h) (by kernel_rfl) ?_ ?_
        rotate_left
        · intro w'
          first | (go_simp; done) | (go_simp; with_reducible rfl)
        refine wpAnyG_takeW (i := 3) (v := ?_) rfl (by kernel_rfl) (by kernel_rfl) (by kernel_rfl) (by kernel_rfl) (fun _ _ _ h => h) hS (by kernel_rfl) ?_ ?_
        rotate_left
        · intro w' hSw
          (try dsimp only at hSw)
          first | (go_simp; done) | (go_simp; with_reducible rfl)
        refine wpAnyG_pureW (i := 4) (v := ?_) rfl (by kernel_rfl) (by kernel_rfl) (by kernel_rfl) (fun _ _ _ h => h) (by kernel_rfl) ?_ ?_
        rotate_left
        · intro w'
          first | (go_simp; done) | (go_simp; with_reducible rfl)
        refine wpAnyG_pureW (i := 5) (v := ?_) rfl (by kernel_rfl) (by kernel_rfl) (by kernel_rfl) (fun _ _ _ h => h) (by kernel_rfl) ?_ ?_
        rotate_left
        · intro w'
          first | (go_simp; done) | (go_simp; with_reducible rfl)
        refine wpAnyG_pureW (i := 6) (v := ?_) rfl (by kernel_rfl) (by kernel_rfl) (by kernel_rfl) (fun _ _ _ h => h) (by kernel_rfl) ?_ ?_
        rotate_left
        · intro w'
          first | (go_simp; done) | (go_simp; with_reducible rfl)
        refine wpAnyG_pureW (i := 7) (v := ?_) rfl (by kernel_rfl) (by kernel_rfl) (by kernel_rfl) (fun _ _ _ h => h) (by kernel_rfl) ?_ ?_
        rotate_left
        · intro w'
          first | (go_simp; done) | (go_simp; with_reducible rfl)
        refine wpAnyG_takeW (i := 8) (v := ?_) rfl (by kernel_rfl) (by kernel_rfl) (by kernel_rfl) (by kernel_rfl) (fun _ _ _ h => h) hS (by kernel_rfl) ?_ ?_
        rotate_left
        · intro w' hSw
          (try dsimp only at hSw)
          first | (go_simp; done) | (go_simp; with_reducible rfl)
        refine wpAnyG_pureW (i := 9) (v := ?_) rfl (by kernel_rfl) (by kernel_rfl) (by kernel_rfl) (fun _ _ _ h => h) (by kernel_rfl) ?_ ?_
        rotate_left
        · intro w'
          first | (go_simp; done) | (go_simp; with_reducible rfl)
        refine wpAnyG_pureW (i := 10) (v := ?_) rfl (by kernel_rfl) (by kernel_rfl) (by kernel_rfl) (fun _ _ _ h => h) (by kernel_rfl) ?_ ?_
        rotate_left
        · intro w'
          first | (go_simp; done) | (go_simp; with_reducible rfl)
        clear hS
        refine wpAnyG_done (by kernel_rfl) ?_ _
        go_simp
        go_wp2_with fail
        go_ret
        exact ⟨by rw [HX.out, HTK.out]; rfl, (HG.out.trans (grown_drew _ _)).trans (grown_drew _ _), by rw [HTK.out, ← HJ.out]; exact HR.out⟩
    · have hlt' : ¬ (j : Int) < (s.size : Int) := by omega
      have HTK := Lib.hid (show (s.data.toList.drop a).takeWhile p = x from by rw [HT.out, take_end _ (by have := HLEN.out; omega), List.append_nil])
      clear HT HD
      go_upto_region 2 with fail
      refine wp_region_G (S := (fun W : World => W.cell? ⟨X, 0, none⟩ = some (.string s) ∧ W.cell? ⟨X, 1, none⟩ = some (.int .i64 (j : Int)))) (T := []) (by kernel_rfl) ?_
      have hS : (fun W : World => W.cell? ⟨X, 0, none⟩ = some (.string s) ∧ W.cell? ⟨X, 1, none⟩ = some (.int .i64 (j : Int))) wr.drew := ⟨HR.out.c0, HR.out.c1⟩
      refine wpAnyG_pureW (i := 0) (v := ?_) rfl (by kernel_rfl) (by kernel_rfl) (by kernel_rfl) (fun _ _ _ h => h) (by kernel_rfl) ?_ ?_
      rotate_left
      · intro w'
        first | (go_simp; done) | (go_simp; with_reducible rfl)
      refine wpAnyG_pureW (i := 1) (v := ?_) rfl (by kernel_rfl) (by kernel_rfl) (by kernel_rfl) (fun _ _ _ h => h) (by kernel_rfl) ?_ ?_
      rotate_left
      · intro w'
        first | (go_simp; done) | (go_simp; with_reducible rfl)
      refine wpAnyG_pureW (i := 2) (v := ?_) rfl (by kernel_rfl) (by kernel_rfl) (by kernel_rfl) (fun _ _ _ h => h) (by kernel_rfl) ?_ ?_
      rotate_left
      · intro w'
        first | (go_simp; done) | (go_simp; with_reducible rfl)
      refine wpAnyG_takeW (i := 3) (v := ?_) rfl (by kernel_rfl) (by kernel_rfl) (by kernel_rfl) (by kernel_rfl) (fun _ _ _ h => h) hS (by kernel_rfl) ?_ ?_
      rotate_left
      · intro w' hSw
        (try dsimp only at hSw)
        first | (go_simp; done) | (go_simp; with_reducible rfl)
      refine wpAnyG_pureW (i := 4) (v := ?_) rfl (by kernel_rfl) (by kernel_rfl) (by kernel_rfl) (fun _ _ _ h => h) (by kernel_rfl) ?_ ?_
      rotate_left
      · intro w'
        first | (go_simp; done) | (go_simp; with_reducible rfl)
      refine wpAnyG_pureW (i := 5) (v := ?_) rfl (by kernel_rfl) (by kernel_rfl) (by kernel_rfl) (fun _ _ _ h => h) (by kernel_rfl) ?_ ?_
      rotate_left
      · intro w'
        first | (go_simp; done) | (go_simp; with_reducible rfl)
      refine wpAnyG_pureW (i := 6) (v := ?_) rfl (by kernel_rfl) (by kernel_rfl) (by kernel_rfl) (fun _ _ _ h => h) (by kernel_rfl) ?_ ?_
      rotate_left
      · intro w'
        first | (go_simp; done) | (go_simp; with_reducible rfl)
      refine wpAnyG_takeW (i := 7) (v := ?_) rfl (by kernel_rfl) (by kernel_rfl) (by kernel_rfl) (by kernel_rfl) (fun _ _ _ h => h) hS (by kernel_rfl) ?_ ?_
      rotate_left
      · intro w' hSw
        (try dsimp only at hSw)
        first | (go_simp; done) | (go_simp; with_reducible rfl)
      refine wpAnyG_pureW (i := 8) (v := ?_) rfl (by kernel_rfl) (by kernel_rfl) (by kernel_rfl) (fun _ _ _ h => h) (by kernel_rfl) ?_ ?_
      rotate_left
      · intro w'
        first | (go_simp; done) | (go_simp; with_reducible rfl)
      refine wpAnyG_pureW (i := 9) (v := ?_) rfl (by kernel_rfl) (by kernel_rfl) (by kernel_rfl) (fun _ _ _ h => h) (by kernel_rfl) ?_ ?_
      rotate_left
      · intro w'
        first | (go_simp; done) | (go_simp; with_reducible rfl)
      refine wpAnyG_pureW (i := 10) (v := ?_) rfl (by kernel_rfl) (by kernel_rfl) (by kernel_rfl) (fun _ _ _ h => h) (by kernel_rfl) ?_ ?_
      rotate_left
      · intro w'
        first | (go_simp; done) | (go_simp; with_reducible rfl)
      refine wpAnyG_skipW (i := 11) rfl (by kernel_rfl) (by kernel_rfl) (by kernel_rfl) (fun _ _ _ h => h) (by kernel_rfl) ?_
      refine wpAnyG_skipW (i := 12) rfl (by kernel_rfl) (by kernel_rfl) (by kernel_rfl) (fun _ _ _ h => h) (by kernel_rfl) ?_
      refine wpAnyG_skipW (i := 13) rfl (by kernel_rfl) (by kernel_rfl) (by kernel_rfl) (fun _ _ _ h => h) (by kernel_rfl) ?_
      refine wpAnyG_skipW (i := 14) rfl (by kernel_rfl) (by kernel_rfl) (by kernel_rfl) (fun _ _ _ h => h) (by kernel_rfl) ?_
      refine wpAnyG_skipW (i := 15) rfl (by kernel_rfl) (by kernel_rfl) (by kernel_rfl) (fun _ _ _ h => h) (by kernel_rfl) ?_
      refine wpAnyG_skipW (i := 16) rfl (by kernel_rfl) (by kernel_rfl) (by kernel_rfl) (fun _ _ _ h => h) (by kernel_rfl) ?_
      refine wpAnyG_skipW (i := 17) rfl (by kernel_rfl) (by kernel_rfl) (by kernel_rfl) (fun _ _ _ h => h) (by kernel_rfl) ?_
      refine wpAnyG_skipW (i := 18) rfl (by kernel_rfl) (by kernel_rfl) (by kernel_rfl) (fun _ _ _ h => h) (by kernel_rfl) ?_
      refine wpAnyG_skipW (i := 19) rfl (by kernel_rfl) (by kernel_rfl) (by kernel_rfl) (fun _ _ _ h => h) (by kernel_rfl) ?_
      refine wpAnyG_skipW (i := 20) rfl (by kernel_rfl) (by kernel_rfl) (by kernel_rfl) (fun _ _ _ h => h) (by kernel_rfl) ?_
      refine wpAnyG_skipW (i := 21) rfl (by kernel_rfl) (by kernel_rfl) (by kernel_rfl) (fun _ _ _ h => h) (by kernel_rfl) ?_
      refine wpAnyG_skipW (i := 22) rfl (by kernel_rfl) (by kernel_rfl) (by kernel_rfl) (fun _ _ _ h => h) (by kernel_rfl) ?_
      refine wpAnyG_pureW (i := 23) (v := ?_) rfl (by kernel_rfl) (by kernel_rfl) (by kernel_rfl) (fun _ _ _ h => h) (by kernel_rfl) ?_ ?_
      rotate_left
      · intro w'
        first | (go_simp; done) | (go_simp; with_reducible rfl)
      clear hS
      refine wpAnyG_done (by kernel_rfl) ?_ _
      go_simp
      go_upto_region 4 with fail
      refine wp_region_G (S := (fun W : World => W.cell? ⟨X, 0, none⟩ = some (.string s) ∧ W.cell? ⟨X, 1, none⟩ = some (.int .i64 (j : Int)))) (T := []) (by kernel_rfl) ?_
      have hS : (fun W : World => W.cell? ⟨X, 0, none⟩ = some (.string s) ∧ W.cell? ⟨X, 1, none⟩ = some (.int .i64 (j : Int))) wr.drew.drew := ⟨HR.out.c0, HR.out.c1⟩
      refine wpAnyG_pureW (i := 0) (v := ?_) rfl (by kernel_rfl) (by kernel_rfl) (by kernel_rfl) (fun _ _ _ h => h) (by kernel_rfl) ?_ ?_
      rotate_left
      · intro w'
        first | (go_simp; done) | (go_simp; with_reducible rfl)
      refine wpAnyG_pureW (i := 1) (v := ?_) rfl (by kernel_rfl) (by kernel_rfl) (by kernel_rfl) (fun _ _ _ h => h) (by kernel_rfl) ?_ ?_
      rotate_left
      · intro w'
        first | (go_simp; done) | (go_simp; with_reducible rfl)
      refine wpAnyG_pureW (i := 2) (v := ?_) rfl (by kernel_rfl) (by kernel_rfl) (by kernel_rfl) (fun _ _ _ h => h) (by kernel_rfl) ?_ ?_
      rotate_left
      · intro w'
        first | (go_simp; done) | (go_simp; with_reducible rfl)
      refine wpAnyG_takeW (i := 3) (v := ?_) rfl (by kernel_rfl) (by kernel_rfl) (by kernel_rfl) (by kernel_rfl) (fun _ _ _ h => h) hS (by kernel_rfl) ?_ ?_
      rotate_left
      · intro w' hSw
        (try dsimp only at hSw)
        first | (go_simp; done) | (go_simp; with_reducible rfl)
      refine wpAnyG_pureW (i := 4) (v := ?_) rfl (by kernel_rfl) (by kernel_rfl) (by kernel_rfl) (fun _ _ _ h => h) (by kernel_rfl) ?_ ?_
      rotate_left
      · intro w'
        first | (go_simp; done) | (go_simp; with_reducible rfl)
      refine wpAnyG_pureW (i := 5) (v := ?_) rfl (by kernel_rfl) (by kernel_rfl) (by kernel_rfl) (fun _ _ _ h => h) (by kernel_rfl) ?_ ?_
      rotate_left
      · intro w'
        first | (go_simp; done) | (go_simp; with_reducible rfl)
      refine wpAnyG_pureW (i := 6) (v := ?_) rfl (by kernel_rfl) (by kernel_rfl) (by kernel_rfl) (fun _ _ _ h => h) (by kernel_rfl) ?_ ?_
      rotate_left
      · intro w'
        first | (go_simp; done) | (go_simp; with_reducible rfl)
      refine wpAnyG_pureW (i := 7) (v := ?_) rfl (by kernel_rfl) (by kernel_rfl) (by kernel_rfl) (fun _ _ _ h => h) (by kernel_rfl) ?_ ?_
      rotate_left
      · intro w'
        first | (go_simp; done) | (go_simp; with_reducible rfl)
      refine wpAnyG_takeW (i := 8) (v := ?_) rfl (by kernel_rfl) (by kernel_rfl) (by kernel_rfl) (by kernel_rfl) (fun _ _ _ h => h) hS (by kernel_rfl) ?_ ?_
      rotate_left
      · intro w' hSw
        (try dsimp only at hSw)
        first | (go_simp; done) | (go_simp; with_reducible rfl)
      refine wpAnyG_pureW (i := 9) (v := ?_) rfl (by kernel_rfl) (by kernel_rfl) (by kernel_rfl) (fun _ _ _ h => h) (by kernel_rfl) ?_ ?_
      rotate_left
      · intro w'
        first | (go_simp; done) | (go_simp; with_reducible rfl)
      refine wpAnyG_pureW (i := 10) (v := ?_) rfl (by kernel_rfl) (by kernel_rfl) (by kernel_rfl) (fun _ _ _ h => h) (by kernel_rfl) ?_ ?_
      rotate_left
      · intro w'
        first | (go_simp; done) | (go_simp; with_reducible rfl)
      clear hS
      refine wpAnyG_done (by kernel_rfl) ?_ _
      go_simp
      go_wp2_with fail
      go_ret
      exact ⟨by rw [HX.out, HTK.out]; rfl, (HG.out.trans (grown_drew _ _)).trans (grown_drew _ _), by rw [HTK.out, ← HJ.out]; exact HR.out⟩
end Go.Proofs.YtegcedboeemedaaGreatDoor

/-
Tokens: the reader between its marks: attrName, past.
-/
namespace Go.Proofs.YtegcedboeemedaaGreatDoor
open Go.RowKit Go.Cl
attribute [local go_sem ↓] Go.wp_at_zero Go.wp_at_succ
theorem tst {a b c : World} (h1 : Below a.heap.size a b) (h2 : Below b.heap.size b c) : Below a.heap.size a c := h1.trans (h2.mono h1.size)
theorem tal {a b : World} (h : Below a.heap.size a b) (o : Obj) : Below a.heap.size a (b.alloc o) := h.alloc h.size o
theorem tdrew (w : World) : Below w.heap.size w w.drew := ⟨rfl, rfl, rfl, Nat.le_refl _, fun _ _ => rfl⟩
theorem tdrewN (w : World) (n : Nat) : Below w.heap.size w (w.drewN n) := ⟨rfl, rfl, rfl, Nat.le_refl _, fun _ _ => rfl⟩
theorem ext_tail (c : UInt8) (t : List UInt8) : (⟨(c :: t).toArray⟩ : ByteArray).extract 1 (t.length + 1) = ⟨t.toArray⟩ := by
  apply ByteArray.ext
  apply Array.toList_inj.1
  rw [ByteArray.data_extract, Array.toList_extract, List.extract_eq_take_drop]
  simp
theorem ba_cons (c : UInt8) (t : List UInt8) : (⟨#[c]⟩ : ByteArray) ++ ⟨t.toArray⟩ = ⟨(c :: t).toArray⟩ := by
  apply ByteArray.ext
  rw [ByteArray.data_append]
  simp
theorem nameL_len (l : List UInt8) : (nameL l).length ≤ 40 := by
  unfold nameL
  rw [List.length_map, List.length_take]
  omega
theorem tkAttrName_any (s : ByteArray) (w : World) : Calls Tryz.prog 111 #[.string s] w fun e w' => e = .returned (.string ⟨(attrL s.data.toList).toArray⟩) ∧ Below w.heap.size w w' := by
  have HN := Lib.hid (tkName_any s w)
  have hl := nameL_len s.data.toList
  have hat : attrL s.data.toList = match nameL s.data.toList with
    | [] => []
    | c :: t => if dashB c then c :: t else 95 :: t := rfl
  cases hn : nameL s.data.toList with
  | nil =>
    rw [hn] at HN hat
    have HA := Lib.hid hat
    clear hat hl hn
    go_enter Tryz.func111, Tryz.ntmps111
    go_wp2_with (go_at_call 77; refine HN.out.mono ?_; rintro e w2 ⟨rfl, hb2⟩)
    go_ret
    exact ⟨by rw [HA.out]; rfl, hb2⟩
  | cons c t =>
    rw [hn] at HN hat hl
    obtain ⟨nS, hnS⟩ : ∃ nS : ByteArray, (⟨(c :: t).toArray⟩ : ByteArray) = nS := ⟨_, rfl⟩
    rw [hnS] at HN
    have hsz : nS.size = t.length + 1 := by rw [← hnS]; show (c :: t).toArray.size = _; simp
    have h0 : 0 < nS.size := by omega
    have hc : nS[0] = c := by subst hnS; rfl
    have HX := Lib.hid (show nS.extract 1 nS.size = ⟨t.toArray⟩ from by rw [hsz, ← hnS]; exact ext_tail c t)
    have t0 : (nS.toList == []) = false := beq_eq_false_iff_ne.2 fun e => by
      have h1 := isE_not h0
      rw [e] at h1
      cases h1
    have t1 : (nS.toList != []) = true := by simp only [bne, t0]; rfl
    have t2 := isE_not h0
    have HLT := Lib.hid fun u : World => letter_any nS[0] u
    have HNS := Lib.hid hnS
    have HAT := Lib.hid hat
    have h40 : nS.size ≤ 40 := by rw [List.length_cons] at hl; omega
    have HL40 : Hid (t.length ≤ 40) := by rw [List.length_cons] at hl; show _ ≤ _; omega
    clear hat hn hl hsz hnS
    cases hlc : letterB c with
    | true =>
      have HA := Lib.hid (show attrL s.data.toList = c :: t from by rw [HAT.out]; show (if dashB c then _ else _) = _; rw [show dashB c = true from by unfold dashB; rw [hlc]; rfl]; rfl)
      have HL1 := Lib.hid (fun u => by have h := HLT.out u; rw [hc, hlc] at h; rw [← hc] at h; exact h)
      clear hlc HLT hc HAT
      go_enter Tryz.func111, Tryz.ntmps111
      go_wp2_with (first | (go_at_call 77; refine HN.out.mono ?_; rintro e w2 ⟨rfl, hb2⟩) | (go_at_call 104; refine (HL1.out _).mono ?_; rintro e w3 ⟨rfl, rfl⟩))
      go_ret
      exact ⟨by rw [HA.out, HNS.out]; rfl, hb2⟩
    | false =>
      have HL1 := Lib.hid (fun u => by have h := HLT.out u; rw [hc, hlc] at h; rw [← hc] at h; exact h)
      by_cases h45 : c = 45
      · have HA := Lib.hid (show attrL s.data.toList = c :: t from by rw [HAT.out]; show (if dashB c then _ else _) = _; rw [show dashB c = true from by unfold dashB; rw [h45]; simp]; rfl)
        have e1 : ((nS[0].toNat : Int) != 45) = false := by rw [hc, h45]; rfl
        clear hlc HLT hc HAT h45
        go_enter Tryz.func111, Tryz.ntmps111
        go_wp2_with (first | (go_at_call 77; refine HN.out.mono ?_; rintro e w2 ⟨rfl, hb2⟩) | (go_at_call 104; refine (HL1.out _).mono ?_; rintro e w3 ⟨rfl, rfl⟩))
        go_ret
        exact ⟨by rw [HA.out, HNS.out]; rfl, hb2⟩
      · have HA := Lib.hid (show attrL s.data.toList = 95 :: t from by rw [HAT.out]; show (if dashB c then _ else _) = _; rw [show dashB c = false from by unfold dashB; rw [hlc]; simp [h45]]; rfl)
        have e0 : ((nS[0].toNat : Int) == 45) = false := by rw [hc]; exact u8_ne (c := 45) (by decide) h45
        have e1 : ((nS[0].toNat : Int) != 45) = true := by simp only [bne, e0]; rfl
        have i1 : (1 : Int) ≤ (nS.size : Int) := by omega
        clear hlc HLT hc HAT h45
        go_enter Tryz.func111, Tryz.ntmps111
        go_wp2_with (first | (go_at_call 77; refine HN.out.mono ?_; rintro e w2 ⟨rfl, hb2⟩) | (go_at_call 104; refine (HL1.out _).mono ?_; rintro e w3 ⟨rfl, rfl⟩))
        go_ret
        exact ⟨by rw [HA.out, HX.out]; exact congrArg (fun x => Ending.returned (.string x)) (ba_cons 95 t), hb2⟩
/-! ### the reader's place -/
/-- The reader in its box, and what is left of its text. -/
structure Rd (w : World) (X : Nat) (s : ByteArray) (r : List UInt8) (E : Int) (O : Value) : Prop where
  at_ : ∃ a, a ≤ s.size ∧ s.data.toList.drop a = r ∧ Rc w X s a E O
  mx : ∃ m : Int, w.cell? ⟨0, 0, none⟩ = some (.int .i64 m)
section
variable {w w' : World} {X : Nat} {s : ByteArray} {r : List UInt8} {E : Int} {O : Value}
theorem Rc.ne0 {a : Nat} (h : Rc w X s a E O) (hm : ∃ m : Int, w.cell? ⟨0, 0, none⟩ = some (.int .i64 m)) : X ≠ 0 := by
  rintro rfl
  obtain ⟨m, hm⟩ := hm
  rw [h.c0] at hm
  cases hm
theorem mx_next (hm : ∃ m : Int, w.cell? ⟨0, 0, none⟩ = some (.int .i64 m)) (hb : Below w.heap.size w w') : ∃ m : Int, w'.cell? ⟨0, 0, none⟩ = some (.int .i64 m) := by
  obtain ⟨m, hm⟩ := hm
  exact ⟨m, cell_be hm hb⟩
theorem mx_grown (hm : ∃ m : Int, w.cell? ⟨0, 0, none⟩ = some (.int .i64 m)) (hX : X ≠ 0) (hg : w.grownBy w' (some X)) : ∃ m : Int, w'.cell? ⟨0, 0, none⟩ = some (.int .i64 m) := by
  obtain ⟨m, hm⟩ := hm
  exact ⟨m, hg.cell hm (by simpa using fun e : 0 = X => hX e.symm)⟩
theorem Rd.next (h : Rd w X s r E O) (hb : Below w.heap.size w w') : Rd w' X s r E O := by
  obtain ⟨a, h1, h2, h3⟩ := h.at_
  exact ⟨⟨a, h1, h2, h3.next hb⟩, mx_next h.mx hb⟩
end
theorem cut_shape (r mark : List UInt8) : (∃ i, i + mark.length ≤ r.length ∧ Lib.cut r mark = (r.take i, r.drop (i + mark.length), true)) ∨ Lib.cut r mark = (r, [], false) := by
  unfold Lib.cut
  by_cases h : 0 ≤ Lib.index r mark
  · have h1 := Lib.index_room r mark h
    rw [if_pos h]
    exact .inl ⟨(Lib.index r mark).toNat, by omega, rfl⟩
  · rw [if_neg h]
    exact .inr rfl
theorem rest_str (s : ByteArray) {a : Nat} {r : List UInt8} (hr : s.data.toList.drop a = r) : (s.extract a s.size).data.toList = r := by
  rw [ByteArray.data_extract, Array.toList_extract, List.extract_eq_take_drop, ← hr]
  have : s.size = s.data.toList.length := by simp
  rw [this, List.take_of_length_le (by rw [List.length_drop]; omega)]
theorem drop_all {s : ByteArray} {a : Nat} (h : a = s.size) : s.data.toList.drop a = [] := by
  have h2 : s.data.toList.length = s.size := by simp
  exact List.drop_eq_nil_of_le (by omega)
theorem drop_len {s : ByteArray} {a : Nat} {r : List UInt8} (ha : a ≤ s.size) (hr : s.data.toList.drop a = r) : a + r.length = s.size := by
  have h2 : s.data.toList.length = s.size := by simp
  rw [← hr, List.length_drop]
  omega
set_option maxRecDepth 100000 in
set_option maxHeartbeats 4000000 in
theorem past_any (X : Nat) (s : ByteArray) (r : List UInt8) (mark : ByteArray) (E : Int) (O : Value) (w : World) (hs : s.size ≤ 1000000) (hmk : mark.size ≤ 1000) (h : Rd w X s r E O) :
    Calls Tryz.prog 142 #[.pointer (some ⟨X, 0, none⟩), .string mark] w fun e w' => e = .returned (.tuple #[.string ⟨(Lib.cut r mark.data.toList).1.toArray⟩, .bool (Lib.cut r mark.data.toList).2.2]) ∧ w.grownBy w' (some X) ∧ Rd w' X s (Lib.cut r mark.data.toList).2.1 E O := by
  obtain ⟨⟨a, ha, hr, hc⟩, m, hm⟩ := h
  have HC := Lib.hid hc
  have HM := Lib.hid hm
  have hX := hc.ne0 ⟨m, hm⟩
  have HX0 : Hid (X ≠ 0) := hX
  obtain ⟨rS, hrS⟩ : ∃ rS : ByteArray, s.extract a s.size = rS := ⟨_, rfl⟩
  have hrl : rS.data.toList = r := by rw [← hrS]; exact rest_str s hr
  have hdl := drop_len ha hr
  have hrz : rS.size = r.length := by rw [← hrl]; simp
  have HCT := Lib.hid (fun (u : World) (hu : u.cell? ⟨0, 0, none⟩ = some (.int .i64 m)) => Tryz.strings_Cut rS mark m u (by omega) hu)
  rw [hrl] at HCT
  have HMK := Lib.hid (show mark.data.toList.length = mark.size by simp)
  have HDR := Lib.hid hr
  have HDL := Lib.hid hdl
  have c0 := hc.c0
  have c1 := hc.c1
  have f1 := hc.fr 1
  have i1 : (0 : Int) ≤ (a : Int) := by omega
  have i2 : (a : Int) ≤ (s.size : Int) := by omega
  have hcs := cut_shape r mark.data.toList
  clear hm hc hX hrl hdl hrz hr
  rcases hcs with ⟨i, hi, hct⟩ | hct
  · rw [hct] at HCT ⊢
    have HTL := Lib.hid (show (r.take i).length = i from by rw [List.length_take]; omega)
    have HI := Lib.hid hi
    obtain ⟨iS, hiS⟩ : ∃ iS : ByteArray, (⟨(r.take i).toArray⟩ : ByteArray) = iS := ⟨_, rfl⟩
    have hiz : iS.size = i := by rw [← hiS]; exact HTL.out
    have b1 : a + i ≤ 1000000 := by have := HDL.out; omega
    rw [hiS] at HCT ⊢
    have HDK := Lib.hid (show s.data.toList.drop (a + i + mark.size) = r.drop (i + mark.data.toList.length) from by rw [← HDR.out, List.drop_drop, HMK.out, Nat.add_assoc])
    have HB2 := Lib.hid (show a + i + mark.size ≤ s.size from by have := HMK.out; have := HDL.out; omega)
    clear hct hi hiS
    go_enter Tryz.func142, Tryz.ntmps142
    go_upto_region 1 with fail
    refine wp_region_G (S := (fun W : World => W.cell? ⟨X, 0, none⟩ = some (.string s) ∧ W.cell? ⟨X, 1, none⟩ = some (.int .i64 (a : Int)))) (T := []) (by kernel_rfl) ?_
    have hS : (fun W : World => W.cell? ⟨X, 0, none⟩ = some (.string s) ∧ W.cell? ⟨X, 1, none⟩ = some (.int .i64 (a : Int))) w.drew := ⟨HC.out.c0, HC.out.c1⟩
    refine wpAnyG_pure (i := 0) (v := ?_) rfl (by kernel_rfl) (by kernel_rfl) (by kernel_rfl) (fun _ _ _ h => h) rfl ?_ ?_
    rotate_left
    · intro w'
      first | (go_simp; done) | (go_simp; with_reducible rfl)
    refine wpAnyG_pure (i := 1) (v := ?_) rfl (by kernel_rfl) (by kernel_rfl) (by kernel_rfl) (fun _ _ _ h => h) rfl ?_ ?_
    rotate_left
    · intro w'
      first | (go_simp; done) | (go_simp; with_reducible rfl)
    refine wpAnyG_pure (i := 2) (v := ?_) rfl (by kernel_rfl) (by kernel_rfl) (by kernel_rfl) (fun _ _ _ h => h) rfl ?_ ?_
    rotate_left
    · intro w'
      first | (go_simp; done) | (go_simp; with_reducible rfl)
    refine wpAnyG_take (i := 3) (v := ?_) rfl (by kernel_rfl) (by kernel_rfl) (by kernel_rfl) (by kernel_rfl) (fun _ _ _ h => h) hS rfl ?_ ?_
    rotate_left
    · intro w' hSw
      (try dsimp only at hSw)
      first | (go_simp; done) | (go_simp; with_reducible rfl)
    refine wpAnyG_pure (i := 4) (v := ?_) rfl (by kernel_rfl) (by kernel_rfl) (by kernel_rfl) (fun _ _ _ h => h) rfl ?_ ?_
    rotate_left
    · intro w'
      first | (go_simp; done) | (go_simp; with_reducible rfl)
    refine wpAnyG_pure (i := 5) (v := ?_) rfl (by kernel_rfl) (by kernel_rfl) (by kernel_rfl) (fun _ _ _ h => h) rfl ?_ ?_
    rotate_left
    · intro w'
      first | (go_simp; done) | (go_simp; with_reducible rfl)
    refine wpAnyG_pure (i := 6) (v := ?_) rfl (by kernel_rfl) (by kernel_rfl) (by kernel_rfl) (fun _ _ _ h => h) rfl ?_ ?_
    rotate_left
    · intro w'
      first | (go_simp; done) | (go_simp; with_reducible rfl)
    refine wpAnyG_take (i := 7) (v := ?_) rfl (by kernel_rfl) (by kernel_rfl) (by kernel_rfl) (by kernel_rfl) (fun _ _ _ h => h) hS rfl ?_ ?_
    rotate_left
    · intro w' hSw
      (try dsimp only at hSw)
      first | (go_simp; done) | (go_simp; with_reducible rfl)
    refine wpAnyG_pure (i := 8) (v := ?_) rfl (by kernel_rfl) (by kernel_rfl) (by kernel_rfl) (fun _ _ _ h => h) rfl ?_ ?_
    rotate_left
    · intro w'
      first | (go_simp; done) | (go_simp; with_reducible rfl)
    refine wpAnyG_pure (i := 9) (v := ?_) rfl (by kernel_rfl) (by kernel_rfl) (by kernel_rfl) (fun _ _ _ h => h) rfl ?_ ?_
    rotate_left
    · intro w'
      first | (go_simp; done) | (go_simp; with_reducible rfl)
    refine wpAnyG_one (i := 10) (by kernel_rfl) rfl rfl (fun K hK => ?_)
    go_simp
    go_at_call 97
    refine (HCT.out w.drew HM.out).mono ?_
    rintro e' w2 ⟨rfl, nq, rfl⟩
    go_wp2_with fail
    refine hK.out _ _ (fun _ _ => hS) ?_
    clear hK K
    refine wpAnyG_pure (i := 11) (v := ?_) rfl (by kernel_rfl) (by kernel_rfl) (by kernel_rfl) (fun _ _ _ h => h) rfl ?_ ?_
    rotate_left
    · intro w'
      first | (go_simp; done) | (go_simp; with_reducible rfl)
    refine wpAnyG_pure (i := 12) (v := ?_) rfl (by kernel_rfl) (by kernel_rfl) (by kernel_rfl) (fun _ _ _ h => h) rfl ?_ ?_
    rotate_left
    · intro w'
      first | (go_simp; done) | (go_simp; with_reducible rfl)
    refine wpAnyG_pure (i := 13) (v := ?_) rfl (by kernel_rfl) (by kernel_rfl) (by kernel_rfl) (fun _ _ _ h => h) rfl ?_ ?_
    rotate_left
    · intro w'
      first | (go_simp; done) | (go_simp; with_reducible rfl)
    refine wpAnyG_pure (i := 14) (v := ?_) rfl (by kernel_rfl) (by kernel_rfl) (by kernel_rfl) (fun _ _ _ h => h) rfl ?_ ?_
    rotate_left
    · intro w'
      first | (go_simp; done) | (go_simp; with_reducible rfl)
    refine wpAnyG_pure (i := 15) (v := ?_) rfl (by kernel_rfl) (by kernel_rfl) (by kernel_rfl) (fun _ _ _ h => h) rfl ?_ ?_
    rotate_left
    · intro w'
      first | (go_simp; done) | (go_simp; with_reducible rfl)
    refine wpAnyG_pure (i := 16) (v := ?_) rfl (by kernel_rfl) (by kernel_rfl) (by kernel_rfl) (fun _ _ _ h => h) rfl ?_ ?_
    rotate_left
    · intro w'
      first | (go_simp; done) | (go_simp; with_reducible rfl)
    clear hS
    refine wpAnyG_done (by kernel_rfl) ?_ _
    go_simp
    go_wp2_with fail
    go_ret2
    rw [show (a : Int) + (i : Int) + (mark.size : Int) = ((a + i + mark.size : Nat) : Int) from by omega, show (a : Int) + (i : Int) = ((a + i : Nat) : Int) from by omega]
    have k0 : Rc (w.drewN (1 + nq)) X s a E O := HC.out
    have k1 := k0.go (a + i)
    have k2 := k1.1.go (a + i + mark.size)
    have hg := ((grown_below (tdrewN w (1 + nq)) (some X)).trans k1.2).trans k2.2
    exact ⟨rfl, hg, ⟨_, HB2.out, HDK.out, k2.1⟩, mx_grown ⟨m, HM.out⟩ HX0.out hg⟩
  · rw [hct] at HCT ⊢
    obtain ⟨iS, hiS⟩ : ∃ iS : ByteArray, (⟨r.toArray⟩ : ByteArray) = iS := ⟨_, rfl⟩
    obtain ⟨i, hi⟩ : ∃ i, r.length = i := ⟨_, rfl⟩
    have hiz : iS.size = i := by rw [← hiS, ← hi]; rfl
    have b1 : a + i ≤ 1000000 := by have := HDL.out; omega
    rw [hiS] at HCT ⊢
    have HB2 := Lib.hid (show a + i = s.size from by rw [← hi]; exact HDL.out)
    clear hct hi hiS
    go_enter Tryz.func142, Tryz.ntmps142
    go_upto_region 1 with fail
    refine wp_region_G (S := (fun W : World => W.cell? ⟨X, 0, none⟩ = some (.string s) ∧ W.cell? ⟨X, 1, none⟩ = some (.int .i64 (a : Int)))) (T := []) (by kernel_rfl) ?_
    have hS : (fun W : World => W.cell? ⟨X, 0, none⟩ = some (.string s) ∧ W.cell? ⟨X, 1, none⟩ = some (.int .i64 (a : Int))) w.drew := ⟨HC.out.c0, HC.out.c1⟩
    refine wpAnyG_pure (i := 0) (v := ?_) rfl (by kernel_rfl) (by kernel_rfl) (by kernel_rfl) (fun _ _ _ h => h) rfl ?_ ?_
    rotate_left
    · intro w'
      first | (go_simp; done) | (go_simp; with_reducible rfl)
    refine wpAnyG_pure (i := 1) (v := ?_) rfl (by kernel_rfl) (by kernel_rfl) (by kernel_rfl) (fun _ _ _ h => h) rfl ?_ ?_
    rotate_left
    · intro w'
      first | (go_simp; done) | (go_simp; with_reducible rfl)
    refine wpAnyG_pure (i := 2) (v := ?_) rfl (by kernel_rfl) (by kernel_rfl) (by kernel_rfl) (fun _ _ _ h => h) rfl ?_ ?_
    rotate_left
    · intro w'
      first | (go_simp; done) | (go_simp; with_reducible rfl)
    refine wpAnyG_take (i := 3) (v := ?_) rfl (by kernel_rfl) (by kernel_rfl) (by kernel_rfl) (by kernel_rfl) (fun _ _ _ h => h) hS rfl ?_ ?_
    rotate_left
    · intro w' hSw
      (try dsimp only at hSw)
      first | (go_simp; done) | (go_simp; with_reducible rfl)
    refine wpAnyG_pure (i := 4) (v := ?_) rfl (by kernel_rfl) (by kernel_rfl) (by kernel_rfl) (fun _ _ _ h => h) rfl ?_ ?_
    rotate_left
    · intro w'
      first | (go_simp; done) | (go_simp; with_reducible rfl)
    refine wpAnyG_pure (i := 5) (v := ?_) rfl (by kernel_rfl) (by kernel_rfl) (by kernel_rfl) (fun _ _ _ h => h) rfl ?_ ?_
    rotate_left
    · intro w'
      first | (go_simp; done) | (go_simp; with_reducible rfl)
    refine wpAnyG_pure (i := 6) (v := ?_) rfl (by kernel_rfl) (by kernel_rfl) (by kernel_rfl) (fun _ _ _ h => h) rfl ?_ ?_
    rotate_left
    · intro w'
      first | (go_simp; done) | (go_simp; with_reducible rfl)
    refine wpAnyG_take (i := 7) (v := ?_) rfl (by kernel_rfl) (by kernel_rfl) (by kernel_rfl) (by kernel_rfl) (fun _ _ _ h => h) hS rfl ?_ ?_
    rotate_left
    · intro w' hSw
      (try dsimp only at hSw)
      first | (go_simp; done) | (go_simp; with_reducible rfl)
    refine wpAnyG_pure (i := 8) (v := ?_) rfl (by kernel_rfl) (by kernel_rfl) (by kernel_rfl) (fun _ _ _ h => h) rfl ?_ ?_
    rotate_left
    · intro w'
      first | (go_simp; done) | (go_simp; with_reducible rfl)
    refine wpAnyG_pure (i := 9) (v := ?_) rfl (by kernel_rfl) (by kernel_rfl) (by kernel_rfl) (fun _ _ _ h => h) rfl ?_ ?_
    rotate_left
    · intro w'
      first | (go_simp; done) | (go_simp; with_reducible rfl)
    refine wpAnyG_one (i := 10) (by kernel_rfl) rfl rfl (fun K hK => ?_)
    go_simp
    go_at_call 97
    refine (HCT.out w.drew HM.out).mono ?_
    rintro e' w2 ⟨rfl, nq, rfl⟩
    go_wp2_with fail
    refine hK.out _ _ (fun _ _ => hS) ?_
    clear hK K
    refine wpAnyG_pure (i := 11) (v := ?_) rfl (by kernel_rfl) (by kernel_rfl) (by kernel_rfl) (fun _ _ _ h => h) rfl ?_ ?_
    rotate_left
    · intro w'
      first | (go_simp; done) | (go_simp; with_reducible rfl)
    refine wpAnyG_pure (i := 12) (v := ?_) rfl (by kernel_rfl) (by kernel_rfl) (by kernel_rfl) (fun _ _ _ h => h) rfl ?_ ?_
    rotate_left
    · intro w'
      first | (go_simp; done) | (go_simp; with_reducible rfl)
    refine wpAnyG_pure (i := 13) (v := ?_) rfl (by kernel_rfl) (by kernel_rfl) (by kernel_rfl) (fun _ _ _ h => h) rfl ?_ ?_
    rotate_left
    · intro w'
      first | (go_simp; done) | (go_simp; with_reducible rfl)
    refine wpAnyG_pure (i := 14) (v := ?_) rfl (by kernel_rfl) (by kernel_rfl) (by kernel_rfl) (fun _ _ _ h => h) rfl ?_ ?_
    rotate_left
    · intro w'
      first | (go_simp; done) | (go_simp; with_reducible rfl)
    refine wpAnyG_pure (i := 15) (v := ?_) rfl (by kernel_rfl) (by kernel_rfl) (by kernel_rfl) (fun _ _ _ h => h) rfl ?_ ?_
    rotate_left
    · intro w'
      first | (go_simp; done) | (go_simp; with_reducible rfl)
    refine wpAnyG_pure (i := 16) (v := ?_) rfl (by kernel_rfl) (by kernel_rfl) (by kernel_rfl) (fun _ _ _ h => h) rfl ?_ ?_
    rotate_left
    · intro w'
      first | (go_simp; done) | (go_simp; with_reducible rfl)
    clear hS
    refine wpAnyG_done (by kernel_rfl) ?_ _
    go_simp
    go_wp2_with fail
    go_ret2
    rw [show (a : Int) + (i : Int) = ((a + i : Nat) : Int) from by omega]
    have k0 : Rc (w.drewN (1 + nq)) X s a E O := HC.out
    have k1 := k0.go (a + i)
    have hg := (grown_below (tdrewN w (1 + nq)) (some X)).trans k1.2
    exact ⟨rfl, hg, ⟨_, Nat.le_of_eq HB2.out, drop_all HB2.out, k1.1⟩, mx_grown ⟨m, HM.out⟩ HX0.out hg⟩
end Go.Proofs.YtegcedboeemedaaGreatDoor
