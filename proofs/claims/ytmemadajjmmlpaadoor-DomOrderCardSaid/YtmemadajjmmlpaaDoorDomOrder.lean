/-
The walk of DomOrder.
-/
import Derived.Test.YtmemadajjmmlpaaDoorEdDocs
import Derived.Test.YtmemadajjmmlpaaDoorSameInts
import Derived.Test.YtmemadajjmmlpaaDoorDomAsks
import Derived.Test.YtmemadajjmmlpaaDoorTreeB
import Derived.Test.YtmemadajjmmlpaaDoorDocBox
import Derived.Test.YtmemadajjmmlpaaDoorRegionG
namespace Go.Proofs.YtmemadajjmmlpaaDoor
open Go.RowKit Go.Cl
attribute [local go_sem ↓] Go.wp_at_zero Go.wp_at_succ

/-- What has been seen behind so many of an order. -/
def seenF (P : List Int) (n i : Nat) : List Bool := (List.range n).map fun m : Nat => decide ((m : Int) ∈ P.take i)
theorem seen_at {P : List Int} {n i m : Nat} (hm : m < n) : (seenF P n i)[m]? = some (decide ((m : Int) ∈ P.take i)) := by
  unfold seenF
  rw [List.getElem?_map, List.getElem?_range hm]
  rfl
theorem seen_zero (P : List Int) (n : Nat) : seenF P n 0 = List.replicate n false := by
  apply List.ext_getElem?
  intro m
  by_cases hm : m < n
  · rw [seen_at hm, List.getElem?_replicate, if_pos hm]
    simp
  · rw [List.getElem?_eq_none (by unfold seenF; simp; omega), List.getElem?_eq_none (by simp; omega)]
theorem seen_set {P : List Int} {n i m : Nat} (h : P[i]? = some (m : Int)) (hm : m < n) : (seenF P n i).set m true = seenF P n (i + 1) := by
  apply List.ext_getElem?
  intro j
  have hl : ∀ k, (seenF P n k).length = n := fun k => by unfold seenF; simp
  by_cases hj : j < n
  · rw [seen_at hj, List.take_add_one, h]
    by_cases e : m = j
    · subst e
      rw [List.getElem?_set_self (by rw [hl]; exact hm)]
      simp
    · rw [List.getElem?_set_ne e, seen_at hj]
      have hne : ¬ (j : Int) = (m : Int) := by omega
      simp [hne]
  · rw [List.getElem?_eq_none (by rw [List.length_set, hl]; omega), List.getElem?_eq_none (by rw [hl]; omega)]
/-- What the law wants of an order's member. -/
structure OrdAt (l : List Nd) (i : Nat) (x : Int) : Prop where
  node : ∃ m : Nat, x = (m : Int) ∧ m < l.length ∧ decide ((m : Int) ∈ (preR l 0).take i) = false
  par : 0 < i → ∃ p : Nat, parD l x = (p : Int) ∧ p < l.length ∧ decide ((p : Int) ∈ (preR l 0).take i) = true
theorem ord_at {l : List Nd} (T : Tree l) {i : Nat} {x : Int} (hx : (preR l 0)[i]? = some x) : OrdAt l i x := by
  obtain ⟨hc, _, hin⟩ := T.all_chain
  obtain ⟨m, rfl, hm, ht⟩ := hin x (List.mem_of_getElem? hx)
  refine ⟨⟨m, rfl, hm, decide_eq_false fun hmem => ?_⟩, fun hi => ?_⟩
  · obtain ⟨j, hj⟩ := List.mem_iff_getElem?.1 hmem
    rw [List.getElem?_take] at hj
    split at hj
    · rename_i hji
      exact T.all_once j i hji _ hj hx
    · cases hj
  · obtain ⟨j, hji, hj⟩ := T.pre_parent (41 - upN l (0 : Nat)) 0 T.pos (by have := (T.deep 0 T.pos).1; omega) i m hi hx
    obtain ⟨p, e, hp, _⟩ := hin _ (List.mem_of_getElem? hj)
    refine ⟨p, e, hp, decide_eq_true ?_⟩
    rw [e] at hj
    exact List.mem_of_getElem? (i := j) (by rw [List.getElem?_take, if_pos hji]; exact hj)
theorem ask_ok {l : List Nd} (h : checkD l = 0) (m : Int) : askS l m = if m < 0 ∨ (l.length : Int) ≤ m then 1 else 0 := by
  unfold askS
  rw [if_neg (by rw [h]; simp)]
theorem Tree.path_root {l : List Nd} (T : Tree l) : pathL l 0 = [0] ∧ topR l 0 = 0 := by
  have h0 : pathL l ((0 : Nat) : Int) = [0] := by
    unfold pathL
    rw [T.chain_step T.pos]
    have : parD l ((0 : Nat) : Int) = -1 := T.root
    rw [this, chain_end]
    rfl
  refine ⟨h0, ?_⟩
  have := T.path_top T.pos
  rw [h0] at this
  simpa using this.symm
theorem Tree.top_loose {l : List Nd} (T : Tree l) {m : Nat} (hm : m < l.length) (h : parD l m = -1) : topR l m = (m : Int) := by
  unfold topR
  rw [T.chain_step hm, h, chain_end]
  rfl
theorem Tree.path_len {l : List Nd} (T : Tree l) {m : Nat} (hm : m < l.length) : (pathL l m).length ≤ 41 := by
  unfold pathL
  rw [List.length_reverse]
  exact T.chain_len hm
set_option maxRecDepth 100000 in
set_option maxHeartbeats 8000000 in
theorem domOrder_walk (A : Option Addr) (n c : Nat) (l : List Nd) (q : Bool) (b : Int) (w : World) (B : Nat) (hl : Sl tNd w (lt B) A n c l) (hB : B ≤ w.heap.size) (hbw : (Lit.int .i64 b).wf = true) :
    Calls Tryd.prog 7 #[.agg #[.slice A n c, .bool q], .int .i64 b] w fun e w' => e = .returned (.bool true) ∧ Below w.heap.size w w' := by
  obtain ⟨w0, hw0⟩ : ∃ w0, w0 = w.alloc (.cells #[.slice A n c, .bool q] 24) := ⟨_, rfl⟩
  have hbx : w0.heap[w.heap.size]? = some (.cells #[.slice A n c, .bool q] 24 (0, 0)) := by rw [hw0]; exact heap_alloc_new w _
  have b0 : w0.cell? ⟨w.heap.size, 0, none⟩ = some (.slice A n c) := cell_blk hbx rfl
  have b1 : w0.cell? ⟨w.heap.size, 1, none⟩ = some (.bool q) := cell_blk hbx rfl
  have hb0 : Below w.heap.size w w0 := by rw [hw0]; exact (Below.refl _ _).alloc (Nat.le_refl _) _
  have hz0 : w0.heap.size = w.heap.size + 1 := by rw [hw0]; exact World.size_alloc w _
  have HB0 := Lib.hid hb0
  have HBX := Lib.hid hbx
  have HL := Lib.hid hl
  obtain ⟨k, hk, hkc, hkn, hk60⟩ : ∃ k : Nat, min (n : Int) 60 = (k : Int) ∧ k ≤ c ∧ k ≤ n ∧ k ≤ 60 := ⟨min n 60, by omega, by have := hl.hc; omega, by omega, by omega⟩
  have HF := Lib.hid (few_any A n c k q 60 w0 hk hkc)
  clear hb0 hl
  go_enter Tryd.func7, Tryd.ntmps7
  go_upto_region 1 with fail
  rw [← hw0]
  clear hw0
  go_upto_region 2 with (go_at_call 12; refine HF.out.mono ?_; rintro e w1 ⟨rfl, hb1⟩; have hbx1 : w1.heap[w.heap.size]? = some (.cells #[.slice A n c, .bool q] 24 (0, 0)) := (hb1.block _ (by omega)).trans HBX.out; have y0 : w1.cell? ⟨w.heap.size, 0, none⟩ = some (.slice A n c) := cell_blk hbx1 rfl; have y1 : w1.cell? ⟨w.heap.size, 1, none⟩ = some (.bool q) := cell_blk hbx1 rfl; have f0 : w1.frozen? ⟨w.heap.size, 0, none⟩ = false := free_blk hbx1; have f1 : w1.frozen? ⟨w.heap.size, 1, none⟩ = false := free_blk hbx1)
  obtain ⟨w2, hw2⟩ : ∃ w2, w2 = (w1.setCell ⟨w.heap.size, 0, none⟩ (.slice A k c)).setCell ⟨w.heap.size, 1, none⟩ (.bool q) := ⟨_, rfl⟩
  have hb2 : Below w.heap.size w w2 := by rw [hw2]; exact ((HB0.out.trans (hb1.mono HB0.out.size)).setCell (Nat.le_refl _) _).setCell (Nat.le_refl _) _
  have hbx2 : w2.heap[w.heap.size]? = some (.cells #[.slice A k c, .bool q] 24 (0, 0)) := by rw [hw2]; exact set_blk (set_blk hbx1 _) _
  rw [← hw2]
  have z0 : w2.cell? ⟨w.heap.size, 0, none⟩ = some (.slice A k c) := cell_blk hbx2 rfl
  have z1 : w2.cell? ⟨w.heap.size, 1, none⟩ = some (.bool q) := cell_blk hbx2 rfl
  have hl2 := (HL.out.cut_to hkn).below hb2 hB
  have H2 : Hid (DB w B A k c q (l.take k) w2) := ⟨hb2, hbx2, hl2, Nat.le_trans hB hb2.size⟩
  clear hw2 hb1 hbx1 y0 y1 f0 f1 b0 b1 hb2 hbx2 hbx hl2 HL HF HB0 HBX hz0
  generalize l.take k = l at *
  have HWB := Lib.hid (fun u => domBegun_any u)
  have HO := Lib.hid (order_any A k c l q w2 B H2.out.doc H2.out.le)
  go_upto_region 3 with (go_at_call 17; refine HO.out.mono ?_; rintro e w3 ⟨hb3, ⟨hce, rfl⟩ | ⟨hce, v3, rfl, hown⟩⟩)
  · have H3 := Lib.hid (H2.out.next hb3)
    have hce1 : (checkD l != 0) = true := by simpa using hce
    have HBG := Lib.hid (HWB.out w3)
    generalize checkD l = e0 at *
    clear hce hb3
    go_wp2_with (go_at_call 22; refine HBG.out.mono ?_; rintro e w4 ⟨rfl, hb4⟩)
    refine bodyPost_ret (v := .bool true) (by simp [results, Tryd.results7, go_sem]) rfl ⟨rfl, ?_⟩
    exact H3.out.below.trans (hb4.mono H3.out.below.size)
  · have H3 := Lib.hid (H2.out.next hb3)
    have T := tree_of hce
    have hfew := T.all_few
    have HCE := Lib.hid hce
    have HT := Lib.hid T
    have HST := Lib.hid (fun (i : Nat) (x : Int) => ord_at T (i := i) (x := x))
    have HPI := Lib.hid (fun m (hm : m < l.length) => T.pre_iff hm)
    obtain ⟨A3, c3, rfl, hsl⟩ := OwnF.sl hown (by decide) (by show (preR l 0).length * 8 ≤ _; omega)
    have HSL := Lib.hid hsl
    have hc3 := hsl.hc
    obtain ⟨N, hN⟩ : ∃ N, N = (preR l 0).length := ⟨_, rfl⟩
    have HN := Lib.hid hN
    have HKN := Lib.hid H3.out.doc.hn
    have hkcap := H3.out.doc.hc
    have HKP : Hid (0 < k) := by have := HKN.out; have := T.pos; show 0 < k; omega
    rw [← hN] at hc3 hfew HSL
    rw [← hN]
    have x0 := H3.out.c0
    have hmk := make_bools w3 k (by omega)
    clear hce hb3 T hown hsl z0 z1 hN
    go_upto_region 6 with fail
    clear hmk
    obtain ⟨w4, hw4⟩ : ∃ w4, w4 = w3.alloc (.cells (Array.replicate k (.bool false)) 4) := ⟨_, rfl⟩
    rw [← hw4]
    have hb4 : Below w3.heap.size w3 w4 := by rw [hw4]; exact (Below.refl _ _).alloc (Nat.le_refl _) _
    have hm4 : BoolsAt w4 w3.heap.size (seenF (preR l 0) k 0) := by
      rw [seen_zero]
      show w4.heap[w3.heap.size]? = _
      rw [rep_bools, hw4]
      exact heap_alloc_new w3 _
    have H4 : Hid (Below w3.heap.size w3 w4 ∧ BoolsAt w4 w3.heap.size (seenF (preR l 0) k 0)) := ⟨hb4, hm4⟩
    obtain ⟨P, hP⟩ : ∃ P, preR l 0 = P := ⟨_, rfl⟩
    rw [hP] at H4 HSL HN HPI
    have HPE := Lib.hid hP
    clear hw4 hb4 hm4 x0 hP
    go_upto_region 7 with fail
    go_loopw [8] (fun s wr => ∃ i : Nat, i ≤ N ∧ s = .int .i64 (i : Int) ∧ Hid (Below w3.heap.size w3 wr ∧ BoolsAt wr w3.heap.size (seenF P k i))) (fun s _ => N - (intOf s).toNat)
    case atStart => exact ⟨0, Nat.zero_le _, rfl, H4⟩
    case round =>
      obtain ⟨i, hi, rfl, HR⟩ := hrel
      by_cases hlt : i < N
      · obtain ⟨x, hx⟩ : ∃ x, P[i]? = some x := get_some (by have := HN.out; omega)
        have ho := HST.out i x (by rw [HPE.out]; exact hx)
        obtain ⟨m, rfl, hm, hs⟩ := ho.node
        rw [HPE.out] at hs
        obtain ⟨nd, hnd⟩ := get_some hm
        obtain ⟨g, o, rfl, _, cx, _⟩ := (HSL.out.below HR.out.1 (Nat.le_refl _)).int hx
        have hmk : m < k := by have := HKN.out; omega
        have m1 := HR.out.2.cell (seen_at (P := P) (i := i) hmk)
        rw [hs] at m1
        have f1 : wr.frozen? ⟨w3.heap.size, m, none⟩ = false := free_blk HR.out.2
        have HX := Lib.hid hx
        have HEND : Hid (Below w3.heap.size w3 (wr.setCell ⟨w3.heap.size, m, none⟩ (.bool true)) ∧ BoolsAt (wr.setCell ⟨w3.heap.size, m, none⟩ (.bool true)) w3.heap.size (seenF P k (i + 1))) :=
          ⟨HR.out.1.setCell (p := ⟨w3.heap.size, m, none⟩) (Nat.le_refl _) _, by rw [← seen_set hx hmk]; exact HR.out.2.set m true⟩
        have i1 : (0 : Int) ≤ (m : Int) := by omega
        have i2 : (m : Int) < (k : Int) := by omega
        have j1 : (0 : Int) ≤ (i : Int) := by omega
        have j2 : (i : Int) < (N : Int) := by omega
        by_cases hi0 : 0 < i
        · obtain ⟨p, hp, hpl, hps⟩ := ho.par hi0
          rw [HPE.out] at hps
          rw [parD_at hnd] at hp
          obtain ⟨bb, oo, rfl, hd⟩ := doc_at (H3.out.doc.below HR.out.1 H3.out.le) HKP.out
          obtain ⟨_, _, _, _, _, _, _, _, _, _, _, c4, _⟩ := hd.at_ m nd hnd
          rw [hp] at c4
          have hpk : p < k := by have := HKN.out; omega
          have m2 := HR.out.2.cell (seen_at (P := P) (i := i) hpk)
          rw [hps] at m2
          have y0 := (H3.out.next HR.out.1).c0
          have p1 : (0 : Int) ≤ (p : Int) := by omega
          have p2 : (p : Int) < (k : Int) := by omega
          clear hx ho hm hs hnd hd hp hpl hps
          go_wp2_with fail
          go_roundw
          case rel => exact ⟨i + 1, by omega, by go_num, HEND⟩
          case measure => simp [intOf]; omega
        · have hi1 : ¬ (0 : Int) < (i : Int) := by omega
          clear hx ho hm hs hnd hi0
          go_wp2_with fail
          go_roundw
          case rel => exact ⟨i + 1, by omega, by go_num, HEND⟩
          case measure => simp [intOf]; omega
      · obtain rfl : i = N := by omega
        have H5 := Lib.hid (H3.out.next HR.out.1)
        have HPA := Lib.hid (domPath_any A k c l q b wr B H5.out.doc H5.out.le)
        have x0 := H5.out.c0
        have x1 := H5.out.c1
        have HSE := Lib.hid HR.out.2
        have HPT : Hid (P.take i = P) := List.take_of_length_le (by have := HN.out; omega)
        have HAK := Lib.hid (ask_ok HCE.out b)
        by_cases hb0 : b < 0 ∨ (l.length : Int) ≤ b
        · have hak := HAK.out.trans (if_pos hb0)
          have HPB := Lib.hid (HPA.out.mono (R' := fun e w' => e = .returned (.tuple #[.slice none 0 0, .int .i64 1]) ∧ Below wr.heap.size wr w') fun e w' ⟨hb, h⟩ => by
            rcases h with ⟨_, h⟩ | ⟨h, _⟩ | ⟨h, _⟩
            · rw [hak] at h; exact ⟨h, hb⟩
            · rw [hak] at h; cases h
            · rw [hak] at h; cases h)
          clear hak HR
          go_upto_region 14 with (go_at_call 26; refine HPB.out.mono ?_; rintro e w5 ⟨rfl, hb5⟩)
          have H6 := Lib.hid (H5.out.next hb5)
          have HBG := Lib.hid (HWB.out w5)
          clear hb5 x0 x1
          by_cases hneg : b < 0
          · clear hb0
            go_wp2_with (go_at_call 22; refine HBG.out.mono ?_; rintro e w6 ⟨rfl, hb6⟩)
            refine bodyPost_ret (v := .bool true) (by simp [results, Tryd.results7, go_sem]) rfl ⟨rfl, ?_⟩
            exact H6.out.below.trans (hb6.mono H6.out.below.size)
          · have hge : (k : Int) ≤ b := by have := HKN.out; omega
            clear hb0
            go_wp2_with (go_at_call 22; refine HBG.out.mono ?_; rintro e w6 ⟨rfl, hb6⟩)
            refine bodyPost_ret (v := .bool true) (by simp [results, Tryd.results7, go_sem]) rfl ⟨rfl, ?_⟩
            exact H6.out.below.trans (hb6.mono H6.out.below.size)
        · have hak := HAK.out.trans (if_neg hb0)
          obtain ⟨m, rfl⟩ : ∃ m : Nat, b = (m : Int) := ⟨b.toNat, by omega⟩
          have hml : m < l.length := by omega
          have hmk : m < k := by have := HKN.out; omega
          have m1 := HSE.out.cell (seen_at (P := P) (i := i) hmk)
          rw [HPT.out] at m1
          have hpi := HPI.out m hml
          have i1 : (0 : Int) ≤ (m : Int) := by omega
          have i2 : (m : Int) < (k : Int) := by omega
          have HML := Lib.hid hml
          have HZ5 : Hid (w3.heap.size < wr.heap.size) := (Array.getElem?_eq_some_iff.1 HSE.out).1
          by_cases htop : topR l m = 0
          · rw [decide_eq_true (hpi.2 htop)] at m1
            have HPB := Lib.hid (HPA.out.mono (R' := fun e w' => Below wr.heap.size wr w' ∧ ∃ v, e = .returned (.tuple #[v, .int .i64 0]) ∧ OwnF (tInt .i64) w' wr.heap.size 3 v (pathL l m).length (pathL l m)) fun e w' ⟨hb, h⟩ => by
              rcases h with ⟨h, _⟩ | ⟨_, h, _⟩ | ⟨_, _, h⟩
              · exact absurd hak h
              · exact absurd htop h
              · exact ⟨hb, h⟩)
            have HTOP := Lib.hid htop
            clear hak htop hpi hb0 HR hml
            go_upto_region 14 with (go_at_call 26; refine HPB.out.mono ?_; rintro e w5 ⟨hb5, v5, rfl, hown5⟩)
            have H6 := Lib.hid (H5.out.next hb5)
            have m2 := cell_be m1 hb5
            obtain ⟨A5, c5, rfl, hsl5⟩ := OwnF.sl hown5 (by decide) (by have := HT.out.chain_len HML.out; unfold pathL; rw [List.length_reverse]; show (chainR l m).length * 8 ≤ _; omega)
            have HSL5 := Lib.hid hsl5
            clear hb5 hown5 hsl5 x0 x1 m1
            have HBG := Lib.hid (HWB.out w5)
            by_cases hm0 : m = 0
            · have hz1 : ((m : Int) == 0) = true := by rw [hm0]; rfl
              have hz2 : ((m : Int) != 0) = false := by rw [hm0]; rfl
              have hpl : pathL l m = [0] := by rw [hm0]; exact HT.out.path_root.1
              rw [hpl] at HSL5
              rw [hpl]
              clear hpl hm0
              go_upto_region 19 with fail
              go_wp2_with (go_at_call 22; refine HBG.out.mono ?_; rintro e w6 ⟨rfl, hb6⟩)
              have HSM : Hid (Calls Tryd.prog 27 #[.slice A5 1 c5, .slice (some ⟨w6.heap.size, 0, none⟩) 1 1] (w6.alloc (.cells #[.int .i64 0] 3)) fun e w' => e = .returned (.bool true) ∧ Below (w6.heap.size + 1) (w6.alloc (.cells #[.int .i64 0] 3)) w') := by
                have h := sameInts_any A5 1 c5 [0] (some ⟨w6.heap.size, 0, none⟩) 1 1 [0] (w6.alloc (.cells #[.int .i64 0] 3)) (w6.heap.size + 1) (((HSL5.out.below hb6 (Nat.le_refl _)).up (B' := w6.heap.size) hb6.size |>.al (Nat.le_refl _) _).up (by omega)) (ints_one (by decide)) (by simp)
                rw [same_true rfl] at h
                simp only [World.size_alloc] at h
                exact h
              refine HSM.out.mono ?_
              rintro e w7 ⟨rfl, hb7⟩
              have HB7 := Lib.hid (((H6.out.below.trans (hb6.mono H6.out.below.size)).alloc (Nat.le_trans H6.out.below.size hb6.size) (.cells #[.int .i64 0] 3)).trans (hb7.mono (by have := H6.out.below.size; have := hb6.size; omega)))
              clear hb6 hb7 HSM
              go_wp2_with fail
              refine bodyPost_ret (v := .bool true) (by simp [results, Tryd.results7, go_sem]) rfl ⟨rfl, ?_⟩
              exact HB7.out
            · have hz1 : ((m : Int) == 0) = false := beq_eq_false_iff_ne.2 (by omega)
              have HPP : Hid (∃ p : Nat, parD l m = (p : Int) ∧ p < l.length) := by
                rcases HT.out.par HML.out with h | ⟨p, h, hp, _⟩
                · have h1 := HT.out.top_loose HML.out h
                  rw [HTOP.out] at h1
                  exact absurd h1.symm (by omega)
                · exact ⟨p, h, hp⟩
              obtain ⟨p, hp, hpl⟩ := HPP.out
              have HTP := Lib.hid ((HT.out.top_par HML.out hpl hp).symm.trans HTOP.out)
              have HPS := Lib.hid (HT.out.path_step HML.out hp)
              have HLP := Lib.hid (HT.out.path_len hpl)
              have HLM := Lib.hid (HT.out.path_len HML.out)
              obtain ⟨nd, hnd⟩ := get_some HML.out
              rw [parD_at hnd] at hp
              obtain ⟨bb, oo, rfl, hd⟩ := doc_at H6.out.doc HKP.out
              obtain ⟨_, _, _, _, _, _, _, _, _, _, _, c4, _⟩ := hd.at_ m nd hnd
              rw [hp] at c4
              have y0 := H6.out.c0
              have y1 := H6.out.c1
              have HP2 := Lib.hid (domPath_any (some ⟨bb, oo, none⟩) k c l q (p : Int) w5.drew B (H6.out.doc.keep fun _ _ => rfl) H6.out.le)
              have hak2 : askS l (p : Int) = 0 := (ask_ok HCE.out p).trans (if_neg (by omega))
              have HP3 := Lib.hid (HP2.out.mono (R' := fun e w' => Below w5.heap.size w5 w' ∧ ∃ v, e = .returned (.tuple #[v, .int .i64 0]) ∧ OwnF (tInt .i64) w' w5.heap.size 3 v (pathL l p).length (pathL l p)) fun e w' ⟨hb, h⟩ => by
                have hb' : Below w5.heap.size w5 w' := ((Below.refl _ w5).drew).trans hb
                rcases h with ⟨h, _⟩ | ⟨_, h, _⟩ | ⟨_, _, h⟩
                · exact absurd hak2 h
                · exact absurd HTP.out h
                · exact ⟨hb', h⟩)
              obtain ⟨L5, hL5⟩ : ∃ L5, (pathL l m).length = L5 := ⟨_, rfl⟩
              rw [hL5] at HSL5 HLM
              rw [hL5]
              have HL5 := Lib.hid hL5
              clear hp hnd hd hak2 HP2 hm0 hL5
              go_upto_region 20 with fail
              refine wp_region_G (S := (fun w' : World => w'.cell? ⟨w.heap.size, 0, none⟩ = some (.slice (some ⟨bb, oo, none⟩) k c) ∧ w'.cell? ⟨w.heap.size, 1, none⟩ = some (.bool q) ∧ w'.cell? ⟨bb, oo + m * 6 + 4, none⟩ = some (.int .i64 (p : Int)))) (T := []) (by kernel_rfl) ?_
              have hS : (fun w' : World => w'.cell? ⟨w.heap.size, 0, none⟩ = some (.slice (some ⟨bb, oo, none⟩) k c) ∧ w'.cell? ⟨w.heap.size, 1, none⟩ = some (.bool q) ∧ w'.cell? ⟨bb, oo + m * 6 + 4, none⟩ = some (.int .i64 (p : Int))) w5.drew := ⟨y0, y1, c4⟩
              refine wpAnyG_take (i := 0) (v := ?_) rfl (by kernel_rfl) (by kernel_rfl) (by kernel_rfl) (by kernel_rfl) (fun _ _ _ h => h) hS rfl ?_ ?_
              rotate_left
              · intro w' hSw
                (try dsimp only at hSw)
                first | (go_simp; done) | (go_simp; with_reducible rfl)
              refine wpAnyG_pure (i := 1) (v := ?_) rfl (by kernel_rfl) (by kernel_rfl) (by kernel_rfl) (fun _ _ _ h => h) rfl ?_ ?_
              rotate_left
              · intro w'
                first | (go_simp; done) | (go_simp; with_reducible rfl)
              refine wpAnyG_take (i := 2) (v := ?_) rfl (by kernel_rfl) (by kernel_rfl) (by kernel_rfl) (by kernel_rfl) (fun _ _ _ h => h) hS rfl ?_ ?_
              rotate_left
              · intro w' hSw
                (try dsimp only at hSw)
                first | (go_simp; done) | (go_simp; with_reducible rfl)
              refine wpAnyG_pure (i := 3) (v := ?_) rfl (by kernel_rfl) (by kernel_rfl) (by kernel_rfl) (fun _ _ _ h => h) rfl ?_ ?_
              rotate_left
              · intro w'
                first | (go_simp; done) | (go_simp; with_reducible rfl)
              refine wpAnyG_pure (i := 4) (v := ?_) rfl (by kernel_rfl) (by kernel_rfl) (by kernel_rfl) (fun _ _ _ h => h) rfl ?_ ?_
              rotate_left
              · intro w'
                first | (go_simp; done) | (go_simp; with_reducible rfl)
              refine wpAnyG_pure (i := 5) (v := ?_) rfl (by kernel_rfl) (by kernel_rfl) (by kernel_rfl) (fun _ _ _ h => h) rfl ?_ ?_
              rotate_left
              · intro w'
                first | (go_simp; done) | (go_simp; with_reducible rfl)
              refine wpAnyG_take (i := 6) (v := ?_) rfl (by kernel_rfl) (by kernel_rfl) (by kernel_rfl) (by kernel_rfl) (fun _ _ _ h => h) hS rfl ?_ ?_
              rotate_left
              · intro w' hSw
                (try dsimp only at hSw)
                first | (go_simp; done) | (go_simp; with_reducible rfl)
              refine wpAnyG_one (i := 7) (by kernel_rfl) rfl rfl (fun K hK => ?_)
              go_simp
              go_at_call 26
              refine HP3.out.mono ?_
              rintro e w6 ⟨hb6, v6, rfl, hown6⟩
              go_wp2_with fail
              refine hK.out _ _ (fun _ _ => ⟨cell_be y0 hb6, cell_be y1 hb6, cell_be c4 hb6⟩) ?_
              clear hK K hS
              refine wpAnyG_pure (i := 8) (v := ?_) rfl (by kernel_rfl) (by kernel_rfl) (by kernel_rfl) (fun _ _ _ h => h) rfl ?_ ?_
              rotate_left
              · intro w'
                first | (go_simp; done) | (go_simp; with_reducible rfl)
              refine wpAnyG_pure (i := 9) (v := ?_) rfl (by kernel_rfl) (by kernel_rfl) (by kernel_rfl) (fun _ _ _ h => h) rfl ?_ ?_
              rotate_left
              · intro w'
                first | (go_simp; done) | (go_simp; with_reducible rfl)
              refine wpAnyG_pure (i := 10) (v := ?_) rfl (by kernel_rfl) (by kernel_rfl) (by kernel_rfl) (fun _ _ _ h => h) rfl ?_ ?_
              rotate_left
              · intro w'
                first | (go_simp; done) | (go_simp; with_reducible rfl)
              refine wpAnyG_one (i := 11) (by kernel_rfl) rfl rfl (fun K hK => ?_)
              go_simp
              refine hK.out _ _ (fun _ h => h) ?_
              clear hK K
              refine wpAnyG_one (i := 12) (by kernel_rfl) rfl rfl (fun K hK => ?_)
              go_simp
              refine hK.out _ _ (fun _ h => h) ?_
              clear hK K
              refine wpAnyG_done (by kernel_rfl) ?_ _
              obtain ⟨A6, c6, rfl⟩ := Own.form hown6
              obtain ⟨Lp, hLp⟩ : ∃ Lp, (pathL l p).length = Lp := ⟨_, rfl⟩
              rw [hLp] at hown6
              have hlp : Lp ≤ 41 := by rw [← hLp]; exact HLP.out
              rw [hLp]
              have HW6 := Lib.hid (HWB.out w6)
              have H7 := Lib.hid (H6.out.next hb6)
              have HRUN : Hid (∀ w7 : World, Below w6.heap.size w6 w7 → ∃ A9 c9 w9, (Builtin.append_ #[33, 33] 33 #[.slice A6 Lp c6, .slice (some ⟨w7.heap.size, 0, none⟩) 1 1]).run Tryd.prog (w7.alloc (.cells #[.int .i64 (m : Int)] 3)) = .ok (.slice A9 (Lp + 1) c9) w9 ∧ Below w.heap.size w w9 ∧
                  Calls Tryd.prog 27 #[.slice A5 L5 c5, .slice A9 (Lp + 1) c9] w9 fun e w' => e = .returned (.bool true) ∧ Below w9.heap.size w9 w') := fun w7 hb7 => by
                have hb67 : Below w6.heap.size w6 (w7.alloc (.cells #[.int .i64 (m : Int)] 3)) := hb7.alloc hb7.size _
                have ho : OwnF (tInt .i64) (w7.alloc (.cells #[.int .i64 (m : Int)] 3)) w5.heap.size 3 (.slice A6 Lp c6) Lp (pathL l p) := OwnF.below hown6 hb67 (Nat.le_refl _)
                obtain ⟨v', w9, hrun, hown9, hg9, hb9, _⟩ := run_ap1 (P := Tryd.prog) (t := 33) (ty := 33) (c := 1) (T := tInt .i64) (y := (m : Int)) (cs := [.int .i64 (m : Int)]) _ elemI ho (fun _ h => h.elim) ⟨rfl, WalkArith.wf_i64 (by omega)⟩ (cell_new w7 [.int .i64 (m : Int)] 3) (by omega) (by omega) (Nat.le_trans hb6.size (Nat.le_trans hb7.size (by simp)))
                obtain ⟨A9, c9, rfl⟩ := Own.form hown9
                have hb59 : Below w5.heap.size w5 w9 := (hb6.trans (hb67.mono hb6.size)).trans hb9
                obtain ⟨A9', c9', e9, hs9⟩ := OwnF.sl hown9 (by decide) (by show (Lp + 1) * 8 ≤ _; omega)
                simp only [Value.slice.injEq, true_and] at e9
                obtain ⟨rfl, rfl⟩ := e9
                have hsm := sameInts_any A5 L5 c5 (pathL l m) A9 (Lp + 1) c9 (pathL l p ++ [(m : Int)]) w9 w9.heap.size ((HSL5.out.below hb59 (Nat.le_refl _)).up hb59.size) hs9 (Nat.le_refl _)
                rw [same_true HPS.out] at hsm
                exact ⟨A9, c9, w9, hrun, H6.out.below.trans (hb59.mono H6.out.below.size), hsm⟩
              clear hb6 hown6 hLp y0 y1 c4 HP3
              go_wp2_with (first
                | (go_at_call 22; refine HW6.out.mono ?_; rintro e w7 ⟨rfl, hb7⟩; obtain ⟨A9, c9, w9, hrun, hb9, hsm⟩ := HRUN.out w7 hb7; have HSM := Lib.hid hsm; have HB9 := Lib.hid hb9; have HRN := Lib.hid hrun; clear hsm hb9 hrun hb7)
                | (at_builtin; refine wpList_append_runI (by rfl) (.tmp 145) (.tmp 147) 33 rfl (.slice A6 Lp c6) (.slice (some ⟨w7.heap.size, 0, none⟩) 1 1) rfl rfl HRN.out ?_)
                | (go_at_call 27; refine HSM.out.mono ?_; rintro e w10 ⟨rfl, hb10⟩))
              refine bodyPost_ret (v := .bool true) (by simp [results, Tryd.results7, go_sem]) rfl ⟨rfl, ?_⟩
              exact HB9.out.trans (hb10.mono HB9.out.size)
          · have hm0 : m ≠ 0 := by
              intro h0
              rw [h0] at htop
              exact htop HT.out.path_root.2
            rw [decide_eq_false (fun h => htop (hpi.1 h))] at m1
            have hz2 : ((m : Int) != 0) = true := bne_iff_ne.2 (by omega)
            have hz1 : ((m : Int) == 0) = false := beq_eq_false_iff_ne.2 (by omega)
            have HPB := Lib.hid (HPA.out.mono (R' := fun e w' => e = .returned (.tuple #[.slice none 0 0, .int .i64 5]) ∧ Below wr.heap.size wr w') fun e w' ⟨hb, h⟩ => by
              rcases h with ⟨h, _⟩ | ⟨_, _, h⟩ | ⟨_, h, _⟩
              · exact absurd hak h
              · exact ⟨h, hb⟩
              · exact absurd h htop)
            clear hak htop hpi hb0 HR hml hm0
            go_upto_region 14 with (go_at_call 26; refine HPB.out.mono ?_; rintro e w5 ⟨rfl, hb5⟩)
            have H6 := Lib.hid (H5.out.next hb5)
            have m2 := cell_be m1 hb5
            have HBG := Lib.hid (HWB.out w5)
            clear hb5 x0 x1 m1
            go_wp2_with (go_at_call 22; refine HBG.out.mono ?_; rintro e w6 ⟨rfl, hb6⟩)
            refine bodyPost_ret (v := .bool true) (by simp [results, Tryd.results7, go_sem]) rfl ⟨rfl, ?_⟩
            exact H6.out.below.trans (hb6.mono H6.out.below.size)
end Go.Proofs.YtmemadajjmmlpaaDoor
