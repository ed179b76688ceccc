/-
The walk of package dom: Check.
-/
import Derived.Test.YtmemadajjmmlpaaDoorDomUp
namespace Go.Proofs.YtmemadajjmmlpaaDoor
open Go.RowKit Go.Cl
attribute [local go_sem ↓] Go.wp_at_zero Go.wp_at_succ

theorem first_bad {l : List Nd} {k : Nat} {x : Nd} (hx : l[k]? = some x) (h : ((x.kind == 1) != (k == 0)) = true) : firstE k (l.drop k) = 3 := by
  rw [List.drop_eq_getElem_cons (List.getElem?_eq_some_iff.1 hx).1, (List.getElem?_eq_some_iff.1 hx).2, firstE, if_pos h]
theorem first_err {l : List Nd} {k : Nat} {x : Nd} (hx : l[k]? = some x) (h : ((x.kind == 1) != (k == 0)) = false) (he : nodeE x ≠ 0) : firstE k (l.drop k) = nodeE x := by
  rw [List.drop_eq_getElem_cons (List.getElem?_eq_some_iff.1 hx).1, (List.getElem?_eq_some_iff.1 hx).2, firstE, if_neg (by rw [h]; decide), if_pos he]
theorem first_ok {l : List Nd} {k : Nat} {x : Nd} (hx : l[k]? = some x) (h : ((x.kind == 1) != (k == 0)) = false) (he : nodeE x = 0) : firstE k (l.drop k) = firstE (k + 1) (l.drop (k + 1)) := by
  rw [List.drop_eq_getElem_cons (List.getElem?_eq_some_iff.1 hx).1, (List.getElem?_eq_some_iff.1 hx).2, firstE, if_neg (by rw [h]; decide), if_neg (by rw [he]; simp)]
theorem check_first {l : List Nd} {n : Nat} {e : Int} (hn : n ≤ 200) (h0 : 0 < n) (hl : n = l.length) (h : firstE 0 l = e) (he : e ≠ 0) : checkD l = e := by
  unfold checkD
  rw [if_neg (by omega), if_neg (by omega), h, if_pos he]
theorem check_kids {l : List Nd} {n : Nat} {e : Int} (hn : n ≤ 200) (h0 : 0 < n) (hl : n = l.length) (h : firstE 0 l = 0) (hk : kidsE l = e) (he : e ≠ 0) : checkD l = e := by
  unfold checkD
  rw [if_neg (by omega), if_neg (by omega), h, if_neg (by decide), hk, if_pos he]
theorem check_last {l : List Nd} {n : Nat} (hn : n ≤ 200) (h0 : 0 < n) (hl : n = l.length) (h : firstE 0 l = 0) (hk : kidsE l = 0) : checkD l = lastE l (List.range l.length) := by
  unfold checkD
  rw [if_neg (by omega), if_neg (by omega), h, if_neg (by decide), hk, if_neg (by decide)]
theorem range_at {n k : Nat} (h : k < n) : (List.range n).drop k = k :: (List.range n).drop (k + 1) := by
  rw [List.drop_eq_getElem_cons (by simpa using h)]
  simp
theorem last_eight {l : List Nd} {k : Nat} (hk : k < l.length) (h : l.length < upN l k) : lastE l ((List.range l.length).drop k) = 8 := by
  rw [range_at hk, lastE, if_pos h]
theorem last_two {l : List Nd} {k : Nat} (hk : k < l.length) (h : ¬ l.length < upN l k) (h2 : 40 < upN l k) : lastE l ((List.range l.length).drop k) = 2 := by
  rw [range_at hk, lastE, if_neg h, if_pos h2]
theorem last_go {l : List Nd} {k : Nat} (hk : k < l.length) (h : ¬ l.length < upN l k) (h2 : ¬ 40 < upN l k) : lastE l ((List.range l.length).drop k) = lastE l ((List.range l.length).drop (k + 1)) := by
  conv => lhs; rw [range_at hk, lastE, if_neg h, if_neg h2]

set_option maxRecDepth 100000 in
set_option maxHeartbeats 4000000 in
theorem check_dom (A : Option Addr) (n c : Nat) (l : List Nd) (q : Bool) (w : World) (B : Nat) (hl : Sl tNd w (lt B) A n c l) (hB : B ≤ w.heap.size) :
    Calls Tryd.prog 24 #[.agg #[.slice A n c, .bool q]] w fun e w' => e = .returned (.int .i64 (checkD l)) ∧ Below w.heap.size w w' := by
  have hn1 := hl.small
  have HL := Lib.hid hl.hn
  have hbel : ∀ o, Below w.heap.size w (w.alloc o) := fun o => (Below.refl _ _).alloc (Nat.le_refl _) o
  by_cases hn : 200 < n
  · have HR := Lib.hid (show checkD l = 2 from by unfold checkD; rw [if_pos (by have := HL.out; omega)])
    go_enter Tryd.func24, Tryd.ntmps24
    go_wp2_with fail
    go_ret
    exact ⟨retI HR.out.symm, hbel _⟩
  by_cases hn0 : n = 0
  · have HR := Lib.hid (show checkD l = 3 from by unfold checkD; rw [if_neg (by have := HL.out; omega), if_pos (by have := HL.out; omega)])
    subst hn0
    go_enter Tryd.func24, Tryd.ntmps24
    go_wp2_with fail
    go_ret
    exact ⟨retI HR.out.symm, hbel _⟩
  have hn : n ≤ 200 := by omega
  have hn0 : 0 < n := by omega
  have t1 : decide ((200 : Int) < (n : Int)) = false := decide_eq_false (by omega)
  have t2 : ((n : Int) == 0) = false := by rw [beq_eq_false_iff_ne]; omega
  obtain ⟨b, o, rfl, hd⟩ := doc_at hl hn0
  have HD := Lib.hid hd
  have hcap : n ≤ c := hl.hc
  obtain ⟨w0, hw0⟩ : ∃ w0, w0 = w.alloc (.cells #[.slice (some ⟨b, o, none⟩) n c, .bool q] 24) := ⟨_, rfl⟩
  have hbx : w0.heap[w.heap.size]? = some (.cells #[.slice (some ⟨b, o, none⟩) n c, .bool q] 24 (0, 0)) := by rw [hw0]; exact heap_alloc_new w _
  have bx : w0.cell? ⟨w.heap.size, 0, none⟩ = some (.slice (some ⟨b, o, none⟩) n c) := cell_blk hbx rfl
  have hb0 : Below w.heap.size w w0 := by rw [hw0]; exact hbel _
  have HB0 := Lib.hid hb0
  have HBX := Lib.hid hbx
  have HT : Hid (∀ W, Below w.heap.size w W → ∀ j v, w.cell? ⟨b, j, none⟩ = some v → W.cell? ⟨b, j, none⟩ = some v) := fun W hW j v hv => (hW.cell (p := ⟨b, j, none⟩) (Nat.lt_of_lt_of_le HD.out.lt hB)).trans hv
  clear hd hb0 hbx hbel
  go_enter Tryd.func24, Tryd.ntmps24
  go_upto_region 1 with fail
  rw [← hw0]
  clear hw0
  go_wp2_with fail
  go_loopw [22] (fun s wr => ∃ (k : Nat), k ≤ n ∧ s = .int .i64 (k : Int) ∧ Below w.heap.size w wr ∧ wr.heap[w.heap.size]? = some (.cells #[.slice (some ⟨b, o, none⟩) n c, .bool q] 24 (0, 0)) ∧ Hid (firstE 0 l = firstE k (l.drop k))) (fun s _ => n - (intOf s).toNat)
  case atStart => exact ⟨0, Nat.zero_le _, rfl, HB0.out, HBX.out, Lib.hid rfl⟩
  case round =>
    obtain ⟨k, hk, rfl, hb, hbx, HF⟩ := hrel
    have hz := hb.size
    have hgx : w.heap.size < wr.heap.size := (Array.getElem?_eq_some_iff.1 hbx).1
    have HBX2 := Lib.hid hbx
    have HBW := Lib.hid hb
    clear hbx
    by_cases hlt : k < n
    · obtain ⟨x, hx⟩ : ∃ x, l[k]? = some x := get_some (by have := HL.out; omega)
      obtain ⟨Aa, na, ca, Ak, nk, ck, hnd, c0, c1, c2, c3, c4, c5⟩ := HD.out.at_ k x hx
      have d0 := HT.out wr hb _ _ c0
      have d1 := HT.out wr hb _ _ c1
      have d2 := HT.out wr hb _ _ c2
      have d3 := HT.out wr hb _ _ c3
      have d4 := HT.out wr hb _ _ c4
      have d5 := HT.out wr hb _ _ c5
      have HX := Lib.hid hx
      have HND := Lib.hid hnd
      clear hx hnd c0 c1 c2 c3 c4 c5 hb
      go_upto_region 8 with fail
      obtain ⟨w1, hw1⟩ : ∃ w1, w1 = wr.alloc (.cells #[.int .i64 x.kind, .string x.name, .slice Aa na ca, .string x.text, .int .i64 x.parent, .slice Ak nk ck] 35) := ⟨_, rfl⟩
      have e1 : w1.heap[wr.heap.size]? = some (.cells #[.int .i64 x.kind, .string x.name, .slice Aa na ca, .string x.text, .int .i64 x.parent, .slice Ak nk ck] 35 (0, 0)) := by rw [hw1]; exact heap_alloc_new wr _
      have hz1 : w1.heap.size = wr.heap.size + 1 := by rw [hw1]; exact World.size_alloc wr _
      have hb1 : Below w.heap.size w w1 := by rw [hw1]; exact HBW.out.alloc hz _
      have HBX1 : Hid (w1.heap[w.heap.size]? = some (.cells #[.slice (some ⟨b, o, none⟩) n c, .bool q] 24 (0, 0))) := by rw [hw1]; exact (Lib.alloc_old wr _ _ hgx).trans HBX2.out
      rw [← hw1]
      have k0 : w1.cell? ⟨wr.heap.size, 0, none⟩ = some (.int .i64 x.kind) := cell_blk e1 rfl
      have k1 : w1.cell? ⟨wr.heap.size, 1, none⟩ = some (.string x.name) := cell_blk e1 rfl
      have k2 : w1.cell? ⟨wr.heap.size, 2, none⟩ = some (.slice Aa na ca) := cell_blk e1 rfl
      have k3 : w1.cell? ⟨wr.heap.size, 3, none⟩ = some (.string x.text) := cell_blk e1 rfl
      have k4 : w1.cell? ⟨wr.heap.size, 4, none⟩ = some (.int .i64 x.parent) := cell_blk e1 rfl
      have k5 : w1.cell? ⟨wr.heap.size, 5, none⟩ = some (.slice Ak nk ck) := cell_blk e1 rfl
      clear hw1 e1 d0 d1 d2 d3 d4 d5
      by_cases hx1 : x.kind = 1
      · have hx1b : (x.kind == 1) = true := by simpa using hx1
        by_cases hk0 : k = 0
        · have hk0b : ((k : Int) == 0) = true := by rw [hk0]; rfl
          have hkk : ((x.kind == 1) != (k == 0)) = false := by rw [hx1b, hk0]; rfl
          have HKK := Lib.hid hkk
          clear hx1 hk0 hkk
          have HB1 := Lib.hid hb1
          by_cases he : nodeE x = 0
          · have HF2 := Lib.hid (HF.out.trans (first_ok HX.out HKK.out he))
            have HO := Lib.hid (one_any' x Aa na ca Ak nk ck w1 B (HND.out.below HB1.out hB) (Nat.le_trans hB HB1.out.size))
            rw [he] at HO
            clear he
            go_wp2_with (go_at_call 53; refine HO.out.mono ?_; rintro e w2 ⟨rfl, hb2⟩)
            have HB2 := Lib.hid (HB1.out.trans (hb2.mono HB1.out.size))
            have hbx2 : w2.heap[w.heap.size]? = some (.cells #[.slice (some ⟨b, o, none⟩) n c, .bool q] 24 (0, 0)) := (hb2.block _ (by omega)).trans HBX1.out
            clear hb2
            go_roundw
            case rel => exact ⟨k + 1, by omega, by go_num, HB2.out, hbx2, HF2⟩
            case measure => simp [intOf]; omega
          · have HR := Lib.hid (HF.out.trans (first_err HX.out HKK.out he))
            have HO := Lib.hid (one_any' x Aa na ca Ak nk ck w1 B (HND.out.below HB1.out hB) (Nat.le_trans hB HB1.out.size))
            have HRR := Lib.hid (check_first hn hn0 HL.out (e := nodeE x) HR.out he)
            have he1 : (nodeE x != 0) = true := by simpa using he
            generalize nodeE x = ee at *
            clear he
            go_wp2_with (go_at_call 53; refine HO.out.mono ?_; rintro e w2 ⟨rfl, hb2⟩)
            go_ret
            exact ⟨retI HRR.out.symm, HB1.out.trans (hb2.mono HB1.out.size)⟩

        · have hk0b : ((k : Int) == 0) = false := by simpa using hk0
          have HR := Lib.hid (check_first hn hn0 HL.out (HF.out.trans (first_bad HX.out (by rw [hx1b]; simpa using hk0))) (by decide))
          clear hx1 hk0
          go_wp2_with fail
          go_ret
          exact ⟨retI HR.out.symm, hb1⟩
      · have hx1b : (x.kind == 1) = false := by simpa using hx1
        by_cases hk0 : k = 0
        · have hk0b : ((k : Int) == 0) = true := by rw [hk0]; rfl
          have HR := Lib.hid (check_first hn hn0 HL.out (HF.out.trans (first_bad HX.out (by rw [hx1b, hk0]; rfl))) (by decide))
          clear hx1 hk0
          go_wp2_with fail
          go_ret
          exact ⟨retI HR.out.symm, hb1⟩
        · have hk0b : ((k : Int) == 0) = false := by simpa using hk0
          have hkk : ((x.kind == 1) != (k == 0)) = false := by rw [hx1b]; simpa using hk0
          have HKK := Lib.hid hkk
          clear hx1 hk0 hkk
          have HB1 := Lib.hid hb1
          by_cases he : nodeE x = 0
          · have HF2 := Lib.hid (HF.out.trans (first_ok HX.out HKK.out he))
            have HO := Lib.hid (one_any' x Aa na ca Ak nk ck w1 B (HND.out.below HB1.out hB) (Nat.le_trans hB HB1.out.size))
            rw [he] at HO
            clear he
            go_wp2_with (go_at_call 53; refine HO.out.mono ?_; rintro e w2 ⟨rfl, hb2⟩)
            have HB2 := Lib.hid (HB1.out.trans (hb2.mono HB1.out.size))
            have hbx2 : w2.heap[w.heap.size]? = some (.cells #[.slice (some ⟨b, o, none⟩) n c, .bool q] 24 (0, 0)) := (hb2.block _ (by omega)).trans HBX1.out
            clear hb2
            go_roundw
            case rel => exact ⟨k + 1, by omega, by go_num, HB2.out, hbx2, HF2⟩
            case measure => simp [intOf]; omega
          · have HR := Lib.hid (HF.out.trans (first_err HX.out HKK.out he))
            have HO := Lib.hid (one_any' x Aa na ca Ak nk ck w1 B (HND.out.below HB1.out hB) (Nat.le_trans hB HB1.out.size))
            have HRR := Lib.hid (check_first hn hn0 HL.out (e := nodeE x) HR.out he)
            have he1 : (nodeE x != 0) = true := by simpa using he
            generalize nodeE x = ee at *
            clear he
            go_wp2_with (go_at_call 53; refine HO.out.mono ?_; rintro e w2 ⟨rfl, hb2⟩)
            go_ret
            exact ⟨retI HRR.out.symm, HB1.out.trans (hb2.mono HB1.out.size)⟩

    · have HF0 := Lib.hid (show firstE 0 l = 0 from by rw [HF.out, List.drop_of_length_le (by have := HL.out; omega), firstE])
      have bx1 : wr.cell? ⟨w.heap.size, 0, none⟩ = some (.slice (some ⟨b, o, none⟩) n c) := cell_blk HBX2.out rfl
      have bx2 : wr.cell? ⟨w.heap.size, 1, none⟩ = some (.bool q) := cell_blk HBX2.out rfl
      have HK := Lib.hid (kids_any (some ⟨b, o, none⟩) n c l q wr B (hl.below hb hB) (by omega) hn hn0)
      by_cases hke : kidsE l = 0
      · rw [hke] at HK
        have HKR := Lib.hid (kids_right (by have := HL.out; omega) hke)
        have HLA := Lib.hid (check_last hn hn0 HL.out HF0.out hke)
        clear hke
        go_upto_region 17 with (go_at_call 54; refine HK.out.mono ?_; rintro e w2 ⟨rfl, hb2⟩)
        have hbx3 : w2.heap[w.heap.size]? = some (.cells #[.slice (some ⟨b, o, none⟩) n c, .bool q] 24 (0, 0)) := (hb2.block _ hgx).trans HBX2.out
        have HB2 := Lib.hid (hb.trans (hb2.mono hz))
        have HBX3 := Lib.hid hbx3
        have bx3 : w2.cell? ⟨w.heap.size, 0, none⟩ = some (.slice (some ⟨b, o, none⟩) n c) := cell_blk hbx3 rfl
        clear hb hb2 bx1 bx2 hbx3
        go_wp2_with fail
        go_loopw [47] (fun s wi => ∃ (j : Nat), j ≤ n ∧ s = .int .i64 (j : Int) ∧ Below w.heap.size w wi ∧ wi.heap[w.heap.size]? = some (.cells #[.slice (some ⟨b, o, none⟩) n c, .bool q] 24 (0, 0)) ∧ Hid (checkD l = lastE l ((List.range l.length).drop j))) (fun s _ => n - (intOf s).toNat)
        case atStart => exact ⟨0, Nat.zero_le _, rfl, HB2.out, HBX3.out, HLA⟩
        case round =>
          obtain ⟨j, hj, rfl, hbj, hbxj, HJ⟩ := hrel
          have hgj : w.heap.size < wr.heap.size := (Array.getElem?_eq_some_iff.1 hbxj).1
          have y1 : wr.cell? ⟨w.heap.size, 0, none⟩ = some (.slice (some ⟨b, o, none⟩) n c) := cell_blk hbxj rfl
          have y2 : wr.cell? ⟨w.heap.size, 1, none⟩ = some (.bool q) := cell_blk hbxj rfl
          have HBXJ := Lib.hid hbxj
          clear hbxj
          by_cases hjn : j < n
          · have HU := Lib.hid (up_any (some ⟨b, o, none⟩) n c l q j wr B (hl.below hbj hB) (by omega) hn hjn (fun x hx => by
              rcases HKR.out.parent_lt x hx with h | ⟨m, y, h, hy⟩
              · omega
              · have := (List.getElem?_eq_some_iff.1 hy).1
                have := HL.out
                omega))
            have HBJ := Lib.hid hbj
            have hjl : j < l.length := by have := HL.out; omega
            generalize hu : upN l (j : Int) = u at *
            go_upto_region 21 with (go_at_call 55; refine HU.out.mono ?_; rintro e w3 ⟨rfl, hb3⟩)
            have hbx4 : w3.heap[w.heap.size]? = some (.cells #[.slice (some ⟨b, o, none⟩) n c, .bool q] 24 (0, 0)) := (hb3.block _ hgj).trans HBXJ.out
            have HBX4 := Lib.hid hbx4
            have bx4 : w3.cell? ⟨w.heap.size, 0, none⟩ = some (.slice (some ⟨b, o, none⟩) n c) := cell_blk hbx4 rfl
            have HB3 := Lib.hid (HBJ.out.trans (hb3.mono HBJ.out.size))
            clear hb3 hbx4 y1 y2 hbj
            by_cases h1 : n < u
            · have HR := Lib.hid (HJ.out.trans (last_eight hjl (by rw [hu]; have := HL.out; omega)))
              clear hu hjl
              go_wp2_with fail
              go_ret
              exact ⟨retI HR.out.symm, HB3.out⟩
            · by_cases h2 : 40 < u
              · have HR := Lib.hid (HJ.out.trans (last_two hjl (by rw [hu]; have := HL.out; omega) (by rw [hu]; exact h2)))
                clear hu hjl
                go_wp2_with fail
                go_ret
                exact ⟨retI HR.out.symm, HB3.out⟩
              · have HJ2 := Lib.hid (HJ.out.trans (last_go hjl (by rw [hu]; have := HL.out; omega) (by rw [hu]; exact h2)))
                clear hu hjl
                go_wp2_with fail
                go_roundw
                case rel => exact ⟨j + 1, by omega, by go_num, HB3.out, HBX4.out, HJ2⟩
                case measure => simp [intOf]; omega
          · have HR := Lib.hid (show checkD l = 0 from by rw [HJ.out, List.drop_of_length_le (by rw [List.length_range]; have := HL.out; omega), lastE])
            go_wp2_with fail
            go_ret
            exact ⟨retI HR.out.symm, hbj⟩
      · have HR := Lib.hid (check_kids hn hn0 HL.out HF0.out rfl hke)
        have hke1 : (kidsE l != 0) = true := by simpa using hke
        generalize kidsE l = ee at *
        clear hke
        go_wp2_with (go_at_call 54; refine HK.out.mono ?_; rintro e w2 ⟨rfl, hb2⟩)
        go_ret
        exact ⟨retI HR.out.symm, hb.trans (hb2.mono hz)⟩
end Go.Proofs.YtmemadajjmmlpaaDoor
