/-
The walk of package dom: kids.
-/
import Derived.Test.YtmemadajjmmlpaaDoorDomKids
namespace Go.Proofs.YtmemadajjmmlpaaDoor
open Go.RowKit Go.Cl
attribute [local go_sem ↓] Go.wp_at_zero Go.wp_at_succ

/-- The document's box and the marks, between two rounds. -/
structure KMid (w : World) (A : Option Addr) (n c : Nat) (q : Bool) (seen : List Bool) (W : World) : Prop where
  box : W.heap[w.heap.size]? = some (.cells #[.slice A n c, .bool q] 24 (0, 0))
  marks : BoolsAt W (w.heap.size + 1) seen
  len : seen.length = n
  low : Below w.heap.size w W
theorem KMid.next {w W W' : World} {A : Option Addr} {n c : Nat} {q : Bool} {seen : List Bool} (h : KMid w A n c q seen W) (hb : Below (w.heap.size + 2) W W') : KMid w A n c q seen W' :=
  ⟨(hb.block _ (by omega)).trans h.box, h.marks.below hb (by omega), h.len, h.low.trans (hb.mono (by omega))⟩
theorem KMid.mark {w W : World} {A : Option Addr} {n c : Nat} {q : Bool} {seen : List Bool} (h : KMid w A n c q seen W) (m : Nat) : KMid w A n c q (seen.set m true) (W.setCell ⟨w.heap.size + 1, m, none⟩ (.bool true)) :=
  ⟨(Below.heap_setCell W ⟨w.heap.size + 1, m, none⟩ _ _ (by intro e; have e' : w.heap.size = w.heap.size + 1 := e; omega)).trans h.box, h.marks.set m true, by rw [List.length_set]; exact h.len, h.low.setCell (p := ⟨w.heap.size + 1, m, none⟩) (by show _ ≤ w.heap.size + 1; omega) _⟩

set_option maxRecDepth 100000 in
set_option maxHeartbeats 8000000 in
theorem kids_any (A : Option Addr) (n c : Nat) (l : List Nd) (q : Bool) (w : World) (B : Nat) (hl : Sl tNd w (lt B) A n c l) (hB : B ≤ w.heap.size) (hn : n ≤ 200) (hn0 : 0 < n) :
    Calls Tryd.prog 54 #[.agg #[.slice A n c, .bool q]] w fun e w' => e = .returned (.int .i64 (kidsE l)) ∧ Below w.heap.size w w' := by
  have HL := Lib.hid hl.hn
  obtain ⟨b, o, rfl, hd⟩ := doc_at hl hn0
  have HD := Lib.hid hd
  clear hd
  have hmk := make_bools (w.alloc (.cells #[.slice (some ⟨b, o, none⟩) n c, .bool q] 24)) n (by omega)
  rw [World.size_alloc] at hmk
  obtain ⟨w0, hw0⟩ : ∃ w0, w0 = (w.alloc (.cells #[.slice (some ⟨b, o, none⟩) n c, .bool q] 24)).alloc (.cells (Array.replicate n (.bool false)) 4) := ⟨_, rfl⟩
  have hM0 : KMid w (some ⟨b, o, none⟩) n c q (List.replicate n false) w0 := by
    rw [hw0]
    refine ⟨(Lib.alloc_old _ _ _ (by simp)).trans (heap_alloc_new w _), ?_, by simp, ((Below.refl _ w).alloc (Nat.le_refl _) _).alloc (by simp) _⟩
    have := heap_alloc_new (w.alloc (.cells #[.slice (some ⟨b, o, none⟩) n c, .bool q] 24)) (.cells (Array.replicate n (.bool false)) 4)
    rw [World.size_alloc] at this
    show _ = _
    rw [rep_bools]
    exact this
  have HM0 := Lib.hid hM0
  have bx0 : w0.cell? ⟨w.heap.size, 0, none⟩ = some (.slice (some ⟨b, o, none⟩) n c) := cell_blk hM0.box rfl
  clear hM0
  go_enter Tryd.func54, Tryd.ntmps54
  go_upto_region 2 with fail
  rw [← hw0]
  clear hw0 hmk
  go_wp2_with fail
  go_loopw [17] (fun i wr => ∃ (k : Nat) (seen : List Bool), k ≤ n ∧ i = .int .i64 (k : Int) ∧ KMid w (some ⟨b, o, none⟩) n c q seen wr ∧ Hid (allKids l 0 (List.replicate l.length false) l = allKids l k seen (l.drop k))) (fun i _ => n - (intOf i).toNat)
  case atStart => exact ⟨0, _, Nat.zero_le _, rfl, HM0.out, Lib.hid (by rw [HL.out]; rfl)⟩
  case round =>
    obtain ⟨i, seen, hi, rfl, hM, HA⟩ := hrel
    have HM := Lib.hid hM
    have hzr := hM.low.size
    have hgr : w.heap.size + 1 < wr.heap.size := by
      have := (Array.getElem?_eq_some_iff.1 hM.marks).1
      omega
    clear hM
    by_cases hlt : i < n
    · obtain ⟨x, hx⟩ : ∃ x, l[i]? = some x := get_some (by have := HL.out; omega)
      obtain ⟨Aa, na, ca, Ak, nk, ck, hnd, c0, c1, c2, c3, c4, c5⟩ := HD.out.at_ i x hx
      have HT : Hid (∀ W, Below w.heap.size w W → ∀ j v, w.cell? ⟨b, j, none⟩ = some v → W.cell? ⟨b, j, none⟩ = some v) := fun W hW j v hv => (hW.cell (p := ⟨b, j, none⟩) (Nat.lt_of_lt_of_le HD.out.lt hB)).trans hv
      have d0 := HT.out wr HM.out.low _ _ c0
      have d1 := HT.out wr HM.out.low _ _ c1
      have d2 := HT.out wr HM.out.low _ _ c2
      have d3 := HT.out wr HM.out.low _ _ c3
      have d4 := HT.out wr HM.out.low _ _ c4
      have d5 := HT.out wr HM.out.low _ _ c5
      have HX := Lib.hid hx
      have HND := Lib.hid hnd
      have hnk := hnd.kids.small
      have HNK := Lib.hid hnd.kids.hn
      clear hx hnd c0 c1 c2 c3 c4 c5
      go_upto_region 5 with fail
      obtain ⟨w1, hw1⟩ : ∃ w1, w1 = wr.alloc (.cells #[.int .i64 x.kind, .string x.name, .slice Aa na ca, .string x.text, .int .i64 x.parent, .slice Ak nk ck] 35) := ⟨_, rfl⟩
      have k5 : w1.cell? ⟨wr.heap.size, 5, none⟩ = some (.slice Ak nk ck) := by rw [hw1]; exact cell_blk (heap_alloc_new wr _) rfl
      have HM1 : Hid (KMid w (some ⟨b, o, none⟩) n c q seen w1) := by rw [hw1]; exact HM.out.next ((Below.refl _ wr).alloc (by omega) _)
      rw [← hw1]
      clear hw1 d0 d1 d2 d3 d4 d5
      go_wp2_with fail
      obtain ⟨wo, rfl⟩ : ∃ wo : World, wo = wr := ⟨_, rfl⟩
      go_loopw [25] (fun jj wi => ∃ (j : Nat) (sn : List Bool), j ≤ nk ∧ jj = .int .i64 (j : Int) ∧ KMid w (some ⟨b, o, none⟩) n c q sn wi ∧ Hid (kidsF l i seen x.kids = kidsF l i sn (x.kids.drop j))) (fun jj _ => nk - (intOf jj).toNat)
      case atStart => exact ⟨0, seen, Nat.zero_le _, rfl, HM1.out, Lib.hid rfl⟩
      case round =>
        obtain ⟨j, sn, hj, rfl, hMi, HK⟩ := hrel
        have HMi := Lib.hid hMi
        have hln := hMi.len
        have hlow := hMi.low
        have bx : wr.cell? ⟨w.heap.size, 0, none⟩ = some (.slice (some ⟨b, o, none⟩) n c) := cell_blk hMi.box rfl
        have HLN := Lib.hid hln
        have HLOW := Lib.hid hlow
        clear hMi hln hlow
        by_cases hjl : j < nk
        · obtain ⟨k, hk⟩ : ∃ k, x.kids[j]? = some k := get_some (by have := HNK.out; omega)
          obtain ⟨bk, ok, rfl, hbk, ck0, hwf⟩ := (HND.out.kids.below HLOW.out hB).int hk
          have HKJ := Lib.hid hk
          have hcap : nk ≤ ck := HND.out.kids.hc
          clear hk hwf
          by_cases hk0 : k < 0
          · have HR := Lib.hid (kidsE_err (allKids_err HA.out HX.out (kidsF_err HK.out HKJ.out (kidE_out (Or.inl hk0)) (by decide)) (by decide)) (by decide))
            go_wp2_with fail
            go_ret
            exact ⟨retI HR.out.symm, HLOW.out⟩
          obtain ⟨m, rfl⟩ : ∃ m : Nat, k = (m : Int) := ⟨k.toNat, by omega⟩
          by_cases hkn : n ≤ m
          · have HR := Lib.hid (kidsE_err (allKids_err HA.out HX.out (kidsF_err HK.out HKJ.out (kidE_out (Or.inr (by have := HL.out; omega))) (by decide)) (by decide)) (by decide))
            go_wp2_with fail
            go_ret
            exact ⟨retI HR.out.symm, HLOW.out⟩
          obtain ⟨y, hy⟩ : ∃ y, l[m]? = some y := get_some (by have := HL.out; omega)
          obtain ⟨sm, hsm⟩ : ∃ sm, sn[m]? = some sm := get_some (by have := HLN.out; omega)
          obtain ⟨_, _, _, _, _, _, _, y0, _, _, _, y4, _⟩ := HD.out.at_ m y hy
          have p0 := HT.out wr HLOW.out _ _ y0
          have p4 := HT.out wr HLOW.out _ _ y4
          have ms := HMi.out.marks.cell hsm
          have HY := Lib.hid hy
          have HSM := Lib.hid hsm
          have i1 : (0 : Int) ≤ (m : Int) := by omega
          have i2 : (m : Int) < (n : Int) := by omega
          have i3 : ¬ (n : Int) ≤ (m : Int) := by omega
          have hcap2 : n ≤ c := hl.hc
          clear y0 y4 hy hsm
          by_cases hp : y.parent = (i : Int)
          · have hpb : (y.parent != (i : Int)) = false := by simpa using hp
            cases sm with
            | true =>
              have HR := Lib.hid (kidsE_err (allKids_err HA.out HX.out (kidsF_err HK.out HKJ.out (kidE_not HY.out HSM.out (Or.inr rfl)) (by decide)) (by decide)) (by decide))
              clear hp
              go_wp2_with fail
              go_ret
              exact ⟨retI HR.out.symm, HLOW.out⟩
            | false =>
              by_cases hi0 : i = 0
              · have hib : ((i : Int) == 0) = true := by rw [hi0]; rfl
                by_cases hk3 : y.kind = 3
                · have hkb : (y.kind == 3) = true := by simpa using hk3
                  have HR := Lib.hid (kidsE_err (allKids_err HA.out HX.out (kidsF_err HK.out HKJ.out (kidE_seven HY.out HSM.out hp ⟨hi0, hk3⟩) (by decide)) (by decide)) (by decide))
                  clear hp hi0 hk3
                  go_wp2_with fail
                  go_ret
                  exact ⟨retI HR.out.symm, HLOW.out⟩
                · have hkb : (y.kind == 3) = false := by simpa using hk3
                  have HK2 := Lib.hid (kidsF_ok HK.out HKJ.out (kidE_zero HY.out HSM.out hp (fun h => hk3 h.2)))
                  have fz : wr.frozen? ⟨w.heap.size + 1, m, none⟩ = false := free_blk HMi.out.marks
                  clear hp hi0 hk3
                  go_wp2_with fail
                  go_roundw
                  case rel => exact ⟨j + 1, sn.set m true, by omega, by go_num, HMi.out.mark m, by rw [Int.toNat_natCast] at HK2; exact HK2⟩
                  case measure => simp [intOf]; omega
              · have hib : ((i : Int) == 0) = false := by simpa using hi0
                have HK2 := Lib.hid (kidsF_ok HK.out HKJ.out (kidE_zero HY.out HSM.out hp (fun h => hi0 h.1)))
                have fz : wr.frozen? ⟨w.heap.size + 1, m, none⟩ = false := free_blk HMi.out.marks
                clear hp hi0
                go_wp2_with fail
                go_roundw
                case rel => exact ⟨j + 1, sn.set m true, by omega, by go_num, HMi.out.mark m, by rw [Int.toNat_natCast] at HK2; exact HK2⟩
                case measure => simp [intOf]; omega
          · have hpb : (y.parent != (i : Int)) = true := by simpa using hp
            have HR := Lib.hid (kidsE_err (allKids_err HA.out HX.out (kidsF_err HK.out HKJ.out (kidE_not HY.out HSM.out (Or.inl hp)) (by decide)) (by decide)) (by decide))
            clear hp
            go_wp2_with fail
            go_ret
            exact ⟨retI HR.out.symm, HLOW.out⟩
        · have HA2 := Lib.hid (allKids_ok HA.out HX.out (kidsF_end HK.out (by have := HNK.out; omega)))
          go_wp2_with fail
          go_roundw
          case rel => exact ⟨i + 1, sn, by omega, by go_num, HMi.out, HA2⟩
          case measure => simp [intOf]; omega
    · have HRS := Lib.hid (kidsE_rest (s := seen) (by rw [HA.out, List.drop_of_length_le (by have := HL.out; omega), allKids]))
      have bx : wr.cell? ⟨w.heap.size, 0, none⟩ = some (.slice (some ⟨b, o, none⟩) n c) := cell_blk HM.out.box rfl
      go_wp2_with fail
      obtain ⟨wo, rfl⟩ : ∃ wo : World, wo = wr := ⟨_, rfl⟩
      go_loopw [74] (fun jj wi => ∃ (j : Nat), j ≤ n ∧ jj = .int .i64 (j : Int) ∧ KMid w (some ⟨b, o, none⟩) n c q seen wi ∧ Hid (lostB seen l = lostB (seen.drop j) (l.drop j))) (fun jj _ => n - (intOf jj).toNat)
      case atStart => exact ⟨0, Nat.zero_le _, rfl, HM.out, Lib.hid rfl⟩
      case round =>
        obtain ⟨j, hj, rfl, hMj, HLB⟩ := hrel
        have HMj := Lib.hid hMj
        have hgj : w.heap.size + 1 < wr.heap.size := (Array.getElem?_eq_some_iff.1 hMj.marks).1
        have bx2 : wr.cell? ⟨w.heap.size, 0, none⟩ = some (.slice (some ⟨b, o, none⟩) n c) := cell_blk hMj.box rfl
        clear hMj
        by_cases hjl : j < n
        · obtain ⟨x, hx⟩ : ∃ x, l[j]? = some x := get_some (by have := HL.out; omega)
          obtain ⟨sj, hsj⟩ : ∃ sj, seen[j]? = some sj := get_some (by have := HM.out.len; omega)
          obtain ⟨Aa, na, ca, Ak, nk, ck, hnd, c0, c1, c2, c3, c4, c5⟩ := HD.out.at_ j x hx
          have HT : Hid (∀ W, Below w.heap.size w W → ∀ j v, w.cell? ⟨b, j, none⟩ = some v → W.cell? ⟨b, j, none⟩ = some v) := fun W hW j v hv => (hW.cell (p := ⟨b, j, none⟩) (Nat.lt_of_lt_of_le HD.out.lt hB)).trans hv
          have d0 := HT.out wr HMj.out.low _ _ c0
          have d1 := HT.out wr HMj.out.low _ _ c1
          have d2 := HT.out wr HMj.out.low _ _ c2
          have d3 := HT.out wr HMj.out.low _ _ c3
          have d4 := HT.out wr HMj.out.low _ _ c4
          have d5 := HT.out wr HMj.out.low _ _ c5
          have HX := Lib.hid hx
          have HSJ := Lib.hid hsj
          have hcap : n ≤ c := hl.hc
          clear hx hsj hnd c0 c1 c2 c3 c4 c5
          go_upto_region 18 with fail
          obtain ⟨w1, hw1⟩ : ∃ w1, w1 = wr.alloc (.cells #[.int .i64 x.kind, .string x.name, .slice Aa na ca, .string x.text, .int .i64 x.parent, .slice Ak nk ck] 35) := ⟨_, rfl⟩
          have k4 : w1.cell? ⟨wr.heap.size, 4, none⟩ = some (.int .i64 x.parent) := by rw [hw1]; exact cell_blk (heap_alloc_new wr _) rfl
          have HM1 : Hid (KMid w (some ⟨b, o, none⟩) n c q seen w1) := by rw [hw1]; exact HMj.out.next ((Below.refl _ wr).alloc (by omega) _)
          have ms := HM1.out.marks.cell HSJ.out
          rw [← hw1]
          clear hw1 d0 d1 d2 d3 d4 d5 bx bx2
          by_cases hp : x.parent = -1
          · have hpb : (x.parent != -1) = false := by simpa using hp
            have HLB2 := Lib.hid (lost_go HLB.out HSJ.out HX.out (Or.inl hp))
            clear hp
            go_wp2_with fail
            go_roundw
            case rel => exact ⟨j + 1, by omega, by go_num, HM1.out, HLB2⟩
            case measure => simp [intOf]; omega
          · have hpb : (x.parent != -1) = true := by simpa using hp
            cases sj with
            | true =>
              have HLB2 := Lib.hid (lost_go HLB.out HSJ.out HX.out (Or.inr rfl))
              clear hp
              go_wp2_with fail
              go_roundw
              case rel => exact ⟨j + 1, by omega, by go_num, HM1.out, HLB2⟩
              case measure => simp [intOf]; omega
            | false =>
              have HR := Lib.hid (HRS.out.trans (if_pos (lost_hit HLB.out HSJ.out HX.out hp)))
              clear hp
              go_wp2_with fail
              go_ret
              exact ⟨retI HR.out.symm, HM1.out.low⟩
        · have HR := Lib.hid (HRS.out.trans (if_neg (by rw [lost_end HLB.out (by have := HL.out; omega)]; decide)))
          obtain ⟨x, hx⟩ : ∃ x, l[0]? = some x := get_some (by have := HL.out; omega)
          obtain ⟨Aa, na, ca, Ak, nk, ck, hnd, c0, c1, c2, c3, c4, c5⟩ := HD.out.at_ 0 x hx
          have d4 : wr.cell? ⟨b, o + 4, none⟩ = some (.int .i64 x.parent) := (HMj.out.low.cell (p := ⟨b, o + 4, none⟩) (Nat.lt_of_lt_of_le HD.out.lt hB)).trans (by simpa using c4)
          have HH := Lib.hid (show (l.map Nd.parent).headD 0 = x.parent from by
            cases l with
            | nil => cases hx
            | cons z r => simp at hx; subst hx; rfl)
          clear hx hnd c0 c1 c2 c3 c4 c5
          by_cases hp : x.parent = -1
          · have hpb : (x.parent != -1) = false := by simpa using hp
            have HR2 := Lib.hid (HR.out.trans (if_neg (by rw [HH.out, hp]; decide)))
            clear hp
            go_wp2_with fail
            go_ret
            exact ⟨retI HR2.out.symm, HMj.out.low⟩
          · have hpb : (x.parent != -1) = true := by simpa using hp
            have HR2 := Lib.hid (HR.out.trans (if_pos (by rw [HH.out]; exact hp)))
            clear hp
            go_wp2_with fail
            go_ret
            exact ⟨retI HR2.out.symm, HMj.out.low⟩
end Go.Proofs.YtmemadajjmmlpaaDoor
