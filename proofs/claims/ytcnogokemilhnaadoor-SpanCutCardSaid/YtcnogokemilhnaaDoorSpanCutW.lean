/-
The walks of span's within, left, cut, Cut.
-/
import Derived.Test.YtcnogokemilhnaaDoorSpanCutLaw2
import Derived.Test.YtcnogokemilhnaaDoorSpanText
import Derived.Test.YtcnogokemilhnaaDoorEdWalksB
import Derived.Test.YtcnogokemilhnaaDoorBothLaw
namespace Go.Proofs.YtcnogokemilhnaaDoor
open Go.RowKit Go.Cl
attribute [local go_sem ↓] Go.wp_at_zero Go.wp_at_succ

set_option maxRecDepth 100000 in
set_option maxHeartbeats 4000000 in
theorem within_any (A : Option Addr) (n c : Nat) (l : List Nd) (q : Bool) (k : Nat) (top : Int) (w : World) (B : Nat) (hl : Sl tNd w (lt B) A n c l) (hB : B ≤ w.heap.size) (T : Tree l) (hk : k < l.length) :
    Calls Tryd.prog 102 #[.agg #[.slice A n c, .bool q], .int .i64 (k : Int), .int .i64 top] w fun e' w' => e' = .returned (.bool (belowB l k top)) ∧ Below w.heap.size w w' := by
  obtain ⟨w0, hw0⟩ : ∃ w0, w0 = w.alloc (.cells #[.slice A n c, .bool q] 106) := ⟨_, rfl⟩
  have hb0 : Below w.heap.size w w0 := by rw [hw0]; exact (Below.refl _ _).alloc (Nat.le_refl _) _
  have hx1 : w0.heap[w.heap.size]? = some (.cells #[.slice A n c, .bool q] 106 (0, 0)) := by rw [hw0]; exact heap_alloc_new w _
  have HN := Lib.hid hl.hn
  have hcap := hl.hc
  obtain ⟨bb, o, rfl, hd⟩ := doc_at (hl.below hb0 hB) (by have := hl.hn; omega)
  have HD := Lib.hid hd
  have HB0 := Lib.hid hb0
  have HT := Lib.hid T
  have H0 : Hid (BRel l k top k) := ⟨Or.inr ⟨k, rfl, hk⟩, rfl⟩
  have x0 := cell_blk (i := 0) hx1 rfl
  have x1 := cell_blk (i := 1) hx1 rfl
  clear hb0 hx1 hl hB T hk hd
  go_enter Tryd.func102, Tryd.ntmps102
  go_upto_region 1 with fail
  rw [← hw0]
  clear hw0
  go_loop [1] (fun s => ∃ z : Int, s = .int .i64 z ∧ Hid (BRel l k top z)) (fun s => depZ l (intOf s))
  case atStart => exact ⟨k, rfl, H0⟩
  case round =>
    obtain ⟨z, rfl, HR⟩ := hrel
    rcases HR.out.1 with hz | ⟨m, hz, hm⟩
    · have h0 : ¬ 0 ≤ z := by omega
      have HB := Lib.hid (HR.out.2.trans (below_neg l (by omega)))
      clear hz
      go_wp2_with fail
      go_ret
      exact ⟨retB HB.out.symm, HB0.out⟩
    · subst hz
      by_cases ht : (m : Int) = top
      · have HB := Lib.hid (show belowB l k top = true from HR.out.2.trans (by rw [ht]; exact below_self top))
        have ht1 : ((m : Int) != top) = false := by simpa using ht
        have ht2 : ((m : Int) == top) = true := by simpa using ht
        clear ht
        go_wp2_with fail
        go_ret
        exact ⟨retB HB.out.symm, HB0.out⟩
      · obtain ⟨x, hx⟩ := get_some hm
        have ht1 : ((m : Int) != top) = true := by simpa using ht
        obtain ⟨_, _, _, _, _, _, _, _, _, _, _, k4, _⟩ := HD.out.at_ m x hx
        have HPD := Lib.hid (parD_at hx)
        have HU := Lib.hid (HR.out.2.trans (HT.out.below_up hm ht))
        have HDP := Lib.hid (HT.out.dep_par hm)
        have HPR := Lib.hid (HT.out.par hm)
        have i1 : (m : Int) < (n : Int) := by have := HN.out; omega
        clear hx ht hm HR
        go_wp2_with fail
        go_round
        case rel => exact ⟨_, rfl, by
          rw [HPD.out] at HU HPR
          refine ⟨?_, HU.out⟩
          rcases HPR.out with e | ⟨p, e, hp, _⟩
          · exact Or.inl e
          · exact Or.inr ⟨p, e, hp⟩⟩
        case measure =>
          simp only [intOf]
          have h1 := HDP.out
          have h2 := HPD.out
          rw [h2] at h1
          omega
set_option maxRecDepth 100000 in
set_option maxHeartbeats 4000000 in
theorem left_any (t : ByteArray) (k : Int) (a b : Pt) (w : World) (ht : t.size ≤ 400) (h1 : a.node = k → 0 ≤ a.at_ ∧ a.at_ ≤ (t.size : Int)) (h2 : b.node = k → 0 ≤ b.at_ ∧ b.at_ ≤ (t.size : Int)) :
    Calls Tryd.prog 103 #[.string t, .int .i64 k, .agg #[.int .i64 a.node, .int .i64 a.at_, .int .i64 b.node, .int .i64 b.at_]] w fun e' w' => e' = .returned (.string (leftB t k a b)) ∧ Below w.heap.size w w' := by
  obtain ⟨w0, hw0⟩ : ∃ w0, w0 = w.alloc (.cells #[.int .i64 a.node, .int .i64 a.at_, .int .i64 b.node, .int .i64 b.at_] 63) := ⟨_, rfl⟩
  have hb0 : Below w.heap.size w w0 := by rw [hw0]; exact (Below.refl _ _).alloc (Nat.le_refl _) _
  have hx1 : w0.heap[w.heap.size]? = some (.cells #[.int .i64 a.node, .int .i64 a.at_, .int .i64 b.node, .int .i64 b.at_] 63 (0, 0)) := by rw [hw0]; exact heap_alloc_new w _
  have HB0 := Lib.hid hb0
  have s0 := cell_blk (i := 0) hx1 rfl
  have s1 := cell_blk (i := 1) hx1 rfl
  have s2 := cell_blk (i := 2) hx1 rfl
  have s3 := cell_blk (i := 3) hx1 rfl
  have HL := Lib.hid (show leftB t k a b = t.extract 0 (if a.node = k then a.at_.toNat else 0) ++ t.extract (if b.node = k then b.at_.toNat else t.size) t.size from rfl)
  clear hb0 hx1
  have z0 : t.extract 0 0 = ByteArray.empty := ByteArray.ext (Array.toList_inj.1 (by simp))
  have z1 : t.extract t.size t.size = ByteArray.empty := by simp
  have Z0 := Lib.hid z0
  have Z1 := Lib.hid z1
  clear z0 z1
  go_enter Tryd.func103, Tryd.ntmps103
  go_upto_region 1 with fail
  rw [← hw0]
  clear hw0
  by_cases g1 : a.node = k
  · obtain ⟨i, hi⟩ : ∃ i : Nat, a.at_ = (i : Int) := ⟨a.at_.toNat, by have := h1 g1; omega⟩
    have hit : i ≤ t.size := by have := h1 g1; omega
    have e1 : (a.node == k) = true := by simpa using g1
    rw [if_pos g1, hi, Int.toNat_natCast] at HL
    rw [hi] at s1
    clear g1 h1 hi
    by_cases g2 : b.node = k
    · obtain ⟨j, hj⟩ : ∃ j : Nat, b.at_ = (j : Int) := ⟨b.at_.toNat, by have := h2 g2; omega⟩
      have hjt : j ≤ t.size := by have := h2 g2; omega
      have e2 : (b.node == k) = true := by simpa using g2
      rw [if_pos g2, hj, Int.toNat_natCast] at HL
      rw [hj] at s3
      clear g2 h2 hj
      go_upto_region 6 with fail
      go_quiet (fail)
      go_wp2_with fail
      go_ret
      exact ⟨by rw [HL.out]; first | rfl | (rw [Z0.out, Z1.out]; rfl) | (rw [Z0.out, ByteArray.empty_append]; rfl) | (rw [Z1.out, ByteArray.append_empty]; rfl), below_dN HB0.out _⟩
    · have e2 : (b.node == k) = false := beq_eq_false_iff_ne.2 g2
      rw [if_neg g2] at HL
      clear g2 h2
      go_upto_region 6 with fail
      go_quiet (fail)
      go_wp2_with fail
      go_ret
      exact ⟨by rw [HL.out]; first | rfl | (rw [Z0.out, Z1.out]; rfl) | (rw [Z0.out, ByteArray.empty_append]; rfl) | (rw [Z1.out, ByteArray.append_empty]; rfl), below_dN HB0.out _⟩
  · have e1 : (a.node == k) = false := beq_eq_false_iff_ne.2 g1
    rw [if_neg g1] at HL
    clear g1 h1
    by_cases g2 : b.node = k
    · obtain ⟨j, hj⟩ : ∃ j : Nat, b.at_ = (j : Int) := ⟨b.at_.toNat, by have := h2 g2; omega⟩
      have hjt : j ≤ t.size := by have := h2 g2; omega
      have e2 : (b.node == k) = true := by simpa using g2
      rw [if_pos g2, hj, Int.toNat_natCast] at HL
      rw [hj] at s3
      clear g2 h2 hj
      go_upto_region 6 with fail
      go_quiet (fail)
      go_wp2_with fail
      go_ret
      exact ⟨by rw [HL.out]; first | rfl | (rw [Z0.out, Z1.out]; rfl) | (rw [Z0.out, ByteArray.empty_append]; rfl) | (rw [Z1.out, ByteArray.append_empty]; rfl), below_dN HB0.out _⟩
    · have e2 : (b.node == k) = false := beq_eq_false_iff_ne.2 g2
      rw [if_neg g2] at HL
      clear g2 h2
      go_upto_region 6 with fail
      go_quiet (fail)
      go_wp2_with fail
      go_ret
      exact ⟨by rw [HL.out]; first | rfl | (rw [Z0.out, Z1.out]; rfl) | (rw [Z0.out, ByteArray.empty_append]; rfl) | (rw [Z1.out, ByteArray.append_empty]; rfl), below_dN HB0.out _⟩
end Go.Proofs.YtcnogokemilhnaaDoor
