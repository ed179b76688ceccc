/-
The walks of span's ranger: point, order.
-/
import Derived.Test.YtcnogokemilhnaaDoorSpanPath
import Derived.Deep.DeepCutAuto
namespace Go.Proofs.YtcnogokemilhnaaDoor
open Go.RowKit Go.Cl
attribute [local go_sem ↓] Go.wp_at_zero Go.wp_at_succ

/-- May a point be? -/
def ptE (l : List Nd) (p : Pt) : Int :=
  if p.node < 0 ∨ (l.length : Int) ≤ p.node ∨ p.at_ < 0 ∨ (roomD l p.node : Int) < p.at_ then 1 else if topR l p.node ≠ 0 then 5 else 0
theorem roomD_le {w : World} {D : Nat → Prop} {A : Option Addr} {n c : Nat} {l : List Nd} (h : Sl tNd w D A n c l) (m : Nat) : roomD l m ≤ 1152921504606846976 := by
  unfold roomD
  cases hx : l[(m : Int).toNat]? with
  | none => simp
  | some x =>
    obtain ⟨_, _, _, _, _, _, _, _, _, _, hnd, _⟩ := Sl.nd h hx
    simp only
    split
    · exact hnd.text
    · have h1 := hnd.kids.small
      have h2 := hnd.kids.hn
      omega
set_option maxRecDepth 100000 in
set_option maxHeartbeats 4000000 in
theorem point_any (A : Option Addr) (n c : Nat) (l : List Nd) (q : Bool) (p : Pt) (w : World) (B : Nat) (hl : Sl tNd w (lt B) A n c l) (hB : B ≤ w.heap.size) (T : Tree l) :
    Calls Tryd.prog 91 #[.agg #[.slice A n c, .bool q], .agg #[.int .i64 p.node, .int .i64 p.at_]] w fun e w' => e = .returned (.int .i64 (ptE l p)) ∧ Below w.heap.size w w' := by
  obtain ⟨wa, hwa⟩ : ∃ wa, wa = w.alloc (.cells #[.slice A n c, .bool q] 106) := ⟨_, rfl⟩
  obtain ⟨w0, hw0⟩ : ∃ w0, w0 = wa.alloc (.cells #[.int .i64 p.node, .int .i64 p.at_] 57) := ⟨_, rfl⟩
  have za : wa.heap.size = w.heap.size + 1 := by rw [hwa]; exact World.size_alloc w _
  have hx1 : w0.heap[w.heap.size]? = some (.cells #[.slice A n c, .bool q] 106 (0, 0)) := by rw [hw0, Lib.alloc_old _ _ _ (by omega), hwa]; exact heap_alloc_new w _
  have hx2 : w0.heap[w.heap.size + 1]? = some (.cells #[.int .i64 p.node, .int .i64 p.at_] 57 (0, 0)) := by rw [hw0, ← za]; exact heap_alloc_new wa _
  have hb0 : Below w.heap.size w w0 := by rw [hw0, hwa]; exact ((Below.refl _ _).alloc (Nat.le_refl _) _).alloc (by simp) _
  have x0 : w0.cell? ⟨w.heap.size, 0, none⟩ = some (.slice A n c) := cell_blk hx1 rfl
  have x1 : w0.cell? ⟨w.heap.size, 1, none⟩ = some (.bool q) := cell_blk hx1 rfl
  have p0 : w0.cell? ⟨w.heap.size + 1, 0, none⟩ = some (.int .i64 p.node) := cell_blk hx2 rfl
  have p1 : w0.cell? ⟨w.heap.size + 1, 1, none⟩ = some (.int .i64 p.at_) := cell_blk hx2 rfl
  have HB0 := Lib.hid hb0
  have HT := Lib.hid T
  have HN := Lib.hid hl.hn
  have HL := Lib.hid (hl.below hb0 hB)
  have HBW : Hid (B ≤ w0.heap.size) := Nat.le_trans hB hb0.size
  have hcap := hl.hc
  clear za hx1 hx2 hb0 hl hB T
  have HPE : Hid (ptE l p = if p.node < 0 ∨ (l.length : Int) ≤ p.node ∨ p.at_ < 0 ∨ (roomD l p.node : Int) < p.at_ then 1 else if topR l p.node ≠ 0 then 5 else 0) := rfl
  go_enter Tryd.func91, Tryd.ntmps91
  go_upto_region 1 with fail
  rw [← hwa, ← hw0]
  clear hwa hw0
  by_cases h1 : p.node < 0
  · have HR := Lib.hid (HPE.out.trans (if_pos (Or.inl h1)))
    go_quiet (fail)
    generalize hwq : w0.drewN _ = wq
    have HBQ : Hid (Below w.heap.size w wq) := by rw [← hwq]; exact below_dN HB0.out _
    clear hwq
    go_wp2_with fail
    go_ret
    exact ⟨by rw [HR.out]; rfl, HBQ.out⟩
  obtain ⟨m, hm⟩ : ∃ m : Nat, p.node = (m : Int) := ⟨p.node.toNat, by omega⟩
  rw [hm] at p0 HPE
  by_cases h2 : l.length ≤ m
  · have HR := Lib.hid (HPE.out.trans (if_pos (Or.inr (Or.inl (by omega)))))
    have g1 : ¬ (m : Int) < 0 := by omega
    have g2 : (n : Int) ≤ (m : Int) := by have := HN.out; omega
    have g3 : n ≤ m := by have := HN.out; omega
    clear h1 h2 hm
    go_quiet (fail)
    generalize hwq : w0.drewN _ = wq
    have HBQ : Hid (Below w.heap.size w wq) := by rw [← hwq]; exact below_dN HB0.out _
    clear hwq
    go_wp2_with fail
    go_ret
    exact ⟨by rw [HR.out]; rfl, HBQ.out⟩
  have g1 : ¬ (m : Int) < 0 := by omega
  have g2 : ¬ (n : Int) ≤ (m : Int) := by have := HN.out; omega
  have g3 : ¬ n ≤ m := by have := HN.out; omega
  have g4 : decide (n ≤ m) = false := decide_eq_false g3
  by_cases h3 : p.at_ < 0
  · have HR := Lib.hid (HPE.out.trans (if_pos (Or.inr (Or.inr (Or.inl h3)))))
    clear h1 h2 hm
    go_quiet (fail)
    generalize hwq : w0.drewN _ = wq
    have HBQ : Hid (Below w.heap.size w wq) := by rw [← hwq]; exact below_dN HB0.out _
    clear hwq
    go_wp2_with fail
    go_ret
    exact ⟨by rw [HR.out]; rfl, HBQ.out⟩
  have HMM := Lib.hid hm
  have hml : m < l.length := by omega
  have HRO := Lib.hid (fun W (hb : Below w0.heap.size w0 W) => room_any A n c l q m W B (HL.out.below hb HBW.out) (Nat.le_trans HBW.out hb.size) hml)
  have HML := Lib.hid hml
  have HRL := Lib.hid (roomD_le HL.out m)
  clear h1 h2 hm hml
  obtain ⟨R, hR⟩ : ∃ R, roomD l m = R := ⟨_, rfl⟩
  rw [hR] at HPE HRO HRL
  clear hR
  go_cut [5] (fun b wx => b = .bool (decide ((R : Int) < p.at_)) ∧ Below w0.heap.size w0 wx)
  case first =>
    go_region_held3 (fun w' => w'.cell? ⟨w.heap.size, 0, none⟩ = some (.slice A n c) ∧ w'.cell? ⟨w.heap.size, 1, none⟩ = some (.bool q) ∧ w'.cell? ⟨w.heap.size + 1, 0, none⟩ = some (.int .i64 (m : Int)) ∧ w'.cell? ⟨w.heap.size + 1, 1, none⟩ = some (.int .i64 p.at_)) (first | exact ⟨x0, x1, p0, p1⟩ | exact ⟨d0, d1, d2, d3⟩)
      ((go_at_call 95; refine (HRO.out _ ((Below.refl _ w0).drew)).mono ?_; rintro e' w3 ⟨rfl, hb3⟩; have hb30 : Below w0.heap.size w0 w3 := ((Below.refl _ w0).drew).trans hb3; have d0 := cell_be x0 hb30; have d1 := cell_be x1 hb30; have d2 := cell_be p0 hb30; have d3 := cell_be p1 hb30))
    go_wp2_with fail
    go_meet
    case rel => exact ⟨rfl, hb30⟩
  case rest =>
    obtain ⟨rfl, hbw⟩ := hcut
    have HBX := Lib.hid (HB0.out.trans (hbw.mono HB0.out.size))
    by_cases h4 : (R : Int) < p.at_
    · have HR := Lib.hid (HPE.out.trans (if_pos (Or.inr (Or.inr (Or.inr h4)))))
      rw [show decide ((R : Int) < p.at_) = true from decide_eq_true h4]
      clear h4
      go_wp2_with fail
      go_ret
      exact ⟨by rw [HR.out]; rfl, HBX.out⟩
    · have HR1 := Lib.hid (HPE.out.trans (if_neg (by have := HML.out; omega)))
      rw [show decide ((R : Int) < p.at_) = false from decide_eq_false h4]
      have y0 := cell_be x0 hbw
      have y1 := cell_be x1 hbw
      have q0 := cell_be p0 hbw
      have q1 := cell_be p1 hbw
      have HPA := Lib.hid (path_any A n c l q m p.at_ wc B (HL.out.below hbw HBW.out) (Nat.le_trans HBW.out hbw.size) HT.out HML.out (by omega) (by have := HRL.out; omega))
      have heq := fun (a : Option Addr) (k q : Nat) (wx : World) => Lib.run_eql_slice_nil (P := Tryd.prog) wx 32 3 a k q 0 0 Tryd.underlying32
      clear hbw x0 x1 p0 p1 h4
      go_upto_region 3 with fail
      by_cases ht : topR l m = 0
      · have HR := Lib.hid (HR1.out.trans (if_neg (by simpa using ht)))
        have HTT := Lib.hid ht
        have HPB := Lib.hid (HPA.out.mono (R' := fun e w' => Below wc.heap.size wc w' ∧ ∃ g n' c', e = .returned (.slice (some ⟨g, 0, none⟩) n' c')) fun e w' ⟨hb, h⟩ => by
          rcases h with ⟨h, _⟩ | ⟨_, g, c', h, _⟩
          · exact absurd HTT.out h
          · exact ⟨hb, g, _, c', h⟩)
        clear ht HPA
        go_wp2_with (go_at_call 94; refine HPB.out.mono ?_; rintro e' w3 ⟨hb3, g, n', c', rfl⟩)
        go_ret
        exact ⟨by rw [HR.out]; rfl, HBX.out.trans (hb3.mono HBX.out.size)⟩
      · have HR := Lib.hid (HR1.out.trans (if_pos ht))
        have HTT := Lib.hid ht
        have HPB := Lib.hid (HPA.out.mono (R' := fun e w' => Below wc.heap.size wc w' ∧ e = .returned (.slice none 0 0)) fun e w' ⟨hb, h⟩ => by
          rcases h with ⟨_, h⟩ | ⟨h, _⟩
          · exact ⟨hb, h⟩
          · exact absurd h HTT.out)
        clear ht HPA
        go_wp2_with (go_at_call 94; refine HPB.out.mono ?_; rintro e' w3 ⟨hb3, rfl⟩)
        go_ret
        exact ⟨by rw [HR.out]; rfl, HBX.out.trans (hb3.mono HBX.out.size)⟩
end Go.Proofs.YtcnogokemilhnaaDoor
