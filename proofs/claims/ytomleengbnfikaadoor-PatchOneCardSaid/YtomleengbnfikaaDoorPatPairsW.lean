/-
Patches: the walk of pairs.
-/
import Derived.Test.YtomleengbnfikaaDoorPatPairs
import Derived.Test.YtomleengbnfikaaDoorPatAttrs
import Derived.Deep.DeepCutAuto
namespace Go.Proofs.YtomleengbnfikaaDoor
open Go.RowKit Go.Cl
attribute [local go_sem ↓] Go.wp_at_zero Go.wp_at_succ

/-- What pairs of kids are worth, by number. -/
noncomputable def Wk (l1 l2 : List Nd) (f : Nat) (ks ks2 : List Int) (i k : Nat) : Int := wthF l1 l2 f (ks[i]?.getD 0).toNat (ks2[k]?.getD 0).toNat
theorem wk_le (l1 l2 : List Nd) (f : Nat) (ks ks2 : List Int) (i k : Nat) : 0 ≤ Wk l1 l2 f ks ks2 i k ∧ Wk l1 l2 f ks ks2 i k ≤ 2 := wth_le _ _ _ _ _
theorem wrap_in {x : Int} (h1 : -1000000 ≤ x) (h2 : x ≤ 1000000) : IntKind.i64.wrap x = x := IntWalk.i64_in _ (by omega)
theorem balloc3 {a b : World} (h : Below a.heap.size a b) (o : Obj) : Below a.heap.size a (b.alloc o) := h.alloc h.size o
/-- Whom each of the second kids goes with. -/
def outF (ks : List Int) (k : Nat) : Int := ks[k]?.getD (-1)
set_option maxRecDepth 100000 in
set_option maxHeartbeats 16000000 in
theorem pairs_any {l1 l2 : List Nd} (T1 : Tree l1) (T2 : Tree l2) (E b1 o1 n1 c1 b2 o2 n2 c2 : Nat) (q1 q2 : Bool) (v : Value) (mm : Int) (hn1 : n1 ≤ c1) (hn2 : n2 ≤ c2) (f : Nat) (A : Option Addr) (L c : Nat) (ks : List Int) (A2 : Option Addr) (M c2' : Nat) (ks2 : List Int) (w : World) (B : Nat)
    (hd1 : DocAt w B b1 o1 n1 l1) (hd2 : DocAt w B b2 o2 n2 l2) (hB : B ≤ w.heap.size) (hs1 : n1 ≤ 1000) (hs2 : n2 ≤ 1000) (hE : w.heap[E]? = some (.cells (dfCells (some ⟨b1, o1, none⟩) n1 c1 q1 (some ⟨b2, o2, none⟩) n2 c2 q2 v mm) 59 (0, 0)))
    (hk : Sl (tInt .i64) w (lt B) A L c ks) (hk2 : Sl (tInt .i64) w (lt B) A2 M c2' ks2) (hz1 : ∀ z ∈ ks, ∃ p : Nat, z = (p : Int) ∧ p < l1.length ∧ upN l1 p + f = 41) (hz2 : ∀ z ∈ ks2, ∃ p : Nat, z = (p : Int) ∧ p < l2.length) (hL : L ≤ 1000) (hM : M ≤ 1000) (hLM : L ≤ M) (hdi : ∀ k, k < L → Diag (Wk l1 l2 f ks ks2) (dpF (Wk l1 l2 f ks ks2) L M) k) :
    Calls Tryd.prog 31 #[.pointer (some ⟨E, 0, none⟩), .slice A L c, .slice A2 M c2'] w fun e' w' => ∃ g, e' = .returned (.slice (some ⟨g, 0, none⟩) M M) ∧ Below w.heap.size w w' ∧ w.heap.size ≤ g ∧ RowF w' g M 3 (fun k => .int .i64 (outF ks k)) := by
  obtain ⟨wa, hwa⟩ : ∃ wa, wa = w.alloc (.cells #[.pointer (some ⟨E, 0, none⟩)] 57) := ⟨_, rfl⟩
  obtain ⟨wb, hwb⟩ : ∃ wb, wb = wa.alloc (.cells #[.slice A L c] 26) := ⟨_, rfl⟩
  obtain ⟨w0, hw0⟩ : ∃ w0, w0 = wb.alloc (.cells #[.slice A2 M c2'] 26) := ⟨_, rfl⟩
  have za : wa.heap.size = w.heap.size + 1 := by rw [hwa]; exact World.size_alloc w _
  have zb : wb.heap.size = w.heap.size + 1 + 1 := by rw [hwb, World.size_alloc, za]
  have hb0 : Below w.heap.size w w0 := by rw [hw0, hwb, hwa]; exact balloc3 (balloc3 (balloc3 (Below.refl _ _) _) _) _
  have hx2 : w0.heap[w.heap.size]? = some (.cells #[.pointer (some ⟨E, 0, none⟩)] 57 (0, 0)) := by rw [hw0, Lib.alloc_old _ _ _ (by omega), hwb, Lib.alloc_old _ _ _ (by omega), hwa]; exact heap_alloc_new w _
  have hx3 : w0.heap[w.heap.size + 1]? = some (.cells #[.slice A L c] 26 (0, 0)) := by rw [hw0, Lib.alloc_old _ _ _ (by omega), hwb, ← za]; exact heap_alloc_new wa _
  have hx4 : w0.heap[w.heap.size + 1 + 1]? = some (.cells #[.slice A2 M c2'] 26 (0, 0)) := by rw [hw0, ← zb]; exact heap_alloc_new wb _
  have hWb : Wb w0 w.heap.size (w.heap.size + 1) (w.heap.size + 1 + 1) E b1 o1 n1 c1 q1 b2 o2 n2 c2 q2 v mm A L c A2 M c2' := ⟨hx2, hx3, hx4, (hb0.block E (Array.getElem?_eq_some_iff.1 hE).1).trans hE⟩
  obtain ⟨Wt, hWt⟩ : ∃ Wt, Wk l1 l2 f ks ks2 = Wt := ⟨_, rfl⟩
  have hWle : ∀ i k, 0 ≤ Wt i k ∧ Wt i k ≤ 2 := fun i k => by rw [← hWt]; exact wk_le _ _ _ _ _ _ _
  have hkn := hk.hn
  have hkn2 := hk2.hn
  have HWO := Lib.hid (fun (W : World) (hW : Below w0.heap.size w0 W) (i k : Nat) (hi : i < L) (hkk : k < M) => by
    obtain ⟨z, hz⟩ : ∃ z, ks[i]? = some z := get_some (by omega)
    obtain ⟨u, hu⟩ : ∃ u, ks2[k]? = some u := get_some (by omega)
    obtain ⟨p, rfl, hp, hup⟩ := hz1 z (List.mem_of_getElem? hz)
    obtain ⟨p2, rfl, hp2⟩ := hz2 u (List.mem_of_getElem? hu)
    have hbW := hb0.trans (hW.mono hb0.size)
    have h := worth_any T1 T2 w.heap.size (w.heap.size + 1) (w.heap.size + 1 + 1) E b1 o1 n1 c1 b2 o2 n2 c2 q1 q2 v mm hn1 hn2 f A L c ks A2 M c2' ks2 i k p p2 W B (hd1.below hbW hB) (hd2.below hbW hB) (Nat.le_trans hB hbW.size) hs1 hs2 (hWb.next hW) (hk.below hbW hB) (hk2.below hbW hB) hz hu hp hp2 hup
    have e : wthF l1 l2 f p p2 = Wt i k := by rw [← hWt]; unfold Wk; rw [hz, hu]; rfl
    rw [e] at h
    exact h)
  have HWle := Lib.hid hWle
  have HDI := Lib.hid hdi
  rw [hWt] at HDI
  have HKS := Lib.hid (hk.below hb0 hB)
  have HBB : Hid (B ≤ w0.heap.size) := Nat.le_trans hB hb0.size
  have HKN := Lib.hid hkn
  have HWB := Lib.hid hWb
  have HB0 := Lib.hid hb0
  have hlc := hk.hc
  have hmc := hk2.hc
  clear za zb hb0 hx2 hx3 hx4 hWb hd1 hd2 hE hk hk2 hz1 hz2 T1 T2 hkn hkn2 hWle hWt hdi hB
  obtain ⟨X2, hX2⟩ : ∃ X2, w.heap.size = X2 := ⟨_, rfl⟩
  have HX2 := Lib.hid hX2
  rw [hX2] at HWO HWB
  go_enter Tryd.func31, Tryd.ntmps31
  go_upto_region 1 with fail
  rw [← hwa, ← hwb, ← hw0]
  clear hwa hwb hw0 hX2
  have hmk : (Instr.makeSlice 91 (.int .i64 ((L : Int) + 1)) (.int .i64 ((L : Int) + 1))).run Tryd.prog w0 = .ok (.slice (some ⟨w0.heap.size, 0, none⟩) (L + 1) (L + 1)) (w0.alloc (.cells (List.replicate (L + 1) (Value.slice none 0 0)).toArray 26)) := make_rows w0 (L + 1) (by omega)
  have hin1 := Ini.mk (w := w0.alloc (.cells (List.replicate (L + 1) (Value.slice none 0 0)).toArray 26)) (lo := w0.heap.size) (T := w0.heap.size) (L := L) (M := M) (j := 0) (R := fun _ => 0) ((RowF.made (w := w0) (n := L + 1) (e := 26) (Value.slice none 0 0)).congr fun k _ => (if_neg (Nat.not_lt_zero k)).symm) (fun i hi => absurd hi (Nat.not_lt_zero _)) (fun i _ hi => absurd hi (Nat.not_lt_zero _)) (fun i hi => absurd hi (Nat.not_lt_zero _))
  obtain ⟨w1, hw1⟩ : ∃ w1, w1 = w0.alloc (.cells (List.replicate (L + 1) (Value.slice none 0 0)).toArray 26) := ⟨_, rfl⟩
  rw [← hw1] at hmk hin1
  have hb1 : Below w0.heap.size w0 w1 := by rw [hw1]; exact (Below.refl _ _).alloc (Nat.le_refl _) _
  have HB1 := Lib.hid hb1
  have HIN1 := Lib.hid hin1
  have hWB0 := HWB.out
  have x3 : w0.cell? ⟨X2 + 1, 0, none⟩ = some (.slice A L c) := cell_blk (i := 0) hWB0.x3 rfl
  clear hw1 hb1 hin1 hWB0
  obtain ⟨Tb, hTb⟩ : ∃ Tb, w0.heap.size = Tb := ⟨_, rfl⟩
  have HTB := Lib.hid hTb
  rw [hTb] at HIN1 hmk
  clear hTb
  go_upto_region 3 with fail
  clear hmk x3
  go_loopw [23] (fun s wr => ∃ j : Nat, j ≤ L + 1 ∧ s = .int .i64 (j : Int) ∧ Hid (∃ R, Below w0.heap.size w0 wr ∧ Ini wr Tb Tb L M j R)) (fun s _ => L + 1 - (intOf s).toNat)
  case atStart => exact ⟨0, Nat.zero_le _, rfl, _, HB1.out, HIN1.out⟩
  case round =>
    obtain ⟨j, hj, rfl, HR⟩ := hrel
    obtain ⟨R, hbr, hini⟩ := HR.out
    have hwr := HWB.out.next hbr
    have y4 : wr.cell? ⟨X2 + 1 + 1, 0, none⟩ = some (.slice A2 M c2') := cell_blk (i := 0) hwr.x4 rfl
    by_cases hlt : j < L + 1
    · have hmk : (Instr.makeSlice 26 (.int .i64 ((M : Int) + 1)) (.int .i64 ((M : Int) + 1))).run Tryd.prog wr = .ok (.slice (some ⟨wr.heap.size, 0, none⟩) (M + 1) (M + 1)) (wr.alloc (.cells (List.replicate (M + 1) (Value.int .i64 0)).toArray 3)) := make_ints wr (M + 1) (by omega)
      have hstep := hini.step (by rw [← show w0.heap.size = Tb from HTB.out]; exact hbr.size)
      have hb3 : Below wr.heap.size wr (wr.alloc (.cells (List.replicate (M + 1) (Value.int .i64 0)).toArray 3)) := (Below.refl _ _).alloc (Nat.le_refl _) _
      have ho3 := hini.outer.next hb3
      obtain ⟨w3, hw3⟩ : ∃ w3, w3 = wr.alloc (.cells (List.replicate (M + 1) (Value.int .i64 0)).toArray 3) := ⟨_, rfl⟩
      rw [← hw3] at hmk hstep hb3 ho3
      have z0 := ho3.at_ hlt
      have z1 := ho3.free j
      have HST := Lib.hid hstep
      have HB3 : Hid (Below w0.heap.size w0 (w3.setCell ⟨Tb, j, none⟩ (.slice (some ⟨wr.heap.size, 0, none⟩) (M + 1) (M + 1)))) := (hbr.trans (hb3.mono hbr.size)).setCell (p := ⟨Tb, j, none⟩) (by rw [← show w0.heap.size = Tb from HTB.out]; exact Nat.le_refl _) _
      have j1 : (0 : Int) ≤ (j : Int) := by omega
      have j2 : (j : Int) < (L : Int) + 1 := by omega
      clear hw3 hb3 ho3 hstep hini hbr HR hwr
      go_wp2_with fail
      go_roundw
      case rel => exact ⟨j + 1, by omega, by go_num, _, HB3.out, HST.out⟩
      case measure => simp [intOf]; omega
    · have hjl : j = L + 1 := by omega
      obtain ⟨W1, rfl⟩ : ∃ W1 : World, W1 = wr := ⟨_, rfl⟩
      have HT1 : Hid (Tab W1 Tb Tb L M R fun _ _ => 0) := by
        rw [hjl] at hini
        exact hini.tab
      have HB01 := Lib.hid hbr
      have y3 : W1.cell? ⟨X2 + 1, 0, none⟩ = some (.slice A L c) := cell_blk (i := 0) hwr.x3 rfl
      have HG1 : Hid (Tab W1 Tb Tb L M R (dpG Wt L M L M)) := HT1.out.congr fun r k _ _ => dpG_start.symm
      have hjc : ¬ (j : Int) < (L : Int) + 1 := by omega
      clear hini hbr HR hwr y4 hjl hj hlt
      go_upto_region 9 with fail
      clear y3
      go_loopw [10] (fun s wr => ∃ (a : Nat) (z : Int), a ≤ L ∧ z = (a : Int) - 1 ∧ s = .int .i64 z ∧ Hid (Below w0.heap.size w0 wr ∧ Tab wr Tb Tb L M R (dpG Wt L M a M))) (fun s _ => (intOf s + 1).toNat)
      case atStart => exact ⟨L, _, Nat.le_refl _, rfl, by go_num, HB01.out, HG1.out⟩
      case round =>
        obtain ⟨a, z, ha, hz, rfl, HR⟩ := hrel
        have hb0r := HR.out.1
        have hwr := HWB.out.next hb0r
        by_cases ha0 : a = 0
        · subst ha0
          obtain rfl : z = -1 := by omega
          have HTF : Hid (Tab wr Tb Tb L M R (dpF Wt L M)) := HR.out.2.congr fun r k _ _ => if_pos (Or.inl (Nat.zero_le _))
          have y4 : wr.cell? ⟨X2 + 1 + 1, 0, none⟩ = some (.slice A2 M c2') := cell_blk (i := 0) hwr.x4 rfl
          have hmk : (Instr.makeSlice 26 (.int .i64 (M : Int)) (.int .i64 (M : Int))).run Tryd.prog wr = .ok (.slice (some ⟨wr.heap.size, 0, none⟩) M M) (wr.alloc (.cells (List.replicate M (Value.int .i64 0)).toArray 3)) := make_ints wr M (by omega)
          have ho : RowF (wr.alloc (.cells (List.replicate M (Value.int .i64 0)).toArray 3)) wr.heap.size M 3 fun _ => .int .i64 0 := RowF.made _
          have hba : Below wr.heap.size wr (wr.alloc (.cells (List.replicate M (Value.int .i64 0)).toArray 3)) := (Below.refl _ _).alloc (Nat.le_refl _) _
          obtain ⟨w5, hw5⟩ : ∃ w5, w5 = wr.alloc (.cells (List.replicate M (Value.int .i64 0)).toArray 3) := ⟨_, rfl⟩
          rw [← hw5] at hmk ho hba
          have HT5 := Lib.hid (HTF.out.next hba)
          have HO5 := Lib.hid ho
          have HB5 := Lib.hid (hb0r.trans (hba.mono hb0r.size))
          have HW5 := Lib.hid (hwr.next hba)
          have y45 := cell_be y4 hba
          have HOL : Hid (w0.heap.size ≤ wr.heap.size ∧ ∀ i, i ≤ L → R i ≠ wr.heap.size) := ⟨hb0r.size, fun i hi e => absurd (HTF.out.inner i hi).lt (by omega)⟩
          clear hw5 hba ho hb0r hwr HR hz HTF HT1 HG1
          obtain ⟨O, hO⟩ : ∃ O, wr.heap.size = O := ⟨_, rfl⟩
          rw [hO] at hmk HO5 HOL
          clear hO ha
          go_upto_region 21 with fail
          clear hmk y4 y45
          go_loopw [108, 14] (fun s s14 wr => ∃ k k14 : Nat, k ≤ M ∧ s = .int .i64 (k : Int) ∧ s14 = .int .i64 (k14 : Int) ∧ k14 ≤ L ∧ (k < L → k14 = k) ∧ (L ≤ k → k14 = L) ∧ Hid (Below w0.heap.size w0 wr ∧ Tab wr Tb Tb L M R (dpF Wt L M) ∧ RowF wr O M 3 fun j => if j < k then .int .i64 (outF ks j) else .int .i64 0)) (fun s _ _ => M - (intOf s).toNat)
          case atStart => exact ⟨0, 0, Nat.zero_le _, rfl, by go_num, Nat.zero_le _, fun _ => rfl, fun h => by omega, HB5.out, HT5.out, HO5.out.congr fun k _ => (if_neg (Nat.not_lt_zero k)).symm⟩
          case round =>
            obtain ⟨k, k14, hk, rfl, rfl, h14, h15, h16, HR⟩ := hrel
            by_cases hlt : k < M
            · have hwr := HWB.out.next HR.out.1
              have ho := HR.out.2.2
              have o1 := ho.at_ hlt
              have o2 := ho.free k
              rw [if_neg (Nat.lt_irrefl k)] at o1
              have y3 : wr.cell? ⟨X2 + 1, 0, none⟩ = some (.slice A L c) := cell_blk (i := 0) hwr.x3 rfl
              have hset := ho.set k (.int .i64 (-1))
              have k1 : (0 : Int) ≤ (k : Int) := by omega
              have k2 : (k : Int) < (M : Int) := by omega
              obtain ⟨w6, hw6⟩ : ∃ w6, w6 = wr.setCell ⟨O, k, none⟩ (.int .i64 (-1)) := ⟨_, rfl⟩
              have HB6 : Hid (Below w0.heap.size w0 w6) := by rw [hw6]; exact HR.out.1.setCell (p := ⟨O, k, none⟩) HOL.out.1 _
              have HT6 : Hid (Tab w6 Tb Tb L M R (dpF Wt L M)) := by
                rw [hw6]
                exact ⟨HR.out.2.1.outer.far fun e => (HR.out.2.1.outer.ne ho (by decide)) e.symm, fun i hi => (HR.out.2.1.inner i hi).far fun e => HOL.out.2 i hi e.symm, HR.out.2.1.inj, HR.out.2.1.low⟩
              rw [← hw6] at hset
              have HS6 := Lib.hid hset
              have y36 : w6.cell? ⟨X2 + 1, 0, none⟩ = some (.slice A L c) := cell_blk (i := 0) (HWB.out.next HB6.out).x3 rfl
              clear hwr ho hset HR y3
              go_upto_region 24 with fail
              rw [← hw6]
              clear hw6 o1 o2
              by_cases hkL : k < L
              · obtain rfl : k14 = k := h15 hkL
                have HDK := Lib.hid (HDI.out k14 hkL)
                have v1 := dp_bound (L := L) (M := M) (fun i k => (HWle.out i k).2) k14 k14
                have v3 := dp_bound (L := L) (M := M) (fun i k => (HWle.out i k).2) (k14 + 1) (k14 + 1)
                have HWK := Lib.hid (HWle.out k14 k14)
                obtain ⟨n0, hn0⟩ : ∃ n0, Wt k14 k14 = n0 := ⟨_, rfl⟩
                have HN0 := Lib.hid hn0
                rw [hn0] at HWK
                have hn02 := HWK.out
                have hpos : 0 < n0 := by rw [← hn0]; exact HDK.out.pos
                have hne : (dpF Wt L M k14 k14 != dpF Wt L M k14 (k14 + 1)) = true := by rw [bne_iff_ne]; exact HDK.out.ne
                have heq : (dpF Wt L M k14 k14 == n0 + dpF Wt L M (k14 + 1) (k14 + 1)) = true := by rw [beq_iff_eq, ← hn0]; exact HDK.out.eq
                have hws : IntKind.i64.wrap (n0 + dpF Wt L M (k14 + 1) (k14 + 1)) = n0 + dpF Wt L M (k14 + 1) (k14 + 1) := wrap_in (by omega) (by omega)
                have hwk : IntKind.i64.wrap ((k14 : Int) + 1) = (k14 : Int) + 1 := wrap_in (by omega) (by omega)
                have htk : ((k14 : Int) + 1).toNat = k14 + 1 := by omega
                have k3 : (k14 : Int) < (L : Int) := by omega
                have k4 : (0 : Int) ≤ (k14 : Int) + 1 := by omega
                have k5 : (k14 : Int) + 1 < (M : Int) + 1 := by omega
                have k6 : (k14 : Int) < (M : Int) + 1 := by omega
                have k7 : (k14 : Int) < (L : Int) + 1 := by omega
                have k8 : (k14 : Int) + 1 < (L : Int) + 1 := by omega
                obtain ⟨zk, hzk⟩ : ∃ zk, ks[k14]? = some zk := get_some (by have := HKN.out; omega)
                have HZK := Lib.hid hzk
                clear hn0 hzk h14 h15 h16 hlt hk
                go_loopw [14] (fun s wq => s = .int .i64 (k14 : Int) ∧ wq = w6) (fun _ _ => 0)
                case atStart => exact ⟨rfl, rfl⟩
                case round =>
                  obtain ⟨rfl, rfl⟩ := hrel
                  have r1 := HT6.out.row (i := k14) (by omega)
                  have e1 := HT6.out.at_ (i := k14) (k := k14) (by omega) (by omega)
                  have e2 := HT6.out.at_ (i := k14) (k := k14 + 1) (by omega) (by omega)
                  go_upto_region 24 with fail
                  go_quiet (fail)
                  generalize hwz : wr.drewN _ = wz
                  have hbz : Below wr.heap.size wr wz := by rw [← hwz]; exact below_dN (Below.refl _ _) _
                  have HBZ := Lib.hid (HB6.out.trans (hbz.mono HB6.out.size))
                  have HTZ := Lib.hid (HT6.out.next hbz)
                  have HSZ := Lib.hid (HS6.out.next hbz)
                  have HWC := Lib.hid (HWO.out wz HBZ.out k14 k14 (by omega) (by omega))
                  rw [show Wt k14 k14 = n0 from HN0.out] at HWC
                  clear hwz hbz r1 e1 e2 y36
                  go_upto_region 26 with (go_at_call 52; refine HWC.out.mono ?_; rintro e' w7 ⟨rfl, hb7⟩)
                  have hT7 := HTZ.out.next hb7
                  have r1 := hT7.row (i := k14) (by omega)
                  have r2 := hT7.row (i := k14 + 1) (by omega)
                  have e1 := hT7.at_ (i := k14) (k := k14) (by omega) (by omega)
                  have e3 := hT7.at_ (i := k14 + 1) (k := k14 + 1) (by omega) (by omega)
                  have HB7 := Lib.hid (HBZ.out.trans (hb7.mono HBZ.out.size))
                  have HT7 := Lib.hid hT7
                  have HS7 := Lib.hid (HSZ.out.next hb7)
                  clear hT7 hb7 HWC
                  go_quiet (fail)
                  generalize hwz : w7.drewN _ = w8
                  have hb8 : Below w7.heap.size w7 w8 := by rw [← hwz]; exact below_dN (Below.refl _ _) _
                  have HB8 := Lib.hid (HB7.out.trans (hb8.mono HB7.out.size))
                  have HT8 := Lib.hid (HT7.out.next hb8)
                  have hS8 := HS7.out.next hb8
                  have y3 : w8.cell? ⟨X2 + 1, 0, none⟩ = some (.slice A L c) := cell_blk (i := 0) (HWB.out.next HB8.out).x3 rfl
                  obtain ⟨gk, ok, rfl, _, u1, _⟩ := (HKS.out.below HB8.out HBB.out).int HZK.out
                  have o1 := hS8.at_ (k := k14) (by omega)
                  rw [if_pos rfl] at o1
                  have o2 := hS8.free k14
                  have hset := hS8.set k14 (.int .i64 zk)
                  have HB9 : Hid (Below w0.heap.size w0 (w8.setCell ⟨O, k14, none⟩ (.int .i64 zk))) := HB8.out.setCell (p := ⟨O, k14, none⟩) HOL.out.1 _
                  have HT9 : Hid (Tab (w8.setCell ⟨O, k14, none⟩ (.int .i64 zk)) Tb Tb L M R (dpF Wt L M)) := ⟨HT8.out.outer.far fun e => (HT8.out.outer.ne hS8 (by decide)) e.symm, fun i hi => (HT8.out.inner i hi).far fun e => HOL.out.2 i hi e.symm, HT8.out.inj, HT8.out.low⟩
                  have HS9 : Hid (RowF (w8.setCell ⟨O, k14, none⟩ (.int .i64 zk)) O M 3 fun j => if j < k14 + 1 then .int .i64 (outF ks j) else .int .i64 0) := hset.congr fun j hj => by
                    by_cases e : j = k14
                    · subst e
                      rw [if_pos rfl, if_pos (Nat.lt_succ_self _)]
                      unfold outF
                      rw [HZK.out]
                      rfl
                    · rw [if_neg e, if_neg e]
                      by_cases e2 : j < k14
                      · rw [if_pos e2, if_pos (by omega)]
                      · rw [if_neg e2, if_neg (by omega)]
                  clear hwz hb8 r1 r2 e1 e3 hset hS8
                  go_wp2_with fail
                  go_roundw
                  case rel => exact ⟨k14 + 1, k14 + 1, by omega, by go_num, by go_num, by omega, fun _ => rfl, fun h => by omega, HB9.out, HT9.out, HS9.out⟩
                  case measure => simp [intOf] <;> omega
              · have h14L : k14 = L := h16 (by omega)
                have hno : outF ks k = -1 := by unfold outF; rw [List.getElem?_eq_none (by have := HKN.out; omega)]; rfl
                have HS7 : Hid (RowF w6 O M 3 fun j => if j < k + 1 then .int .i64 (outF ks j) else .int .i64 0) := HS6.out.congr fun j hj => by
                  by_cases e : j = k
                  · subst e
                    rw [if_pos rfl, if_pos (Nat.lt_succ_self _), hno]
                  · rw [if_neg e]
                    by_cases e2 : j < k
                    · rw [if_pos e2, if_pos (by omega)]
                    · rw [if_neg e2, if_neg (by omega)]
                have HKL : Hid (¬ k < L) := hkL
                have hge : ¬ (k14 : Int) < (L : Int) := by omega
                have H14 := Lib.hid h14L
                clear h14L h14 h15 h16 hno hkL
                go_loopw [14] (fun s wq => s = .int .i64 (k14 : Int) ∧ wq = w6) (fun _ _ => 0)
                case atStart => exact ⟨rfl, rfl⟩
                case round =>
                  obtain ⟨rfl, rfl⟩ := hrel
                  go_upto_region 24 with fail
                  go_quiet (fail)
                  generalize hwz : wr.drewN _ = wz
                  have hbz : Below wr.heap.size wr wz := by rw [← hwz]; exact below_dN (Below.refl _ _) _
                  have HBZ := Lib.hid (HB6.out.trans (hbz.mono HB6.out.size))
                  have HTZ := Lib.hid (HT6.out.next hbz)
                  have HSZ := Lib.hid (HS7.out.next hbz)
                  clear hwz hbz
                  go_wp2_with fail
                  go_roundw
                  case rel => exact ⟨k + 1, k14, by omega, by go_num, rfl, by have := H14.out; omega, fun h => absurd h (by have := HKL.out; omega), fun _ => H14.out, HBZ.out, HTZ.out, HSZ.out⟩
                  case measure => simp [intOf] <;> omega
            · obtain rfl : k = M := by omega
              have HFN := Lib.hid (HR.out.2.2.congr (F' := fun j => .int .i64 (outF ks j)) fun j hj => if_pos hj)
              have HBN := Lib.hid (HB0.out.trans (HR.out.1.mono HB0.out.size))
              have hOw : w.heap.size ≤ O := Nat.le_trans HB0.out.size HOL.out.1
              clear HR h14 h15 h16
              go_wp2_with fail
              go_ret
              exact ⟨O, rfl, HBN.out, hOw, HFN.out⟩
        · obtain ⟨i, rfl⟩ : ∃ i, a = i + 1 := ⟨a - 1, by omega⟩
          obtain rfl : z = (i : Int) := by omega
          have y4 : wr.cell? ⟨X2 + 1 + 1, 0, none⟩ = some (.slice A2 M c2') := cell_blk (i := 0) hwr.x4 rfl
          have i1 : (0 : Int) ≤ (i : Int) := by omega
          have HRI := Lib.hid HR.out
          clear hwr hb0r HR hz
          go_upto_region 12 with fail
          clear y4
          obtain ⟨wo, rfl⟩ : ∃ wo : World, wo = wr := ⟨_, rfl⟩
          go_loopw [11] (fun s wq => ∃ (b : Nat) (z : Int), b ≤ M ∧ z = (b : Int) - 1 ∧ s = .int .i64 z ∧ Hid (Below w0.heap.size w0 wq ∧ Tab wq Tb Tb L M R (dpG Wt L M (i + 1) b))) (fun s _ => (intOf s + 1).toNat)
          case atStart => exact ⟨M, _, Nat.le_refl _, rfl, by go_num, HRI.out.1, HRI.out.2⟩
          case round =>
            obtain ⟨b, z, hb, hz, rfl, HQ⟩ := hrel
            by_cases hb00 : b = 0
            · subst hb00
              obtain rfl : z = -1 := by omega
              have HN : Hid (Below w0.heap.size w0 wr ∧ Tab wr Tb Tb L M R (dpG Wt L M i M)) := ⟨HQ.out.1, HQ.out.2.congr fun r k _ _ => dpG_row⟩
              clear HQ hz
              go_wp2_with fail
              go_roundw
              case rel => exact ⟨i, _, by omega, rfl, by go_num, HN.out.1, HN.out.2⟩
              case measure => simp [intOf] <;> omega
            · obtain ⟨k, rfl⟩ : ∃ k, b = k + 1 := ⟨b - 1, by omega⟩
              obtain rfl : z = (k : Int) := by omega
              have hT := HQ.out.2
              have v1 := dp_bound (L := L) (M := M) (fun i k => (HWle.out i k).2) (i + 1) k
              have v2 := dp_bound (L := L) (M := M) (fun i k => (HWle.out i k).2) i (k + 1)
              have v3 := dp_bound (L := L) (M := M) (fun i k => (HWle.out i k).2) (i + 1) (k + 1)
              have r1 := hT.row (i := i) (by omega)
              have r2 := hT.row (i := i + 1) (by omega)
              have e1 := hT.at_ (i := i + 1) (k := k) (by omega) (by omega)
              have e2 := hT.at_ (i := i) (k := k + 1) (by omega) (by omega)
              have e0 := hT.at_ (i := i) (k := k) (by omega) (by omega)
              have e3 := hT.free (i := i) (by omega) k
              rw [show dpG Wt L M (i + 1) (k + 1) (i + 1) k = dpF Wt L M (i + 1) k from if_pos (Or.inl (Nat.le_refl _))] at e1
              rw [show dpG Wt L M (i + 1) (k + 1) i (k + 1) = dpF Wt L M i (k + 1) from if_pos (Or.inr ⟨rfl, Nat.le_refl _⟩)] at e2
              have HDP := Lib.hid (dp_in (W := Wt) (L := L) (M := M) (i := i) (k := k) (by omega) (by omega))
              have HT := Lib.hid hT
              have hwi : IntKind.i64.wrap ((i : Int) + 1) = (i : Int) + 1 := wrap_in (by omega) (by omega)
              have hwk : IntKind.i64.wrap ((k : Int) + 1) = (k : Int) + 1 := wrap_in (by omega) (by omega)
              have i2 : (i : Int) < (L : Int) + 1 := by omega
              have i3 : (i : Int) + 1 < (L : Int) + 1 := by omega
              have i4 : (0 : Int) ≤ (i : Int) + 1 := by omega
              have k4 : (0 : Int) ≤ (k : Int) + 1 := by omega
              have hti : ((i : Int) + 1).toNat = i + 1 := by omega
              have htk : ((k : Int) + 1).toNat = k + 1 := by omega
              have k1 : (0 : Int) ≤ (k : Int) := by omega
              have k2 : (k : Int) < (M : Int) + 1 := by omega
              have k3 : (k : Int) + 1 < (M : Int) + 1 := by omega
              clear hT hz
              go_upto_region 14 with fail
              go_still_tail 22, (by kernel_rfl)
              change wpList _ _ _ _ _ wr.drew
              have hbd : Below wr.heap.size wr wr.drew := (Below.refl _ wr).drew
              have hTd := HT.out.next hbd
              have f0 := hTd.at_ (i := i) (k := k) (by omega) (by omega)
              have f3 := hTd.free (i := i) (by omega) k
              have HTS := Lib.hid (hTd.set (i := i) (k := k) (by omega) (max (dpF Wt L M (i + 1) k) (dpF Wt L M i (k + 1))))
              have hlo : w0.heap.size ≤ R i := by have := hTd.low i (by omega); have := HTB.out; omega
              have HBD : Hid (Below w0.heap.size w0 (wr.drew.setCell ⟨R i, k, none⟩ (.int .i64 (max (dpF Wt L M (i + 1) k) (dpF Wt L M i (k + 1)))))) := (HQ.out.1.trans (hbd.mono HQ.out.1.size)).setCell (p := ⟨R i, k, none⟩) hlo _
              have HLO : Hid (w0.heap.size ≤ R i) := hlo
              clear r1 r2 e1 e2 e0 e3 hTd hbd HT HQ hlo
              generalize wr.drew = wd at *
              go_upto_region 15 with fail
              obtain ⟨w3, hw3⟩ : ∃ w3, w3 = wd.setCell ⟨R i, k, none⟩ (.int .i64 (max (dpF Wt L M (i + 1) k) (dpF Wt L M i (k + 1)))) := ⟨_, rfl⟩
              rw [← hw3] at HTS HBD ⊢
              have HWC := Lib.hid (HWO.out w3 HBD.out i k (by omega) (by omega))
              have HWK := Lib.hid (HWle.out i k)
              clear hw3 f0 f3
              obtain ⟨n0, hn0⟩ : ∃ n0, Wt i k = n0 := ⟨_, rfl⟩
              have HN0 := Lib.hid hn0
              rw [hn0] at HWC HWK HDP
              have hn02 := HWK.out
              clear hn0
              by_cases hpos : 0 < n0
              · have HDP2 := Lib.hid (HDP.out.trans (if_pos hpos))
                go_upto_region 17 with (go_at_call 52; refine HWC.out.mono ?_; rintro e' w4 ⟨rfl, hb4⟩)
                have hT4 := HTS.out.next hb4
                have r1 := hT4.row (i := i) (by omega)
                have r2 := hT4.row (i := i + 1) (by omega)
                have e0 := hT4.at_ (i := i) (k := k) (by omega) (by omega)
                have e1 := hT4.at_ (i := i + 1) (k := k + 1) (by omega) (by omega)
                have e3 := hT4.free (i := i) (by omega) k
                rw [show upd2 (dpG Wt L M (i + 1) (k + 1)) i k (max (dpF Wt L M (i + 1) k) (dpF Wt L M i (k + 1))) i k = max (dpF Wt L M (i + 1) k) (dpF Wt L M i (k + 1)) from if_pos ⟨rfl, rfl⟩] at e0
                rw [show upd2 (dpG Wt L M (i + 1) (k + 1)) i k (max (dpF Wt L M (i + 1) k) (dpF Wt L M i (k + 1))) (i + 1) (k + 1) = dpF Wt L M (i + 1) (k + 1) from (if_neg (by omega)).trans (if_pos (Or.inl (Nat.le_refl _)))] at e1
                have hws : IntKind.i64.wrap (n0 + dpF Wt L M (i + 1) (k + 1)) = n0 + dpF Wt L M (i + 1) (k + 1) := wrap_in (by omega) (by omega)
                have HB4 := Lib.hid (HBD.out.trans (hb4.mono HBD.out.size))
                have HT4 := Lib.hid hT4
                clear hT4 hb4 HWC
                go_still_tail 24, (by kernel_rfl)
                change wpList _ _ _ _ _ w4.drew
                have hbd : Below w4.heap.size w4 w4.drew := (Below.refl _ w4).drew
                have hTd := HT4.out.next hbd
                have f0 := hTd.at_ (i := i) (k := k) (by omega) (by omega)
                have f3 := hTd.free (i := i) (by omega) k
                have HFIN := Lib.hid ((hTd.set (i := i) (k := k) (by omega) (max (max (dpF Wt L M (i + 1) k) (dpF Wt L M i (k + 1))) (n0 + dpF Wt L M (i + 1) (k + 1)))).congr fun r cc _ _ => dpG_step (W := Wt) HDP2.out.symm _ (fun r cc h => if_neg h) r cc)
                have HBF : Hid (Below w0.heap.size w0 (w4.drew.setCell ⟨R i, k, none⟩ (.int .i64 (max (max (dpF Wt L M (i + 1) k) (dpF Wt L M i (k + 1))) (n0 + dpF Wt L M (i + 1) (k + 1)))))) := (HB4.out.trans (hbd.mono HB4.out.size)).setCell (p := ⟨R i, k, none⟩) HLO.out _
                rw [Int.max_assoc] at HFIN HBF
                clear r1 r2 e0 e1 e3 hTd hbd HT4 HB4
                generalize w4.drew = wd4 at *
                go_wp2_with fail
                go_roundw
                case rel => exact ⟨k, _, by omega, rfl, by go_num, HBF.out, HFIN.out⟩
                case measure => simp [intOf] <;> omega
              · have HDP2 := Lib.hid (HDP.out.trans (if_neg hpos))
                have HFIN := Lib.hid (HTS.out.congr fun r cc _ _ => dpG_step (W := Wt) HDP2.out.symm _ (fun r cc h => rfl) r cc)
                go_wp2_with (go_at_call 52; refine HWC.out.mono ?_; rintro e' w4 ⟨rfl, hb4⟩)
                go_roundw
                case rel => exact ⟨k, _, by omega, rfl, by go_num, HBD.out.trans (hb4.mono HBD.out.size), HFIN.out.next hb4⟩
                case measure => simp [intOf] <;> omega
end Go.Proofs.YtomleengbnfikaaDoor
