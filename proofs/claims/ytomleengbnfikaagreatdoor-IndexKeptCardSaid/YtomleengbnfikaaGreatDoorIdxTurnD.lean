/-
The walk of turn, where it drops: a node away from all its words.
-/
import Derived.Test.YtomleengbnfikaaGreatDoorIdxDrop
import Derived.Test.YtomleengbnfikaaGreatDoorIdxKeptLaw
namespace Go.Proofs.YtomleengbnfikaaGreatDoor
open Go.RowKit Go.Cl
attribute [local go_sem ↓] Go.wp_at_zero Go.wp_at_succ

theorem drop_all (n : Int) : ∀ (l : List Ref) (ws : List ByteArray), allN (dropW n l ws) ≤ allN l
  | _, [] => Nat.le_refl _
  | l, x :: r => Nat.le_trans (drop_all n (dropR l x n) r) filter_sum
theorem dropW_snoc {n : Int} {l : List Ref} {ws : List ByteArray} {j : Nat} {x : ByteArray} (hx : ws[j]? = some x) : dropW n l (ws.take (j + 1)) = dropR (dropW n l (ws.take j)) x n := by
  unfold dropW
  rw [take_snoc hx, List.foldl_append]
  rfl
set_option maxRecDepth 100000 in
set_option maxHeartbeats 8000000 in
theorem turnD_any (x : Nd) (Aa : Option Addr) (na ca : Nat) (Ak : Option Addr) (nk ck : Nat) (n : Int) (K M base : Nat) (rk : Int → Int) (L : Nat → List Ref) (V : Nat → Value) (P : Nat → List Value) (w : World) (B : Nat) (hx : NdAt w (lt B) x Aa na ca Ak nk ck) (hB : B ≤ w.heap.size) (hs : ∀ a ∈ x.attrs, a.2.size ≤ 1000000)
    (h : KpAt w base K M rk L V P) (hf : ∀ i, i < 4 → allN (L i) ≤ 100000) :
    Calls Tryz.prog 17 #[.pointer (some ⟨K, 0, none⟩), .agg #[.int .i64 x.kind, .string x.name, .slice Aa na ca, .string x.text, .int .i64 x.parent, .slice Ak nk ck], .int .i64 n, .func (.func 18) #[.pointer (some ⟨K, 0, none⟩)] #[]] w fun e w' => e = .returned undef ∧ ∃ V' P', KStep w base K M rk V P (dropL L (wordsP x) n) w' V' P' := by
  obtain ⟨w0, hw0⟩ : ∃ w0, w0 = w.alloc (.cells #[.int .i64 x.kind, .string x.name, .slice Aa na ca, .string x.text, .int .i64 x.parent, .slice Ak nk ck] 39) := ⟨_, rfl⟩
  have hbx : w0.heap[w.heap.size]? = some (.cells #[.int .i64 x.kind, .string x.name, .slice Aa na ca, .string x.text, .int .i64 x.parent, .slice Ak nk ck] 39 (0, 0)) := by rw [hw0]; exact heap_alloc_new w _
  have hb0 : Below w.heap.size w w0 := by rw [hw0]; exact (Below.refl _ _).alloc (Nat.le_refl _) _
  have c0 := cell_blk (i := 0) hbx rfl
  have c1 := cell_blk (i := 1) hbx rfl
  have c2 := cell_blk (i := 2) hbx rfl
  have c3 := cell_blk (i := 3) hbx rfl
  have c4 := cell_blk (i := 4) hbx rfl
  have c5 := cell_blk (i := 5) hbx rfl
  have HB0 := Lib.hid hb0
  have HW := Lib.hid (wordsN_any x Aa na ca Ak nk ck w0 B (hx.below hb0 hB) (Nat.le_trans hB hb0.size) hs)
  have HF := Lib.hid hf
  have H := Lib.hid h
  have h4 := words_four x
  rw [show (WWPost w0 (wordsP x)) = fun e w' => WWPost w0 (wordsP x) e w' from rfl] at HW
  generalize hws : wordsP x = ws at *
  have HL4 := Lib.hid h4
  clear hws hbx hb0 hx hs hf h h4
  go_enter Tryz.func17, Tryz.ntmps17
  go_upto_region 1 with fail
  rw [← hw0]
  clear hw0
  go_upto_region 2 with (go_at_call 31; refine HW.out.mono ?_; rintro e w1 ⟨hb1, A1, d1, rfl, hs1⟩)
  have HLI := Lib.hid (lists_any K w1)
  have HB1 := Lib.hid (bstep HB0.out hb1)
  rw [HL4.out] at hs1 ⊢
  have HS1 := Lib.hid hs1
  clear hb1 hs1 c0 c1 c2 c3 c4 c5 HW
  go_upto_region 3 with (go_at_call 11; refine HLI.out.mono ?_; rintro e w2 ⟨hb2, rfl, hl2⟩)
  have HS2 := Lib.hid (Sl.upW HS1.out HB0.out hb2)
  have HL2 := Lib.hid hl2
  have HZ1 : Hid (w.heap.size ≤ w1.heap.size) := HB1.out.size
  have HZ2 : Hid (w1.heap.size < w2.heap.size) := (Array.getElem?_eq_some_iff.1 hl2).1
  have H2 := Lib.hid ((KStep.refl H.out).next (bstep HB1.out hb2))
  have HM2 := Lib.hid (fun b (hb : KMine K V P b) => show b < w.heap.size ∨ w2.heap.size ≤ b from .inl (H.out.mine hb).2)
  clear hb2 hl2 HS1 HLI
  go_loopw [20] (fun s wr => ∃ (i : Nat) (Lc : Nat → List Ref) (V' : Nat → Value) (P' : Nat → List Value), i ≤ 4 ∧ s = .int .i64 (i : Int) ∧ w2.heap.size ≤ wr.heap.size ∧ Hid (KStep w base K M rk V P Lc wr V' P') ∧ Hid (∀ i', i' < 4 → Lc i' = if i' < i then dropL L ws n i' else L i') ∧ Hid ((∀ b, w.heap.size ≤ b → b < w2.heap.size → wr.heap[b]? = w2.heap[b]?) ∧ ∀ b, KMine K V' P' b → b < w.heap.size ∨ w2.heap.size ≤ b)) (fun s _ => 4 - (intOf s).toNat)
  case atStart => exact ⟨0, L, V, P, by omega, rfl, Nat.le_refl _, H2, Lib.hid (fun i' _ => (if_neg (by omega)).symm), Lib.hid ⟨fun _ _ _ => rfl, HM2.out⟩⟩
  case round =>
    obtain ⟨i, Lc, V1, P1, hi, rfl, hz, HK, HC, HFR⟩ := hrel
    by_cases hlt : i < 4
    · obtain ⟨wi, hwi⟩ : ∃ wi, ws[i]? = some wi := get_some (by rw [HL4.out]; exact hlt)
      have p1 : wr.cell? ⟨w1.heap.size, i, none⟩ = some (.pointer (some ⟨K, i, none⟩)) := cell_blk ((HFR.out.1 _ HZ1.out HZ2.out).trans HL2.out) (ptr_at hlt)
      obtain ⟨b, o, cs, rfl, hD, ⟨Ai, mi, ci, rfl, hsi⟩, hcc⟩ := (HS2.out.keep fun p hp => World.cell?_of_block (HFR.out.1 p.block hp.1 hp.2)).get hwi
      have p2 : wr.cell? ⟨b, o + i, none⟩ = some (.slice Ai mi ci) := by
        have h := hcc 0 _ rfl
        rw [show i * (tSlice tStr).size + 0 = i from Nat.mul_one i] at h
        exact h
      have i1 : (0 : Int) ≤ (i : Int) := by omega
      have i2 : (i : Int) < 4 := by omega
      have hmi := hsi.hn
      have hms := hsi.small
      have HMI := Lib.hid hmi
      have HSI := Lib.hid hsi
      have HWI := Lib.hid hwi
      clear hcc hD hsi hwi hmi
      go_wp2_with fail
      obtain ⟨wo, rfl⟩ : ∃ wo : World, wo = wr := ⟨_, rfl⟩
      go_loopw [30] (fun s wq => ∃ (j : Nat) (Ld : Nat → List Ref) (V' : Nat → Value) (P' : Nat → List Value), j ≤ mi ∧ s = .int .i64 (j : Int) ∧ w2.heap.size ≤ wq.heap.size ∧ Hid (KStep w base K M rk V P Ld wq V' P') ∧ Hid (∀ i', i' < 4 → Ld i' = if i' < i then dropL L ws n i' else if i' = i then dropW n (L i) (wi.take j) else L i') ∧ Hid ((∀ b, w.heap.size ≤ b → b < w2.heap.size → wq.heap[b]? = w2.heap[b]?) ∧ ∀ b, KMine K V' P' b → b < w.heap.size ∨ w2.heap.size ≤ b)) (fun s _ => mi - (intOf s).toNat)
      case atStart =>
        refine ⟨0, Lc, V1, P1, Nat.zero_le _, rfl, hz, HK, Lib.hid (fun i' hi' => ?_), HFR⟩
        rw [HC.out i' hi']
        by_cases e : i' < i
        · rw [if_pos e, if_pos e]
        · rw [if_neg e, if_neg e]
          by_cases e2 : i' = i
          · rw [if_pos e2, e2]; rfl
          · rw [if_neg e2]
      case round =>
        obtain ⟨j, Ld, V2, P2, hj, rfl, hz2, HK2, HC2, HFR2⟩ := hrel
        by_cases hjl : j < mi
        · obtain ⟨y, hy⟩ : ∃ y, wi[j]? = some y := get_some (by have := HMI.out; omega)
          obtain ⟨b2, o2, rfl, _, c1, hys⟩ := (HSI.out.keep fun p hp => World.cell?_of_block ((HFR2.out.1 p.block hp.1 hp.2).trans (HFR.out.1 p.block hp.1 hp.2).symm)).str hy
          have hLi : Ld i = dropW n (L i) (wi.take j) := by rw [HC2.out i hlt, if_neg (by omega), if_pos rfl]
          have hlen : allN (Ld i) ≤ 100000 := by
            rw [hLi]
            exact Nat.le_trans (drop_all n _ _) (HF.out i hlt)
          have HPT := Lib.hid (drop_kp HK2.out.at_ hlt y n hlen)
          have HLI := Lib.hid hLi
          have HY := Lib.hid hy
          clear hy hys hLi hlen
          go_wp2_with (go_at_call 18; refine HPT.out.mono ?_; rintro e w3 ⟨rfl, V3, P3, hk3⟩)
          have hfar := hk3.far (s0 := w.heap.size) (s1 := w2.heap.size) hz2 HFR2.out.2
          go_roundw
          case rel =>
            refine ⟨j + 1, _, V3, P3, by omega, by go_num, Nat.le_trans hz2 hk3.tou.size, Lib.hid (KStep.trans HK2.out hk3), Lib.hid (fun i' hi' => ?_), Lib.hid ⟨fun b h0 h1 => (hfar.1 b h0 h1).trans (HFR2.out.1 b h0 h1), hfar.2⟩⟩
            by_cases e2 : i' = i
            · subst e2
              rw [upd_self, if_neg (by omega), if_pos rfl, dropW_snoc HY.out, HLI.out]
            · rw [upd_ne _ _ e2, HC2.out i' hi', if_neg e2, if_neg e2]
          case measure => simp [intOf]; omega
        · go_wp2_with fail
          go_roundw
          case rel =>
            refine ⟨i + 1, Ld, V2, P2, by omega, by go_num, hz2, HK2, Lib.hid (fun i' hi' => ?_), HFR2⟩
            rw [HC2.out i' hi']
            by_cases e : i' < i
            · rw [if_pos e, if_pos (by omega)]
            · rw [if_neg e]
              by_cases e2 : i' = i
              · subst e2
                rw [if_pos rfl, if_pos (by omega)]
                unfold dropL
                rw [show ws[i']? = some wi from HWI.out, List.take_of_length_le (by have := HMI.out; omega)]
                rfl
              · rw [if_neg e2, if_neg (by omega)]
          case measure => simp [intOf]; omega
    · go_wp2_with fail
      refine bodyPost_end (results_none rfl _ _ _) rfl ⟨rfl, V1, P1, KStep.congr HK.out fun i' hi' => ?_⟩
      rw [HC.out i' hi', if_pos (by omega)]
end Go.Proofs.YtomleengbnfikaaGreatDoor
