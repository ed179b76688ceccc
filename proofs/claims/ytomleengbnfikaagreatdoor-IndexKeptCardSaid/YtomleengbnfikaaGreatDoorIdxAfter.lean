/-
The walk of After: an index kept, when its document is edited.
-/
import Derived.Test.YtomleengbnfikaaGreatDoorIdxAftKit
namespace Go.Proofs.YtomleengbnfikaaGreatDoor
open Go.RowKit Go.Cl
attribute [local go_sem ↓] Go.wp_at_zero Go.wp_at_succ

set_option maxRecDepth 100000 in
set_option maxHeartbeats 4000000 in
theorem afterI_any (A : Option Addr) (n c : Nat) (l : List Nd) (q : Bool) (e : Edt) (Aa : Option Addr) (na ca : Nat) (Ak : Option Addr) (nk ck : Nat) (A0 A1 A2 A3 : Option Addr) (n0 n1 n2 n3 c0 c1 c2 c3 : Nat) (w : World) (B : Nat)
    (hl : Sl tNd w (lt B) A n c l) (h0 : Sl tRef w (lt B) A0 n0 c0 (anD l 0)) (h1 : Sl tRef w (lt B) A1 n1 c1 (anD l 1)) (h2 : Sl tRef w (lt B) A2 n2 c2 (anD l 2)) (h3 : Sl tRef w (lt B) A3 n3 c3 (anD l 3)) (hB : B ≤ w.heap.size) (heo : EdtOk w (lt B) e Aa na ca Ak nk ck) (G : Good l) (h100 : l.length ≤ 100) :
    Calls Tryz.prog 7 #[.agg #[.slice A n c, .bool q], .agg #[.slice A0 n0 c0, .slice A1 n1 c1, .slice A2 n2 c2, .slice A3 n3 c3], .agg (edtCells e Aa na ca Ak nk ck)] w (AfPost w l q e) := by
  obtain ⟨wa, hwa⟩ : ∃ wa, wa = w.alloc (.cells #[.slice A n c, .bool q] 24) := ⟨_, rfl⟩
  obtain ⟨wb, hwb⟩ : ∃ wb, wb = wa.alloc (.cells #[.slice A0 n0 c0, .slice A1 n1 c1, .slice A2 n2 c2, .slice A3 n3 c3] 29) := ⟨_, rfl⟩
  obtain ⟨wc, hwc⟩ : ∃ wc, wc = wb.alloc (.cells (edtCells e Aa na ca Ak nk ck) 41) := ⟨_, rfl⟩
  obtain ⟨wd, hwd⟩ : ∃ wd, wd = wc.alloc (.cells #[.slice none 0 0, .bool false] 24) := ⟨_, rfl⟩
  obtain ⟨w0, hw0⟩ : ∃ w0, w0 = wd.alloc (.cells #[.slice none 0 0, .slice none 0 0, .slice none 0 0, .slice none 0 0] 29) := ⟨_, rfl⟩
  have za : wa.heap.size = w.heap.size + 1 := by rw [hwa]; exact World.size_alloc w _
  have zb : wb.heap.size = w.heap.size + 2 := by rw [hwb, World.size_alloc, za]
  have zc : wc.heap.size = w.heap.size + 3 := by rw [hwc, World.size_alloc, zb]
  have zd : wd.heap.size = w.heap.size + 4 := by rw [hwd, World.size_alloc, zc]
  have z0 : w0.heap.size = w.heap.size + 5 := by rw [hw0, World.size_alloc, zd]
  have hb0 : Below w.heap.size w w0 := by rw [hw0, hwd, hwc, hwb, hwa]; exact balloc (balloc (balloc (balloc (balloc (Below.refl _ _) _) _) _) _) _
  have hxD : w0.heap[w.heap.size]? = some (.cells #[.slice A n c, .bool q] 24 (0, 0)) := by rw [hw0, Lib.alloc_old _ _ _ (by omega), hwd, Lib.alloc_old _ _ _ (by omega), hwc, Lib.alloc_old _ _ _ (by omega), hwb, Lib.alloc_old _ _ _ (by omega), hwa]; exact heap_alloc_new w _
  have hxI : w0.heap[w.heap.size + 1]? = some (.cells #[.slice A0 n0 c0, .slice A1 n1 c1, .slice A2 n2 c2, .slice A3 n3 c3] 29 (0, 0)) := by rw [hw0, Lib.alloc_old _ _ _ (by omega), hwd, Lib.alloc_old _ _ _ (by omega), hwc, Lib.alloc_old _ _ _ (by omega), hwb, ← za]; exact heap_alloc_new wa _
  have hxE : w0.heap[w.heap.size + 2]? = some (.cells (edtCells e Aa na ca Ak nk ck) 41 (0, 0)) := by rw [hw0, Lib.alloc_old _ _ _ (by omega), hwd, Lib.alloc_old _ _ _ (by omega), hwc, ← zb]; exact heap_alloc_new wb _
  have hxRD : w0.heap[w.heap.size + 3]? = some (.cells #[.slice none 0 0, .bool false] 24 (0, 0)) := by rw [hw0, Lib.alloc_old _ _ _ (by omega), hwd, ← zc]; exact heap_alloc_new wc _
  have hxRI : w0.heap[w.heap.size + 4]? = some (.cells #[.slice none 0 0, .slice none 0 0, .slice none 0 0, .slice none 0 0] 29 (0, 0)) := by rw [hw0, ← zd]; exact heap_alloc_new wd _
  have HZ0 := Lib.hid z0
  have HB0 := Lib.hid hb0
  have HXD := Lib.hid hxD
  have HXI := Lib.hid hxI
  have HXE := Lib.hid hxE
  have HXRD := Lib.hid hxRD
  have HXRI := Lib.hid hxRI
  have HL := Lib.hid (hl.below hb0 hB)
  have HEO := Lib.hid (heo.below hb0 hB)
  have HBW : Hid (B ≤ w0.heap.size) := Nat.le_trans hB hb0.size
  obtain ⟨L, hL⟩ : ∃ L, anD l = L := ⟨_, rfl⟩
  have HLD := Lib.hid hL
  rw [hL] at h0 h1 h2 h3
  have HI0 := Lib.hid (h0.below hb0 hB)
  have HI1 := Lib.hid (h1.below hb0 hB)
  have HI2 := Lib.hid (h2.below hb0 hB)
  have HI3 := Lib.hid (h3.below hb0 hB)
  have HG := Lib.hid G
  have H100 := Lib.hid h100
  have T := tree_of (check_of G)
  have HT := Lib.hid T
  have HC := Lib.hid (check_of G)
  have hfew := T.all_few
  have HOR := Lib.hid (order_any A n c l q w0 B HL.out HBW.out)
  have HOR2 := Lib.hid (HOR.out.mono (R' := fun e w' => Below w0.heap.size w0 w' ∧ ∃ v, e = .returned (.tuple #[v, .int .i64 0]) ∧ OwnF (tInt .i64) w' w0.heap.size 3 v (preR l 0).length (preR l 0)) fun e w' h => ⟨h.1, (h.2.resolve_left fun h => h.1 HC.out).2⟩)
  have y0 := cell_blk (i := 0) hxD rfl
  have y1 := cell_blk (i := 1) hxD rfl
  have HPI := Lib.hid (fun x hx => T.pre_in T.pos x hx)
  have HLP := Lib.hid (show 0 < n from by have := hl.hn; have := T.pos; omega)
  obtain ⟨xs, hxs⟩ : ∃ xs, preR l 0 = xs := ⟨_, rfl⟩
  have HXS := Lib.hid hxs
  have HLX : Hid (anTo (rkF xs xs.length) l xs xs.length = L) := by rw [← hxs]; exact hL
  rw [show ((0 : Nat) : Int) = 0 from rfl] at HPI
  rw [hxs] at HOR2 hfew HPI
  clear za zb zc zd z0 hb0 hxD hxI hxE hxRD hxRI hl h0 h1 h2 h3 hB heo G h100 T hL HOR hxs
  go_enter Tryz.func7, Tryz.ntmps7
  go_upto_region 1 with fail
  rw [← hwa, ← hwb, ← hwc, ← hwd, ← hw0]
  clear hwa hwb hwc hwd hw0
  go_upto_region 4 with (go_at_call 9; refine HOR2.out.mono ?_; rintro e' w1 ⟨hb1, v, rfl, hown⟩; obtain ⟨A5, c5, rfl⟩ := Own.form hown)
  obtain ⟨_, _, e5, hsl⟩ := OwnF.sl hown (by decide) (by show xs.length * 8 ≤ _; omega)
  injection e5 with e51 _ e52
  subst e51 e52
  have HB1 := Lib.hid hb1
  have HSO := Lib.hid hsl
  have hxD1 := (hb1.block w.heap.size (by have := HZ0.out; omega)).trans HXD.out
  have y0 := cell_blk (i := 0) hxD1 rfl
  have y1 := cell_blk (i := 1) hxD1 rfl
  have HAN := Lib.hid (anew_any A n c l q A5 xs.length c5 xs w1 w1.heap.size ((HL.out.below hb1 HBW.out).up (Nat.le_trans HBW.out hb1.size)) hsl (Nat.le_refl _) hfew (fun x hx => HPI.out x hx) (good_vals HG.out) HLP.out)
  rw [HLX.out] at HAN
  have HFEW := Lib.hid hfew
  clear hb1 hown hsl hxD1 HOR2
  go_upto_region 5 with (go_at_call 10; refine HAN.out.mono ?_; rintro e' w2 ⟨hb2, base1, K1, M1, rk1, V1, P1, hbase1, hkp1, rfl⟩; obtain ⟨B0, d0, g0, s0⟩ := hkp1.ix 0 (by decide); obtain ⟨B1, d1, g1, s1⟩ := hkp1.ix 1 (by decide); obtain ⟨B2, d2, g2, s2⟩ := hkp1.ix 2 (by decide); obtain ⟨B3, d3, g3, s3⟩ := hkp1.ix 3 (by decide); rw [g0, g1, g2, g3]; clear g0 g1 g2 g3 hkp1)
  obtain ⟨w3, hw3⟩ : ∃ w3, w3 = w2.alloc (.cells #[.slice B0 (L 0).length d0, .slice B1 (L 1).length d1, .slice B2 (L 2).length d2, .slice B3 (L 3).length d3] 29) := ⟨_, rfl⟩
  rw [← hw3]
  have hxN : w3.heap[w2.heap.size]? = some (.cells #[.slice B0 (L 0).length d0, .slice B1 (L 1).length d1, .slice B2 (L 2).length d2, .slice B3 (L 3).length d3] 29 (0, 0)) := by rw [hw3]; exact heap_alloc_new w2 _
  have hb23 : Below w2.heap.size w2 w3 := by rw [hw3]; exact (Below.refl _ _).alloc (Nat.le_refl _) _
  have HB3 := Lib.hid (bstep HB0.out (bstep HB1.out (bstep hb2 hb23)))
  have HB13 := Lib.hid (bstep HB1.out (bstep hb2 hb23))
  have HB23 := Lib.hid hb23
  have HS0 := Lib.hid (Sl.ltr s0)
  have HS1 := Lib.hid (Sl.ltr s1)
  have HS2 := Lib.hid (Sl.ltr s2)
  have HS3 := Lib.hid (Sl.ltr s3)
  have HSO3 := Lib.hid (hb2.trans (hb23.mono hb2.size))
  have HZ12 : Hid (w1.heap.size ≤ w2.heap.size) := hb2.size
  have HLS := Lib.hid (fun K W => lists_any K W)
  obtain ⟨N, hN⟩ : ∃ N, w2.heap.size = N := ⟨_, rfl⟩
  have HN := Lib.hid hN
  rw [hN] at hxN ⊢
  have HXN := Lib.hid hxN
  clear hw3 hxN hb23 hb2 s0 s1 s2 s3 HAN y0 y1 hN
  go_upto_region 6 with (go_at_call 11; refine (HLS.out _ _).mono ?_; rintro e' w4 ⟨hb4, rfl, hl4⟩)
  rename_i w5 hb5 hl5 _ _
  have HB15 := Lib.hid (bstep HSO3.out (bstep hb5 hb4))
  have HRK := Lib.hid (ranked2_any A5 xs.length c5 xs w4 w1.heap.size (HSO.out.below HB15.out (Nat.le_refl _)) HB15.out.size (by have := HFEW.out; omega))
  have HP1 := Lib.hid hl5
  have HP2 := Lib.hid hl4
  have HB35 := Lib.hid hb5
  have HB54 := Lib.hid hb4
  clear hb5 hl5 hb4 hl4 HLS
  go_upto_region 7 with (go_at_call 12; refine HRK.out.mono ?_; rintro e' w6 ⟨M, rfl, hR, hM, hb6⟩)
  obtain ⟨w7, hw7⟩ : ∃ w7, w7 = w6.alloc (.cells #[.slice none 0 0, .slice none 0 0, .slice none 0 0, .slice none 0 0, .map (some M)] 58) := ⟨_, rfl⟩
  rw [← hw7]
  have hxK : w7.heap[w6.heap.size]? = some (.cells #[.slice none 0 0, .slice none 0 0, .slice none 0 0, .slice none 0 0, .map (some M)] 58 (0, 0)) := by rw [hw7]; exact heap_alloc_new w6 _
  have hb67 : Below w6.heap.size w6 w7 := by rw [hw7]; exact (Below.refl _ _).alloc (Nat.le_refl _) _
  have HM := Lib.hid hM
  have HB47 := Lib.hid (bstep hb6 hb67)
  have HB46 : Hid (w4.heap.size ≤ w6.heap.size) := hb6.size
  have hR7 := hR.block (hb67.block M hR.rk.lt)
  obtain ⟨K, hK⟩ : ∃ K, w6.heap.size = K := ⟨_, rfl⟩
  rw [hK] at hxK HB46 ⊢
  have HK7 : Hid (KpAt w7 K K M (rkA xs) (fun _ => []) (fun _ => .slice none 0 0) (fun _ => [])) := by
    refine ⟨hxK, Nat.le_refl _, fun i _ => Rf.nil _ _, fun i _ => ROk.nil _, fun i _ r hr => by simp at hr, fun i j _ _ _ b hb => ?_, hR7.rk⟩
    rcases hb with e | ⟨p, hp, _⟩
    · cases e
    · simp at hp
  have HLK := Lib.hid (lists_any K w7)
  clear hw7 hR hR7 hM hb6 hb67 hxK hK HRK
  go_upto_region 8 with (go_at_call 11; refine HLK.out.mono ?_; rintro e' w8 ⟨hb8, rfl, hl8⟩)
  have hb48 := bstep HB47.out hb8
  have hb58 := bstep HB54.out hb48
  have hb38 := bstep HB35.out hb58
  have hb08 := bstep HB13.out hb38
  have HB28 := Lib.hid (bstep HB23.out hb38)
  have hl1 := (Array.getElem?_eq_some_iff.1 HP1.out).1
  have hl2 := (Array.getElem?_eq_some_iff.1 HP2.out).1
  have hl3 := (Array.getElem?_eq_some_iff.1 hl8).1
  have hlN := (Array.getElem?_eq_some_iff.1 HXN.out).1
  have hlK := HK7.out.lt
  have HQ1 := Lib.hid ((hb58.block _ hl1).trans HP1.out)
  have HQ2 := Lib.hid ((hb48.block _ hl2).trans HP2.out)
  have HQ3 := Lib.hid hl8
  have HQN := Lib.hid ((hb38.block _ hlN).trans HXN.out)
  have HQI := Lib.hid ((hb08.block _ (by have := HZ0.out; omega)).trans HXI.out)
  have HB08 := Lib.hid hb08
  have HLE : Hid (w0.heap.size = w.heap.size + 5 ∧ w0.heap.size ≤ w1.heap.size ∧ w1.heap.size ≤ N ∧ N < w3.heap.size ∧ w3.heap.size < w5.heap.size ∧ w5.heap.size < w4.heap.size ∧ w4.heap.size ≤ K ∧ K < w7.heap.size ∧ w7.heap.size < w8.heap.size) := ⟨HZ0.out, HB1.out.size, by have h1 := HZ12.out; have h2 := HN.out; omega, hlN, hl1, hl2, HB46.out, hlK, hl3⟩
  have HK8 := Lib.hid (HK7.out.next hb8)
  have HRN : Hid (∀ i, i < 4 → ∃ Bi di, (#[.slice B0 (L 0).length d0, .slice B1 (L 1).length d1, .slice B2 (L 2).length d2, .slice B3 (L 3).length d3] : Array Value)[i]? = some (.slice Bi (L i).length di) ∧ Sl tRef w2 (lt w2.heap.size) Bi (L i).length di (L i)) := fun i hi => by
    rcases i with _ | _ | _ | _ | i
    · exact ⟨_, _, rfl, HS0.out⟩
    · exact ⟨_, _, rfl, HS1.out⟩
    · exact ⟨_, _, rfl, HS2.out⟩
    · exact ⟨_, _, rfl, HS3.out⟩
    · omega
  have HRI : Hid (∀ i, i < 4 → ∃ Ai ci, (#[.slice A0 n0 c0, .slice A1 n1 c1, .slice A2 n2 c2, .slice A3 n3 c3] : Array Value)[i]? = some (.slice Ai (L i).length ci) ∧ Sl tRef w0 (lt B) Ai (L i).length ci (L i)) := fun i hi => by
    rcases i with _ | _ | _ | _ | i
    · obtain rfl : n0 = (L 0).length := HI0.out.hn; exact ⟨_, _, rfl, HI0.out⟩
    · obtain rfl : n1 = (L 1).length := HI1.out.hn; exact ⟨_, _, rfl, HI1.out⟩
    · obtain rfl : n2 = (L 2).length := HI2.out.hn; exact ⟨_, _, rfl, HI2.out⟩
    · obtain rfl : n3 = (L 3).length := HI3.out.hn; exact ⟨_, _, rfl, HI3.out⟩
    · omega
  have HOKL : Hid (∀ i, ROk (rkA xs) (L i) ∧ (∀ r ∈ L i, 0 < r.2.length) ∧ (L i).length ≤ 100000 ∧ ∀ r ∈ L i, r.2.length ≤ 100000) := fun i => by
    have hT := HT.out
    have hn := hT.pre_once hT.pos
    rw [show ((0 : Nat) : Int) = 0 from rfl, HXS.out] at hn
    have hc := an_can (l := l) hn i _ (Nat.le_refl _)
    rw [show anTo (rkA xs) l xs xs.length = L from HLX.out] at hc
    have hf := an_few (rk := rkA xs) (l := l) (xs := xs) (fun x hx a ha => Nat.le_trans (good_vals HG.out x hx a ha) (Nat.le_refl _)) xs.length i
    rw [show anTo (rkA xs) l xs xs.length = L from HLX.out] at hf
    have h3 := HFEW.out
    have h4 := len_all hc.ne
    exact ⟨hc.ok, hc.ne, by omega, fun r hr => by have := one_all hr; omega⟩
  have HALL : Hid (∀ i, allN (L i) ≤ 40200) := fun i => by
    have hf := an_few (rk := rkA xs) (l := l) (xs := xs) (fun x hx a ha => Nat.le_trans (good_vals HG.out x hx a ha) (Nat.le_refl _)) xs.length i
    rw [show anTo (rkA xs) l xs xs.length = L from HLX.out] at hf
    have h1 := HT.out.pre_few HT.out.pos
    rw [show ((0 : Nat) : Int) = 0 from rfl, HXS.out] at h1
    have := H100.out
    omega
  clear hb8 hl8 hb48 hb58 hb38 hb08 hl1 hl2 hl3 hlN hlK HLK y0 y1
  go_loopw [49] (fun s wr => ∃ (i : Nat) (V : Nat → Value) (P : Nat → List Value), i ≤ 4 ∧ s = .int .i64 (i : Int) ∧ w8.heap.size ≤ wr.heap.size ∧ Hid (KpAt wr K K M (rkA xs) (fun j => if j < i then L j else []) V P) ∧ Hid (Tou (fun b => b = K) w8 wr ∧ ∀ b, KMine K V P b → b = K ∨ w8.heap.size ≤ b)) (fun s _ => 4 - (intOf s).toNat)
  case atStart => exact ⟨0, _, _, by omega, rfl, Nat.le_refl _, Lib.hid (HK8.out.congr fun i _ => if_neg (by omega)), Lib.hid ⟨Tou.refl _ _, fun b hb => by
    rcases hb with e | ⟨j, _, e | ⟨p, hp, _⟩⟩
    · exact .inl e
    · cases e
    · simp at hp⟩⟩
  case round =>
    obtain ⟨i, V, P, hi, rfl, hz, HK, HFR⟩ := hrel
    by_cases hlt : i < 4
    · obtain ⟨Bi, di, hBi, hsB⟩ := HRN.out i hlt
      obtain ⟨Ai, ci, hAi, hsA⟩ := HRI.out i hlt
      have blk : ∀ b, b < w8.heap.size → b ≠ K → wr.heap[b]? = w8.heap[b]? := fun b h1 h2 => HFR.out.1.block b h1 h2
      have hle := HLE.out
      have p1 : wr.cell? ⟨w3.heap.size, i, none⟩ = some (.pointer (some ⟨N, i, none⟩)) := cell_blk ((blk _ (by omega) (by omega)).trans HQ1.out) (ptr_at hlt)
      have p2 : wr.cell? ⟨w5.heap.size, i, none⟩ = some (.pointer (some ⟨w.heap.size + 1, i, none⟩)) := cell_blk ((blk _ (by omega) (by omega)).trans HQ2.out) (ptr_at hlt)
      have p3 : wr.cell? ⟨w7.heap.size, i, none⟩ = some (.pointer (some ⟨K, i, none⟩)) := cell_blk ((blk _ (by omega) (by omega)).trans HQ3.out) (ptr_at hlt)
      have r1 : wr.cell? ⟨N, i, none⟩ = some (.slice Bi (L i).length di) := cell_blk ((blk _ (by omega) (by omega)).trans HQN.out) hBi
      have r2 : wr.cell? ⟨w.heap.size + 1, i, none⟩ = some (.slice Ai (L i).length ci) := cell_blk ((blk _ (by omega) (by omega)).trans HQI.out) hAi
      have hN := HN.out
      have hbr2 : Below w2.heap.size w2 wr := HB28.out.trans (HFR.out.1.below (B := w2.heap.size) (fun b hb => by omega) (by omega))
      have hbr0 : Below w0.heap.size w0 wr := HB08.out.trans (HFR.out.1.below (B := w0.heap.size) (fun b hb => by omega) (by omega))
      have hsB2 := hsB.below hbr2 (Nat.le_refl _)
      have hsA2 := hsA.below hbr0 HBW.out
      have HSM := Lib.hid (fun W (hW : Below wr.heap.size wr W) => sameW_any Bi (L i).length di (L i) Ai ci W wr.heap.size ((hsB2.below hW (by omega)).up (by omega)) ((hsA2.below hW (by have := HBW.out; omega)).up (by have := HBW.out; omega)) hW.size)
      have HOW := Lib.hid (fun W (hW : Below wr.heap.size wr W) => ownR_any Ai (L i).length ci (L i) W wr.heap.size ((hsA2.below hW (by have := HBW.out; omega)).up (by have := HBW.out; omega)) hW.size (HOKL.out i).2.2.1 (HOKL.out i).2.2.2)
      have HKP := Lib.hid HK.out
      have i1 : (0 : Int) ≤ (i : Int) := by omega
      have i2 : (i : Int) < 4 := by omega
      have HZR := Lib.hid hz
      clear blk hle hN hbr2 hbr0 hsB2 hsA2 hBi hsB hAi hsA
      go_upto_region 10 with fail
      go_region_held3 (fun w' => w'.cell? ⟨w3.heap.size, i, none⟩ = some (.pointer (some ⟨N, i, none⟩)) ∧ w'.cell? ⟨w5.heap.size, i, none⟩ = some (.pointer (some ⟨w.heap.size + 1, i, none⟩)) ∧ w'.cell? ⟨N, i, none⟩ = some (.slice Bi (L i).length di) ∧ w'.cell? ⟨w.heap.size + 1, i, none⟩ = some (.slice Ai (L i).length ci)) (first | exact ⟨p1, p2, r1, r2⟩ | exact ⟨q1, q2, q3, q4⟩ | go_keep)
        (first | (go_at_call 13; refine (HSM.out _ (Below.refl _ wr).drew).mono ?_; rintro e' w9 ⟨rfl, hb9⟩; have q1 := cell_be (w := wr.drew) p1 hb9; have q2 := cell_be (w := wr.drew) p2 hb9; have q3 := cell_be (w := wr.drew) r1 hb9; have q4 := cell_be (w := wr.drew) r2 hb9) | fail)
      have hbr9 : Below wr.heap.size wr w9 := (Below.refl _ wr).drew.trans hb9
      have p39 := cell_be p3 hbr9
      have HBR9 := Lib.hid hbr9
      have HKP9 := Lib.hid (HKP.out.next hbr9)
      clear hb9 hbr9 p1 p2 p3 r1 r2 HSM
      go_wp2_with (go_at_call 14; refine (HOW.out _ HBR9.out).mono ?_; rintro e' w10 ⟨v, ps, rfl, hb10, hrf⟩; obtain ⟨Av, cv, rfl⟩ := Own.form hrf.row; have k1 := (hb10.block K HKP9.out.lt).trans HKP9.out.box; have k2 : w10.cell? ⟨K, i, none⟩ = some (V i) := cell_blk k1 (kp_cell hlt); have f2 := free_blk (i := i) k1; have HB10 := Lib.hid hb10; have HRF := Lib.hid hrf; clear hb10 hrf k1)
      obtain ⟨V', P', hks⟩ := KStep.own HKP9.out hlt HB10.out HRF.out (HOKL.out i).1 (HOKL.out i).2.1
      have hks2 : KStep wr K K M (rkA xs) V P _ _ V' P' := KStep.trans ((KStep.refl HKP.out).next HBR9.out) hks
      have HKS := Lib.hid hks2
      clear hks hks2
      go_roundw
      case rel =>
        have hks := HKS.out
        refine ⟨i + 1, V', P', by omega, by go_num, Nat.le_trans HZR.out hks.tou.size, Lib.hid (hks.at_.congr fun j hj => ?_), Lib.hid ⟨HFR.out.1.trans hks.tou fun k hk hm => (HFR.out.2 k hm).resolve_right (by omega), fun b hb => ?_⟩⟩
        · by_cases e : j = i
          · subst e; rw [upd_self, if_pos (by omega)]
          · rw [upd_ne _ _ e]
            by_cases e2 : j < i
            · rw [if_pos e2, if_pos (by omega)]
            · rw [if_neg e2, if_neg (by omega)]
        · rcases hks.mine b hb with h | h
          · exact HFR.out.2 b h
          · exact .inr (Nat.le_trans HZR.out h)
      case measure => simp [intOf]; omega
    · obtain rfl : i = 4 := by omega
      obtain ⟨u0, rfl⟩ : ∃ u0 : World, u0 = wr := ⟨_, rfl⟩
      have hka : KpAt u0 K K M (rkA xs) L V P := HK.out.congr fun j hj => (if_pos hj).symm
      have hle := HLE.out
      have hbr0 : Below w0.heap.size w0 u0 := HB08.out.trans (HFR.out.1.below (B := w0.heap.size) (fun b hb => by omega) (by omega))
      have HKA := Lib.hid hka
      have HBR0 := Lib.hid hbr0
      have HLR := Lib.hid (HL.out.below hbr0 HBW.out)
      have HER := Lib.hid (HEO.out.below hbr0 HBW.out)
      have HBWR : Hid (B ≤ u0.heap.size) := Nat.le_trans HBW.out hbr0.size
      have HZR : Hid (w8.heap.size ≤ u0.heap.size) := hz
      obtain ⟨E, hE⟩ : ∃ E, w.heap.size + 1 + 1 = E := ⟨_, rfl⟩
      obtain ⟨RD, hRD⟩ : ∃ RD, E + 1 = RD := ⟨_, rfl⟩
      obtain ⟨RI, hRI⟩ : ∃ RI, RD + 1 = RI := ⟨_, rfl⟩
      rw [hE, hRD, hRI]
      have hE2 : E = w.heap.size + 2 := by omega
      have hRD2 : RD = w.heap.size + 3 := by omega
      have hRI2 : RI = w.heap.size + 4 := by omega
      have hd := (hbr0.block w.heap.size (by omega)).trans HXD.out
      have hee := (hbr0.block (w.heap.size + 2) (by omega)).trans HXE.out
      rw [← hE2] at hee
      have HXRD2 := Lib.hid ((hbr0.block (w.heap.size + 3) (by omega)).trans HXRD.out)
      have HXRI2 := Lib.hid ((hbr0.block (w.heap.size + 4) (by omega)).trans HXRI.out)
      rw [← hRD2] at HXRD2
      rw [← hRI2] at HXRI2
      have HEQ : Hid (E = w.heap.size + 2 ∧ RD = w.heap.size + 3 ∧ RI = w.heap.size + 4 ∧ w.heap.size + 5 ≤ K ∧ K < u0.heap.size) := ⟨hE2, hRD2, hRI2, by omega, hka.lt⟩
      have HHD := Lib.hid hd
      have HHE := Lib.hid hee
      have HAP := Lib.hid (apply_any A n c l q e Aa na ca Ak nk ck u0 B HLR.out HBWR.out HER.out)
      have HAE : Hid (apErr l e = edErr l e) := by show apErr l e = _; unfold apErr; rw [if_neg (by rw [HC.out]; decide)]
      have y0 := cell_blk (i := 0) hd rfl
      have y1 := cell_blk (i := 1) hd rfl
      unfold edtCells at hee HAP
      have e0 := cell_blk (i := 0) hee rfl
      have e1 := cell_blk (i := 1) hee rfl
      have e2 := cell_blk (i := 2) hee rfl
      have e3 := cell_blk (i := 3) hee rfl
      have e4 := cell_blk (i := 4) hee rfl
      have e5 := cell_blk (i := 5) hee rfl
      have e6 := cell_blk (i := 6) hee rfl
      have e7 := cell_blk (i := 7) hee rfl
      have e8 := cell_blk (i := 8) hee rfl
      have e9 := cell_blk (i := 9) hee rfl
      have e10 := cell_blk (i := 10) hee rfl
      have e11 := cell_blk (i := 11) hee rfl
      clear hE hRD hRI hE2 hRD2 hRI2 hd hee hka hle hbr0 hz HK
      by_cases hed : edErr l e = 0
      · have HED := Lib.hid hed
        have HAP2 := Lib.hid (HAP.out.mono (R' := fun e' w' => Below u0.heap.size u0 w' ∧ ∃ A' c', e' = .returned (.tuple #[.agg #[.slice A' (edDo l e).length c', .bool q], .int .i64 (edMade l 0 e), .int .i64 0]) ∧ Sl tNd w' (rg u0.heap.size w'.heap.size) A' (edDo l e).length c' (edDo l e)) fun e' w' h => by
          obtain ⟨h1, ⟨h2, _⟩ | ⟨_, h3⟩⟩ := h
          · rw [HAE.out] at h2; exact absurd HED.out h2
          · exact ⟨h1, h3⟩)
        have HTO := Lib.hid (fun W (hW : Below B u0 W) (hz : B ≤ W.heap.size) => touchedI_any A n c l q e Aa na ca Ak nk ck W B (HLR.out.below hW (Nat.le_refl _)) hz HER.out.at_ HG.out HED.out)
        have HKE := Lib.hid (ed_kept HG.out hed)
        have HKL := Lib.hid (kept_law HG.out hed)
        have HKM := Lib.hid (kept_mid HG.out hed)
        have HG2 := Lib.hid (good_ed HG.out hed)
        have HPO : Hid (∀ w' A' c' V, Below w.heap.size w w' → Sl tNd w' (rg w.heap.size w'.heap.size) A' (edDo l e).length c' (edDo l e) → IxAt w' w.heap.size (anD (edDo l e)) V → AfPost w l q e (.returned (.tuple #[.agg #[.slice A' (edDo l e).length c', .bool q], .agg #[V 0, V 1, V 2, V 3], .int .i64 0])) w') := fun w' A' c' V h1 h2 h3 => ⟨h1, .inr ⟨HED.out, A', c', V, rfl, h2, h3⟩⟩
        rw [HLD.out] at HKL HKM
        obtain ⟨Z, hZ⟩ : ∃ Z, touP l e = Z := ⟨_, rfl⟩
        rw [hZ] at HTO HKE HKL HKM
        have HZL : Hid (Z.length ≤ 100) := by
          refine Nat.le_trans (few_nats l.length _ (fun i j x hij h1 h2 => ?_) fun x hx => ?_) H100.out
          · have h3 := List.getElem?_eq_some_iff.1 h1
            have h4 := List.getElem?_eq_some_iff.1 h2
            exact List.pairwise_iff_getElem.1 HKE.out.once i j h3.1 h4.1 hij (h3.2.trans h4.2.symm)
          · obtain ⟨m, h1, h2, _⟩ := HKE.out.inn x hx
            exact ⟨m, h1, h2⟩
        unfold edtCells at HTO
        generalize hl' : edDo l e = l' at *
        generalize edMade l 0 e = md at *
        clear hed HAP HAE hZ hl'
        go_upto_region 17 with (go_at_call 15; refine HAP2.out.mono ?_; rintro e' w9 ⟨hb9, A', c', rfl, hsl'⟩)
        obtain ⟨w10, hw10⟩ : ∃ w10, w10 = w9.alloc (.cells #[.slice A' l'.length c', .bool q] 24) := ⟨_, rfl⟩
        rw [← hw10]
        have hb10 : Below u0.heap.size u0 w10 := by rw [hw10]; exact balloc hb9 _
        have hxT : w10.heap[w9.heap.size]? = some (.cells #[.slice A' l'.length c', .bool q] 24 (0, 0)) := by rw [hw10]; exact heap_alloc_new w9 _
        have hsl10 : Sl tNd w10 (rg u0.heap.size w9.heap.size) A' l'.length c' l' := by rw [hw10]; exact hsl'.keep fun p hp => World.cell?_of_block (Lib.alloc_old _ _ _ hp.2)
        have hz9 : u0.heap.size ≤ w9.heap.size := hb9.size
        obtain ⟨TB, hTB⟩ : ∃ TB, w9.heap.size = TB := ⟨_, rfl⟩
        rw [hTB] at hxT hsl10 hz9 ⊢
        have HXT := Lib.hid hxT
        have HSL := Lib.hid hsl10
        have HZ9 := Lib.hid hz9
        have HB10 := Lib.hid hb10
        have HTO2 := Lib.hid (HTO.out w10 (hb10.mono HBWR.out) (Nat.le_trans HBWR.out hb10.size))
        have hq := HEQ.out
        have hd10 := (hb10.block w.heap.size (by omega)).trans HHD.out
        have he10 := (hb10.block E (by omega)).trans HHE.out
        have y0 := cell_blk (i := 0) hd10 rfl
        have y1 := cell_blk (i := 1) hd10 rfl
        unfold edtCells at he10
        have e0 := cell_blk (i := 0) he10 rfl
        have e1 := cell_blk (i := 1) he10 rfl
        have e2 := cell_blk (i := 2) he10 rfl
        have e3 := cell_blk (i := 3) he10 rfl
        have e4 := cell_blk (i := 4) he10 rfl
        have e5 := cell_blk (i := 5) he10 rfl
        have e6 := cell_blk (i := 6) he10 rfl
        have e7 := cell_blk (i := 7) he10 rfl
        have e8 := cell_blk (i := 8) he10 rfl
        have e9 := cell_blk (i := 9) he10 rfl
        have e10 := cell_blk (i := 10) he10 rfl
        have e11 := cell_blk (i := 11) he10 rfl
        clear hw10 hb10 hb9 hsl' hxT hsl10 hz9 hTB hq hd10 he10
        go_upto_region 18 with (go_at_call 16; refine HTO2.out.mono ?_; rintro e' w11 ⟨hb11, vz, rfl, hoz⟩; obtain ⟨Az, cz, rfl⟩ := Own.form hoz)
        obtain ⟨_, _, ez, hsz⟩ := OwnF.slf hoz (by decide) (by show Z.length * 8 ≤ _; have := HZL.out; omega)
        injection ez with ez1 _ ez2
        subst ez1 ez2
        have HSZ := Lib.hid hsz
        have HZ10 : Hid (u0.heap.size ≤ w10.heap.size ∧ TB < w11.heap.size) := ⟨HB10.out.size, by have h1 := (Array.getElem?_eq_some_iff.1 HXT.out).1; have h2 := hb11.size; omega⟩
        have HXT11 := Lib.hid ((hb11.block TB (Array.getElem?_eq_some_iff.1 HXT.out).1).trans HXT.out)
        have HSL11 : Hid (Sl tNd w11 (rg u0.heap.size TB) A' l'.length c' l') := HSL.out.keep fun p hp => World.cell?_of_block (hb11.block p.block (Nat.lt_trans hp.2 (Array.getElem?_eq_some_iff.1 HXT.out).1))
        have HB11 := Lib.hid (bstep HB10.out hb11)
        have HK11 := Lib.hid (HKA.out.next HB11.out)
        have HM0 : Hid (∀ b, KMine K V P b → K ≤ b ∧ b < u0.heap.size) := fun b hb => HKA.out.mine hb
        have HD11 := Lib.hid ((HB11.out.block w.heap.size (by have := HEQ.out; omega)).trans HHD.out)
        have hzl := HZL.out
        have HBK : Hid (B ≤ K ∧ B ≤ w11.heap.size) := by have h1 := HLE.out; have h2 := HBW.out; have h3 := HBWR.out; have h4 := HB11.out.size; exact ⟨by omega, by omega⟩
        clear hb11 hoz hsz y0 y1 e0 e1 e2 e3 e4 e5 e6 e7 e8 e9 e10 e11
        go_loopw [96] (fun s wr => ∃ (k : Nat) (V' : Nat → Value) (P' : Nat → List Value), k ≤ Z.length ∧ s = .int .i64 (k : Int) ∧ Hid (KStep w11 K K M (rkA xs) V P (dnTo l Z L k) wr V' P')) (fun s _ => Z.length - (intOf s).toNat)
        case atStart => exact ⟨0, V, P, Nat.zero_le _, rfl, Lib.hid (KStep.refl HK11.out)⟩
        case round =>
          obtain ⟨k, V', P', hk, rfl, HKS⟩ := hrel
          have htou := HKS.out.tou
          have hq := HEQ.out
          have blk : ∀ b, b < w11.heap.size → (b < K ∨ u0.heap.size ≤ b) → wr.heap[b]? = w11.heap[b]? := fun b h1 h2 => htou.block b h1 (fun hmm => by have := HM0.out b hmm; omega)
          by_cases hlt : k < Z.length
          · obtain ⟨z, hz⟩ : ∃ z, Z[k]? = some z := get_some hlt
            obtain ⟨m, rfl, hm, _⟩ := HKE.out.inn z (List.mem_of_getElem? hz)
            have hsz2 := HSZ.out.keep (fun p hp => World.cell?_of_block (blk p.block hp.2 (.inr (Nat.le_trans HZ10.out.1 hp.1))))
            obtain ⟨b2, o2, rfl, _, cz1⟩ := sl_int hsz2 hz
            have hbB : Below B u0 wr := (HB11.out.mono HBWR.out).trans (htou.below (fun b hb => by have := HM0.out b hb; have := HBK.out; omega) HBK.out.2)
            have hbx := (blk w.heap.size (by have := HB11.out.size; omega) (.inl (by omega))).trans HD11.out
            have y0 := cell_blk (i := 0) hbx rfl
            have y1 := cell_blk (i := 1) hbx rfl
            obtain ⟨x, hx⟩ := get_some hm
            obtain ⟨bb, oo, rfl, hdd⟩ := doc_at (HLR.out.below hbB (Nat.le_refl _)) HLP.out
            obtain ⟨Aa2, na2, ca2, Ak2, nk2, ck2, hnat, k0, k1, k2, k3, k4, k5⟩ := hdd.at_ m x hx
            have HT2 := Lib.hid (turnD_any x Aa2 na2 ca2 Ak2 nk2 ck2 (m : Int) K M K (rkA xs) (dnTo l Z L k) V' P' wr B hnat (Nat.le_trans HBK.out.2 htou.size) (fun a ha => Nat.le_trans (good_vals HG.out x (List.mem_of_getElem? hx) a ha) (by decide)) HKS.out.at_ (fun i _ => Nat.le_trans (dn_few i k) (Nat.le_trans (HALL.out i) (by decide))))
            have HDN := Lib.hid (show dnTo l Z L (k + 1) = dropL (dnTo l Z L k) (wordsP x) (m : Int) from by rw [dn_next hz, ndG_at hx])
            have i1 : (0 : Int) ≤ (m : Int) := by omega
            have i2 : (m : Int) < (n : Int) := by have := HLR.out.hn; omega
            have j1 : (0 : Int) ≤ (k : Int) := by omega
            have j2 : (k : Int) < (Z.length : Int) := by omega
            clear hz hsz2 hbB hbx hx hdd hnat htou hq blk hm
            go_wp2_with (go_at_call 17; refine HT2.out.mono ?_; rintro e' w12 ⟨rfl, V3, P3, hk3⟩)
            go_roundw
            case rel =>
              refine ⟨k + 1, V3, P3, by omega, by go_num, ?_⟩
              show KStep _ _ _ _ _ _ _ _ _ _ _
              rw [HDN.out]
              exact KStep.trans HKS.out hk3
            case measure => simp [intOf]; omega
          · obtain rfl : k = Z.length := by omega
            obtain ⟨u1, rfl⟩ : ∃ u1 : World, u1 = wr := ⟨_, rfl⟩
            have HK1 := Lib.hid HKS.out.at_
            have HM1 : Hid (∀ b, KMine K V' P' b → (K ≤ b ∧ b < u0.heap.size) ∨ (w11.heap.size ≤ b ∧ b < u1.heap.size)) := fun b hb => by
              have h2 := HKS.out.at_.mine hb
              rcases HKS.out.mine b hb with h | h
              · exact .inl (HM0.out b h)
              · exact .inr ⟨h, h2.2⟩
            have hbB : Below B u0 u1 := (HB11.out.mono HBWR.out).trans (htou.below (fun b hb => by have := HM0.out b hb; have := HBK.out; omega) HBK.out.2)
            have hsz1 : w11.heap.size ≤ u1.heap.size := htou.size
            have HT1 := Lib.hid ((blk TB HZ10.out.2 (.inr HZ9.out)).trans HXT11.out)
            have HS1' : Hid (Sl tNd u1 (rg u0.heap.size TB) A' l'.length c' l') := HSL11.out.keep fun p hp => World.cell?_of_block (blk p.block (Nat.lt_trans hp.2 HZ10.out.2) (.inr hp.1))
            have HD1 := Lib.hid ((blk w.heap.size (by have := HB11.out.size; omega) (.inl (by omega))).trans HD11.out)
            have he1 := (blk E (by have := HB11.out.size; omega) (.inl (by omega))).trans ((HB11.out.block E (by omega)).trans HHE.out)
            have HE1 := Lib.hid he1
            have HRD1 := Lib.hid ((blk RD (by have := HB11.out.size; omega) (.inl (by omega))).trans ((HB11.out.block RD (by omega)).trans HXRD2.out))
            have HRI1 := Lib.hid ((blk RI (by have := HB11.out.size; omega) (.inl (by omega))).trans ((HB11.out.block RI (by omega)).trans HXRI2.out))
            have HBB1 := Lib.hid hbB
            have HSZ1 := Lib.hid hsz1
            have HBW1 : Hid (Below w.heap.size w u1) := (HB0.out.trans ((HBR0.out.mono HB0.out.size).trans (HB11.out.mono (by omega)))).trans (htou.below (B := w.heap.size) (fun b hb => by have := HM0.out b hb; omega) (by have := HB11.out.size; omega))
            have m0 := cell_blk (i := 0) HT1.out rfl
            have m1 := cell_blk (i := 1) HT1.out rfl
            have HTL : Hid (TB < u1.heap.size ∧ u0.heap.size ≤ TB) := ⟨by have := HZ10.out.2; omega, HZ9.out⟩
            have hs1 : Sl tNd u1 (lt u1.heap.size) A' l'.length c' l' := HS1'.out.more fun b (hb : _ ∧ _) => by have := HTL.out; show b < _; omega
            have HOR' := Lib.hid ((order_any A' l'.length c' l' q u1 u1.heap.size hs1 (Nat.le_refl _)).mono (R' := fun e w' => Below u1.heap.size u1 w' ∧ ∃ v, e = .returned (.tuple #[v, .int .i64 0]) ∧ OwnF (tInt .i64) w' u1.heap.size 3 v (preR l' 0).length (preR l' 0)) fun e w' h => ⟨h.1, (h.2.resolve_left fun h => h.1 (check_of HG2.out)).2⟩)
            have T' := tree_of (check_of HG2.out)
            have hfew' := T'.all_few
            have HPI' := Lib.hid (fun x hx => T'.pre_in T'.pos x hx)
            obtain ⟨ys, hys⟩ : ∃ ys, preR l' 0 = ys := ⟨_, rfl⟩
            rw [show ((0 : Nat) : Int) = 0 from rfl, hys] at HPI'
            rw [hys] at HOR' hfew' HKL HKM
            have HFEW' := Lib.hid hfew'
            have HLL' := Lib.hid (show 0 < l'.length from T'.pos)
            clear blk htou hq hbB hsz1 he1 hs1 T' hys hfew'
            go_upto_region 23 with (go_at_call 9; refine HOR'.out.mono ?_; rintro e' w12 ⟨hb12, v, rfl, hown⟩; obtain ⟨A6, c6, rfl⟩ := Own.form hown)
            obtain ⟨_, _, e5, hso⟩ := OwnF.sl hown (by decide) (by show ys.length * 8 ≤ _; have := HFEW'.out; omega)
            injection e5 with e51 _ e52
            subst e51 e52
            have HRK' := Lib.hid (ranked2_any A6 ys.length c6 ys w12 w12.heap.size hso (Nat.le_refl _) (by have := HFEW'.out; omega))
            have HB12 := Lib.hid hb12
            clear hown hso hb12 HOR'
            go_upto_region 24 with (go_at_call 12; refine HRK'.out.mono ?_; rintro e' w13 ⟨M2, rfl, hR2, hM2, hb13⟩; have hk13 := HK1.out.next (bstep HB12.out hb13); have f4 := free_blk (i := 4) hk13.box; have x4 : w13.cell? ⟨K, 4, none⟩ = some (.map (some M)) := cell_blk hk13.box rfl; have HK13 := Lib.hid hk13; have HR2 := Lib.hid hR2; have HB13' := Lib.hid (bstep HB12.out hb13); have HM2 := Lib.hid hM2; clear hk13 hR2 hb13 hM2)
            obtain ⟨w14, hw14⟩ : ∃ w14, w14 = w13.setCell ⟨K, 4, none⟩ (.map (some M2)) := ⟨_, rfl⟩
            rw [← hw14]
            have hq := HEQ.out
            have hKu : K < u1.heap.size := HK1.out.lt
            have hk14 : KpAt w14 K K M2 (rkA ys) (dnTo l Z L Z.length) V' P' := by rw [hw14]; exact HK13.out.ranked HR2.out.rk (fun i _ => HKM.out i)
            have hR14 : RkHas w14 M2 (rkA ys) ys := by rw [hw14]; exact HR2.out.block (Below.heap_setCell _ _ _ _ fun e => HR2.out.rk.box HK13.out.box e)
            have hb14 : ∀ b, b < u1.heap.size → b ≠ K → w14.heap[b]? = u1.heap[b]? := fun b h1 h2 => by rw [hw14]; exact (Below.heap_setCell _ _ _ _ h2).trans (HB13'.out.block b h1)
            have hbK : Below K u1 w14 := by rw [hw14]; exact (HB13'.out.mono (Nat.le_of_lt hKu)).setCell (p := ⟨K, 4, none⟩) (Nat.le_refl _) _
            have hz14 : u1.heap.size ≤ w14.heap.size := by rw [hw14, World.size_setCell]; exact HB13'.out.size
            have HTO3 := Lib.hid (HTO.out w14 (HBB1.out.trans (hbK.mono HBK.out.1)) (Nat.le_trans HBK.out.2 (Nat.le_trans HSZ1.out hz14)))
            have hd14 := (hb14 w.heap.size (by omega) (by omega)).trans HD1.out
            have he14 := (hb14 E (by omega) (by omega)).trans HE1.out
            have y0 := cell_blk (i := 0) hd14 rfl
            have y1 := cell_blk (i := 1) hd14 rfl
            unfold edtCells at he14
            have e0 := cell_blk (i := 0) he14 rfl
            have e1 := cell_blk (i := 1) he14 rfl
            have e2 := cell_blk (i := 2) he14 rfl
            have e3 := cell_blk (i := 3) he14 rfl
            have e4 := cell_blk (i := 4) he14 rfl
            have e5 := cell_blk (i := 5) he14 rfl
            have e6 := cell_blk (i := 6) he14 rfl
            have e7 := cell_blk (i := 7) he14 rfl
            have e8 := cell_blk (i := 8) he14 rfl
            have e9 := cell_blk (i := 9) he14 rfl
            have e10 := cell_blk (i := 10) he14 rfl
            have e11 := cell_blk (i := 11) he14 rfl
            have HK14 := Lib.hid hk14
            have HR14 := Lib.hid hR14
            have HB14 := Lib.hid hb14
            have HBK14 := Lib.hid hbK
            have HZ14 := Lib.hid hz14
            clear hw14 hq hKu hk14 hR14 hb14 hbK hz14 hd14 he14 x4 f4 m0 m1
            go_upto_region 25 with (go_at_call 16; refine HTO3.out.mono ?_; rintro e' w15 ⟨hb15, vz2, rfl, hoz2⟩; obtain ⟨Az2, cz2, rfl⟩ := Own.form hoz2)
            obtain ⟨_, _, ez, hsz⟩ := OwnF.slf hoz2 (by decide) (by show Z.length * 8 ≤ _; omega)
            injection ez with ez1 _ ez2
            subst ez1 ez2
            have HSZ2 := Lib.hid hsz
            have HK15 := Lib.hid (HK14.out.next hb15)
            have HR15 := Lib.hid (HR14.out.block (hb15.block M2 HR14.out.rk.lt))
            have HB15' : Hid (∀ b, b < u1.heap.size → b ≠ K → w15.heap[b]? = u1.heap[b]?) := fun b h1 h2 => (hb15.block b (Nat.lt_of_lt_of_le h1 HZ14.out)).trans (HB14.out b h1 h2)
            have HZ15 : Hid (w14.heap.size ≤ w15.heap.size) := hb15.size
            have HBW15 : Hid (Below w.heap.size w w15) := HBW1.out.trans (((HBK14.out.mono (by have := HEQ.out; omega)).trans (hb15.mono (by have := HZ14.out; have := HBW1.out.size; omega))))
            clear hb15 hoz2 hsz y0 y1 e0 e1 e2 e3 e4 e5 e6 e7 e8 e9 e10 e11
            go_loopw [125] (fun s wr => ∃ (k : Nat) (V3 : Nat → Value) (P3 : Nat → List Value), k ≤ Z.length ∧ s = .int .i64 (k : Int) ∧ Hid (KStep w15 K K M2 (rkA ys) V' P' (upTo (rkA ys) l' Z ys (dnTo l Z L Z.length) k) wr V3 P3)) (fun s _ => Z.length - (intOf s).toNat)
            case atStart => exact ⟨0, V', P', Nat.zero_le _, rfl, Lib.hid (KStep.refl HK15.out)⟩
            case round =>
              obtain ⟨k, V3, P3, hk, rfl, HKS⟩ := hrel
              have htou := HKS.out.tou
              have hq := HEQ.out
              have h14 := HZ14.out
              have h15 := HZ15.out
              have hs1 := HSZ1.out
              have htl := HTL.out
              have h10 := HZ10.out
              have blk : ∀ b, b < w15.heap.size → (b < K ∨ (u0.heap.size ≤ b ∧ b < w11.heap.size) ∨ u1.heap.size ≤ b) → wr.heap[b]? = w15.heap[b]? := fun b h1 h2 => htou.block b h1 (fun hmm => by have := HM1.out b hmm; omega)
              have hTB := (blk TB (by omega) (.inr (.inl ⟨htl.2, h10.2⟩))).trans ((HB15'.out TB (by omega) (by omega)).trans HT1.out)
              have hsn : Sl tNd wr (rg u0.heap.size TB) A' l'.length c' l' := HS1'.out.keep fun p hp => World.cell?_of_block ((blk p.block (by have h := hp.2; omega) (.inr (.inl ⟨hp.1, by have h := hp.2; omega⟩))).trans (HB15'.out p.block (by have h := hp.2; omega) (by have h := hp.1; omega)))
              have hsz15 : w15.heap.size ≤ wr.heap.size := htou.size
              by_cases hlt : k < Z.length
              · obtain ⟨z, hz⟩ : ∃ z, Z[k]? = some z := get_some hlt
                obtain ⟨m, rfl, _, hm⟩ := HKE.out.inn z (List.mem_of_getElem? hz)
                have hsz2 := HSZ2.out.keep (fun p hp => World.cell?_of_block (blk p.block hp.2 (.inr (.inr (Nat.le_trans h14 hp.1)))))
                obtain ⟨b2, o2, rfl, _, cz1⟩ := sl_int hsz2 hz
                have x4 : wr.cell? ⟨K, 4, none⟩ = some (.map (some M2)) := cell_blk HKS.out.at_.box rfl
                have hwfm : (Lit.int .i64 (m : Int)).wf = true := wf_small (by have := HG2.out.small; omega)
                obtain ⟨vv, hrun⟩ := (HR15.out.block (htou.block M2 HR15.out.rk.lt HK15.out.not_M)).run hwfm
                have y0 := cell_blk (i := 0) hTB rfl
                have y1 := cell_blk (i := 1) hTB rfl
                obtain ⟨x, hx⟩ := get_some hm
                have j1 : (0 : Int) ≤ (k : Int) := by omega
                have j2 : (k : Int) < (Z.length : Int) := by omega
                by_cases hin : (m : Int) ∈ ys
                · rw [decide_eq_true hin] at hrun
                  obtain ⟨bb, oo, rfl, hdd⟩ := doc_at (hsn.more fun b hb => show b < wr.heap.size from by have h := hb.2; omega) HLL'.out
                  obtain ⟨Aa2, na2, ca2, Ak2, nk2, ck2, hnat, k0, k1, k2, k3, k4, k5⟩ := hdd.at_ m x hx
                  have HT2 := Lib.hid (turn_any x Aa2 na2 ca2 Ak2 nk2 ck2 (m : Int) K M2 K (rkA ys) (upTo (rkA ys) l' Z ys (dnTo l Z L Z.length) k) V3 P3 wr wr.heap.size hnat (Nat.le_refl _) (fun a ha => Nat.le_trans (good_vals HG2.out x (List.mem_of_getElem? hx) a ha) (by decide)) HKS.out.at_ hwfm (fun i _ => by
                    have g1 := up_few (rk := rkA ys) (T := Z) (xs := ys) (L := dnTo l Z L Z.length) (good_vals HG2.out) i k
                    have g2 := dn_few (l := l) (T := Z) (L := L) i Z.length
                    have g3 := HALL.out i
                    have g4 := words_few (good_vals HG2.out x (List.mem_of_getElem? hx)) i
                    omega))
                  have HUP := Lib.hid (show upTo (rkA ys) l' Z ys (dnTo l Z L Z.length) (k + 1) = turnL (rkA ys) (upTo (rkA ys) l' Z ys (dnTo l Z L Z.length) k) (wordsP x) (m : Int) from by rw [up_next hz, if_pos hin, ndG_at hx])
                  have i1 : (0 : Int) ≤ (m : Int) := by omega
                  have i2 : (m : Int) < (l'.length : Int) := by omega
                  clear hz hsz2 hx hdd hnat htou hq blk hm hTB hsn h14 h15 hs1 htl h10 hsz15 hwfm hin
                  go_wp2_with (go_at_call 17; refine HT2.out.mono ?_; rintro e' w16 ⟨rfl, V4, P4, hk4⟩)
                  go_roundw
                  case rel =>
                    refine ⟨k + 1, V4, P4, by omega, by go_num, ?_⟩
                    show KStep _ _ _ _ _ _ _ _ _ _ _
                    rw [HUP.out]
                    exact KStep.trans HKS.out hk4
                  case measure => simp [intOf]; omega
                · rw [decide_eq_false hin] at hrun
                  have HUP := Lib.hid (show upTo (rkA ys) l' Z ys (dnTo l Z L Z.length) (k + 1) = upTo (rkA ys) l' Z ys (dnTo l Z L Z.length) k from by rw [up_next hz, if_neg hin])
                  clear hz hsz2 hx htou hq blk hm hTB hsn h14 h15 hs1 htl h10 hsz15 hwfm hin
                  go_wp2_with fail
                  go_roundw
                  case rel =>
                    refine ⟨k + 1, V3, P3, by omega, by go_num, ?_⟩
                    show KStep _ _ _ _ _ _ _ _ _ _ _
                    rw [HUP.out]
                    exact HKS.out
                  case measure => simp [intOf]; omega
              · obtain rfl : k = Z.length := by omega
                have hkF : KpAt wr K K M2 (rkA ys) (anD l') V3 P3 := HKS.out.at_.congr fun i _ => (HKL.out i).symm
                obtain ⟨La, hLa⟩ : ∃ La, anD l' = La := ⟨_, rfl⟩
                rw [hLa] at hkF HPO
                obtain ⟨F0, o0, g0, s0⟩ := hkF.ix 0 (by decide)
                obtain ⟨F1, o1, g1, s1⟩ := hkF.ix 1 (by decide)
                obtain ⟨F2, o2, g2, s2⟩ := hkF.ix 2 (by decide)
                obtain ⟨F3, o3, g3, s3⟩ := hkF.ix 3 (by decide)
                have hbd := (blk RD (by omega) (.inl (by omega))).trans ((HB15'.out RD (by omega) (by omega)).trans HRD1.out)
                have hbi := (blk RI (by omega) (.inl (by omega))).trans ((HB15'.out RI (by omega) (by omega)).trans HRI1.out)
                have hbw : Below w.heap.size w wr := HBW15.out.trans (htou.below (B := w.heap.size) (fun b hb => by have := HM1.out b hb; omega) HBW15.out.size)
                have HFIN : Hid (∀ W, FinW wr.drew W RD RI (.slice A' l'.length c') (.bool q) (.slice F0 (La 0).length o0) (.slice F1 (La 1).length o1) (.slice F2 (La 2).length o2) (.slice F3 (La 3).length o3) → AfPost w l q e (.returned (.tuple #[.agg #[.slice A' l'.length c', .bool q], .agg #[.slice F0 (La 0).length o0, .slice F1 (La 1).length o1, .slice F2 (La 2).length o2, .slice F3 (La 3).length o3], .int .i64 0])) W) := fun W hF => by
                  have hp := HPO.out W A' c' V3 (hbw.drew.trans (hF.tou.below (B := w.heap.size) (fun b hb => by omega) hbw.size)) ((hsn.drew.keep fun p hp => World.cell?_of_block (hF.tou.block p.block (by show p.block < wr.heap.size; have h := hp.2; omega) (by have h := hp.1; omega))).more fun b hb => by have h := hb.2; have h0 := hb.1; have h2 : wr.heap.size ≤ W.heap.size := hF.tou.size; exact ⟨by omega, by omega⟩) (IxAt.down (KpAt.tou (hkF.next (Below.refl _ wr).drew) hF.tou (fun b hb => by omega) (fun h => by
                    rcases h with h | h
                    · exact hkF.rank.box hbd h
                    · exact hkF.rank.box hbi h)).ix (by omega))
                  rw [g0, g1, g2, g3] at hp
                  exact hp
                have hkb := hkF.box
                unfold kpCells at hkb
                rw [g0, g1, g2, g3] at hkb
                have x0 := cell_blk (i := 0) hkb rfl
                have x1 := cell_blk (i := 1) hkb rfl
                have x2 := cell_blk (i := 2) hkb rfl
                have x3 := cell_blk (i := 3) hkb rfl
                have m0 := cell_blk (i := 0) hTB rfl
                have m1 := cell_blk (i := 1) hTB rfl
                have b0 := cell_blk (i := 0) hbd rfl
                have b1 := cell_blk (i := 1) hbd rfl
                have b2 := free_blk (i := 0) hbd
                have b3 := free_blk (i := 1) hbd
                have r0 := cell_blk (i := 0) hbi rfl
                have r1 := cell_blk (i := 1) hbi rfl
                have r2 := cell_blk (i := 2) hbi rfl
                have r3 := cell_blk (i := 3) hbi rfl
                have r4 := free_blk (i := 0) hbi
                have r5 := free_blk (i := 1) hbi
                have r6 := free_blk (i := 2) hbi
                have r7 := free_blk (i := 3) hbi
                have h1 : RD ≠ TB := by omega
                have h2 : RI ≠ TB := by omega
                have h3 : RD ≠ K := by omega
                have h4 : RI ≠ K := by omega
                have h5 : RI ≠ RD := by omega
                have h6 : RD ≠ RI := by omega
                have HBD := Lib.hid hbd
                have HBI := Lib.hid hbi
                clear hkF hLa g0 g1 g2 g3 s0 s1 s2 s3 hbd hbi hbw hkb hTB hsn htou hq blk h14 h15 hs1 htl h10 hsz15
                go_upto_region 31 with fail
                refine wp_region_G (S := (fun w' : World => w'.cell? ⟨TB, 0, none⟩ = some (.slice A' l'.length c') ∧ w'.cell? ⟨TB, 1, none⟩ = some (.bool q) ∧ w'.cell? ⟨K, 0, none⟩ = some (.slice F0 (La 0).length o0) ∧ w'.cell? ⟨K, 1, none⟩ = some (.slice F1 (La 1).length o1) ∧ w'.cell? ⟨K, 2, none⟩ = some (.slice F2 (La 2).length o2) ∧ w'.cell? ⟨K, 3, none⟩ = some (.slice F3 (La 3).length o3))) (T := []) (by kernel_rfl) ?_
                have hS : (fun w' : World => w'.cell? ⟨TB, 0, none⟩ = some (.slice A' l'.length c') ∧ w'.cell? ⟨TB, 1, none⟩ = some (.bool q) ∧ w'.cell? ⟨K, 0, none⟩ = some (.slice F0 (La 0).length o0) ∧ w'.cell? ⟨K, 1, none⟩ = some (.slice F1 (La 1).length o1) ∧ w'.cell? ⟨K, 2, none⟩ = some (.slice F2 (La 2).length o2) ∧ w'.cell? ⟨K, 3, none⟩ = some (.slice F3 (La 3).length o3)) wr.drew := ⟨m0, m1, x0, x1, x2, x3⟩
                have hS0 : S6 TB K (.slice A' l'.length c') (.bool q) (.slice F0 (La 0).length o0) (.slice F1 (La 1).length o1) (.slice F2 (La 2).length o2) (.slice F3 (La 3).length o3) wr := ⟨m0, m1, x0, x1, x2, x3⟩
                refine wpAnyG_take (i := 0) (v := ?_) rfl (by kernel_rfl) (by kernel_rfl) (by kernel_rfl) (by kernel_rfl) (fun _ _ _ h => h) hS rfl ?_ ?_
                rotate_left
                · intro w' hSw
                  (try dsimp only at hSw)
                  first | (go_simp; done) | (go_simp; with_reducible rfl)
                refine wpAnyG_pure (i := 1) (v := ?_) rfl (by kernel_rfl) (by kernel_rfl) (by kernel_rfl) (fun _ _ _ h => h) rfl ?_ ?_
                rotate_left
                · intro w'
                  first | (go_simp; done) | (go_simp; with_reducible rfl)
                refine wpAnyG_pure (i := 2) (v := ?_) rfl (by kernel_rfl) (by kernel_rfl) (by kernel_rfl) (fun _ _ _ h => h) rfl ?_ ?_
                rotate_left
                · intro w'
                  first | (go_simp; done) | (go_simp; with_reducible rfl)
                refine wpAnyG_pure (i := 3) (v := ?_) rfl (by kernel_rfl) (by kernel_rfl) (by kernel_rfl) (fun _ _ _ h => h) rfl ?_ ?_
                rotate_left
                · intro w'
                  first | (go_simp; done) | (go_simp; with_reducible rfl)
                refine wpAnyG_take (i := 4) (v := ?_) rfl (by kernel_rfl) (by kernel_rfl) (by kernel_rfl) (by kernel_rfl) (fun _ _ _ h => h) hS rfl ?_ ?_
                rotate_left
                · intro w' hSw
                  (try dsimp only at hSw)
                  first | (go_simp; done) | (go_simp; with_reducible rfl)
                refine wpAnyG_one (i := 5) (by kernel_rfl) rfl rfl (fun KK hKK => ?_)
                go_simp
                refine hKK.out _ _ (fun _ _ => S6.drew (S6.set h1 h3 (S6.set h1 h3 (hS0)))) ?_
                clear hKK KK
                refine wpAnyG_one (i := 6) (by kernel_rfl) rfl rfl (fun KK hKK => ?_)
                go_simp
                refine hKK.out _ _ (fun _ _ => S6.drew (S6.set h2 h4 (S6.set h2 h4 (S6.set h2 h4 (S6.set h2 h4 (S6.set h1 h3 (S6.set h1 h3 (hS0)))))))) ?_
                clear hKK KK
                refine wpAnyG_one (i := 7) (by kernel_rfl) rfl rfl (fun KK hKK => ?_)
                go_simp
                refine hKK.out _ _ (fun _ h => h) ?_
                clear hKK KK
                refine wpAnyG_done (by kernel_rfl) ?_ _
                go_simp
                have hF := FinW.drew (fin_di (w := wr) (vd := .slice A' l'.length c') (vb := .bool q) (v0 := .slice F0 (La 0).length o0) (v1 := .slice F1 (La 1).length o1) (v2 := .slice F2 (La 2).length o2) (v3 := .slice F3 (La 3).length o3) HBD.out HBI.out h5)
                obtain ⟨W, hW⟩ : ∃ W, W = ((((((wr.setCell ⟨RD, 0, none⟩ (.slice A' l'.length c')).setCell ⟨RD, 1, none⟩ (.bool q)).setCell ⟨RI, 0, none⟩ (.slice F0 (La 0).length o0)).setCell ⟨RI, 1, none⟩ (.slice F1 (La 1).length o1)).setCell ⟨RI, 2, none⟩ (.slice F2 (La 2).length o2)).setCell ⟨RI, 3, none⟩ (.slice F3 (La 3).length o3)).drew := ⟨_, rfl⟩
                rw [← hW] at hF ⊢
                clear hW hS0 m0 m1 b0 b1 b2 b3 r0 r1 r2 r3 r4 r5 r6 r7 hS
                have q0 := cell_blk (i := 0) hF.doc rfl
                have q1 := cell_blk (i := 1) hF.doc rfl
                have q2 := cell_blk (i := 0) hF.ix rfl
                have q3 := cell_blk (i := 1) hF.ix rfl
                have q4 := cell_blk (i := 2) hF.ix rfl
                have q5 := cell_blk (i := 3) hF.ix rfl
                go_wp2_with fail
                exact bodyPost_ret (v := .tuple #[.agg #[.slice A' l'.length c', .bool q], .agg #[.slice F0 (La 0).length o0, .slice F1 (La 1).length o1, .slice F2 (La 2).length o2, .slice F3 (La 3).length o3], .int .i64 0]) (by simp [results, Tryz.results7, go_sem, q0, q1, q2, q3, q4, q5]) rfl (HFIN.out W hF)
      · have HER2 := Lib.hid hed
        have HAP2 := Lib.hid (HAP.out.mono (R' := fun e' w' => Below u0.heap.size u0 w' ∧ e' = .returned (.tuple #[.agg #[.slice none 0 0, .bool false], .int .i64 0, .int .i64 (edErr l e)])) fun e' w' h => by
          obtain ⟨h1, ⟨_, h3⟩ | ⟨h2, _⟩⟩ := h
          · rw [HAE.out] at h3; exact ⟨h1, h3⟩
          · rw [HAE.out] at h2; exact absurd h2 HER2.out)
        have hne : (edErr l e != 0) = true := by simpa using hed
        have HPO : Hid (∀ w', Below w.heap.size w w' → AfPost w l q e (.returned (.tuple #[.agg #[.slice none 0 0, .bool false], .agg #[.slice none 0 0, .slice none 0 0, .slice none 0 0, .slice none 0 0], .int .i64 (edErr l e)])) w') := fun w' h => ⟨h, .inl ⟨HER2.out, rfl⟩⟩
        generalize edErr l e = er at *
        clear hed HAP HER2 HAE
        go_upto_region 16 with (go_at_call 15; refine HAP2.out.mono ?_; rintro e' w9 ⟨hb9, rfl⟩)
        obtain ⟨w10, hw10⟩ : ∃ w10, w10 = w9.alloc (.cells #[.slice none 0 0, .bool false] 24) := ⟨_, rfl⟩
        rw [← hw10]
        have hb10 : Below u0.heap.size u0 w10 := by rw [hw10]; exact balloc hb9 _
        have hq := HEQ.out
        have hbd := (hb10.block RD (by omega)).trans HXRD2.out
        have hbi := (hb10.block RI (by omega)).trans HXRI2.out
        have HBD := Lib.hid hbd
        have HBI := Lib.hid hbi
        have m0 := cell_blk (i := 0) hbd rfl
        have m1 := cell_blk (i := 1) hbd rfl
        have f0 := free_blk (i := 0) hbd
        have f1 := free_blk (i := 1) hbd
        have r0 := cell_blk (i := 0) hbi rfl
        have r1 := cell_blk (i := 1) hbi rfl
        have r2 := cell_blk (i := 2) hbi rfl
        have r3 := cell_blk (i := 3) hbi rfl
        have g0 := free_blk (i := 0) hbi
        have g1 := free_blk (i := 1) hbi
        have g2 := free_blk (i := 2) hbi
        have g3 := free_blk (i := 3) hbi
        have hnd : RI ≠ RD := by omega
        have hnd2 : RD ≠ RI := by omega
        have HB10 := Lib.hid (HB0.out.trans ((HBR0.out.mono HB0.out.size).trans (hb10.mono (by omega))))
        clear hw10 hb10 hb9 hbd hbi hq y0 y1 e0 e1 e2 e3 e4 e5 e6 e7 e8 e9 e10 e11
        go_wp2_with fail
        have hF := fin_di (vd := .slice none 0 0) (vb := .bool false) (v0 := .slice none 0 0) (v1 := .slice none 0 0) (v2 := .slice none 0 0) (v3 := .slice none 0 0) HBD.out HBI.out hnd
        obtain ⟨W, hW⟩ : ∃ W, W = (((((w10.setCell ⟨RD, 0, none⟩ (.slice none 0 0)).setCell ⟨RD, 1, none⟩ (.bool false)).setCell ⟨RI, 0, none⟩ (.slice none 0 0)).setCell ⟨RI, 1, none⟩ (.slice none 0 0)).setCell ⟨RI, 2, none⟩ (.slice none 0 0)).setCell ⟨RI, 3, none⟩ (.slice none 0 0) := ⟨_, rfl⟩
        rw [← hW] at hF ⊢
        clear hW m0 m1 f0 f1 r0 r1 r2 r3 g0 g1 g2 g3
        have m0 := cell_blk (i := 0) hF.doc rfl
        have m1 := cell_blk (i := 1) hF.doc rfl
        have r0 := cell_blk (i := 0) hF.ix rfl
        have r1 := cell_blk (i := 1) hF.ix rfl
        have r2 := cell_blk (i := 2) hF.ix rfl
        have r3 := cell_blk (i := 3) hF.ix rfl
        exact bodyPost_ret (v := .tuple #[.agg #[.slice none 0 0, .bool false], .agg #[.slice none 0 0, .slice none 0 0, .slice none 0 0, .slice none 0 0], .int .i64 er]) (by simp [results, Tryz.results7, go_sem, m0, m1, r0, r1, r2, r3]) rfl (HPO.out W (HB10.out.trans (hF.tou.below (B := w.heap.size) (fun b hb => by have := HEQ.out; omega) HB10.out.size)))
end Go.Proofs.YtomleengbnfikaaGreatDoor
