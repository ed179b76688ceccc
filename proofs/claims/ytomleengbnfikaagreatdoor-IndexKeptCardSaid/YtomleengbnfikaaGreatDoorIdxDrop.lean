/-
The walk of drop: a node away from a word.
-/
import Derived.Test.YtomleengbnfikaaGreatDoorIdxCan
import Derived.Test.YtomleengbnfikaaGreatDoorIdxDel
namespace Go.Proofs.YtomleengbnfikaaGreatDoor
open Go.RowKit Go.Cl
attribute [local go_sem ↓] Go.wp_at_zero Go.wp_at_succ

theorem drop_ok {rk : Int → Int} {l : List Ref} (h : ROk rk l) (wd : ByteArray) (n : Int) : ROk rk (dropR l wd n) := by
  unfold dropR
  split
  · rename_i hh
    obtain ⟨r, hr, he⟩ := has_at hh
    rw [hr]
    show ROk rk (if (r.2.filter fun m => decide (m ≠ n)).length = 0 then l.eraseIdx (atR l wd) else l.set (atR l wd) (wd, r.2.filter fun m => decide (m ≠ n)))
    split
    · exact ⟨h.up.sublist (List.eraseIdx_sublist _ _), fun x hx => h.ns x (List.mem_of_mem_eraseIdx hx)⟩
    · refine ⟨set_pair h.up hr (fun z hz => by show sL z.1 wd = true; rw [← he]; exact hz) (fun z hz => by show sL wd z.1 = true; rw [← he]; exact hz), fun x hx => ?_⟩
      rcases List.mem_or_eq_of_mem_set hx with hx | rfl
      · exact h.ns x hx
      · exact (h.ns r (List.mem_of_getElem? hr)).filter _
  · exact h
theorem drop_ne {l : List Ref} (h : ∀ r ∈ l, 0 < r.2.length) (wd : ByteArray) (n : Int) : ∀ r ∈ dropR l wd n, 0 < r.2.length := by
  intro r hr
  unfold dropR at hr
  split at hr
  · split at hr
    · exact h r (List.mem_of_mem_eraseIdx hr)
    · rename_i h0
      rcases List.mem_or_eq_of_mem_set hr with hr | rfl
      · exact h r hr
      · exact Nat.pos_of_ne_zero h0
  · exact h r hr
section
variable {w w' w1 : World} {base K M : Nat} {rk : Int → Int} {L : Nat → List Ref} {V : Nat → Value} {P : Nat → List Value}
/-- One of a keeper's lists is another one now. -/
theorem KStep.of_list {i : Nat} {l' : List Ref} (h : KpAt w base K M rk L V P) (hi : i < 4) (hok : ROk rk l') (hne : ∀ r ∈ l', 0 < r.2.length) {e : Ending} (hp : PutPost w base K i (kpCells V M) (V i) l' (P i) e w') :
    e = .returned undef ∧ ∃ V' P', KStep w base K M rk V P (upd L i l') w' V' P' := by
  obtain ⟨rfl, v', ps', hbox, hrf, htou, hmine⟩ := hp
  have hsub : ∀ k, (k = K ∨ Mine (V i) (P i) k) → KMine K V P k := fun k hk => hk.imp id fun hm => ⟨i, hi, hm⟩
  have hother : ∀ j, j < 4 → j ≠ i → Rf w' base (V j) (L j) (P j) := fun j hj hji => (h.lists j hj).tou htou fun b hb => by
    rintro (rfl | hm)
    · exact h.not_K hj hb
    · exact h.apart j i hj hi hji b hb hm
  refine ⟨rfl, upd V i v', upd P i ps', ⟨?_, h.low, fun j hj => ?_, fun j hj => ?_, fun j hj => ?_, fun j k hj hk hne b hb hb2 => ?_, h.rank.block (htou.block M h.rank.lt fun hm => h.not_M (hsub M hm))⟩, htou.mono fun k _ hk => hsub k hk, fun b hb => ?_⟩
  · rw [← kp_upd hi]; exact hbox
  · by_cases e : j = i
    · subst e; rw [upd_self, upd_self, upd_self]; exact hrf
    · rw [upd_ne _ _ e, upd_ne _ _ e, upd_ne _ _ e]; exact hother j hj e
  · by_cases e : j = i
    · subst e; rw [upd_self]; exact hok
    · rw [upd_ne _ _ e]; exact h.ok j hj
  · by_cases e : j = i
    · subst e; rw [upd_self]; exact hne
    · rw [upd_ne _ _ e]; exact h.ne j hj
  · by_cases e : j = i
    · subst e
      rw [upd_self, upd_self] at hb
      rw [upd_ne _ _ (Ne.symm hne), upd_ne _ _ (Ne.symm hne)] at hb2
      rcases hmine b hb with hm | hm
      · exact h.apart j k hj hk hne b hm hb2
      · have := ((h.lists k hk).mine hb2).2; omega
    · rw [upd_ne _ _ e, upd_ne _ _ e] at hb
      by_cases e2 : k = i
      · subst e2
        rw [upd_self, upd_self] at hb2
        rcases hmine b hb2 with hm | hm
        · exact h.apart j k hj hk hne b hb hm
        · have := ((h.lists j hj).mine hb).2; omega
      · rw [upd_ne _ _ e2, upd_ne _ _ e2] at hb2
        exact h.apart j k hj hk hne b hb hb2
  · rcases hb with rfl | ⟨j, hj, hb⟩
    · exact .inl (.inl rfl)
    · by_cases e : j = i
      · subst e
        rw [upd_self, upd_self] at hb
        exact (hmine b hb).imp (fun hm => .inr ⟨j, hj, hm⟩) id
      · rw [upd_ne _ _ e, upd_ne _ _ e] at hb
        exact .inl (.inr ⟨j, hj, hb⟩)
end
theorem zipR_erase : ∀ {l : List Ref} {ps : List Value} (i : Nat), (List.zipWith rfRow l ps).eraseIdx i = List.zipWith rfRow (l.eraseIdx i) (ps.eraseIdx i)
  | [], _, i => by simp
  | x :: l, [], i => by simp
  | x :: l, p :: ps, 0 => rfl
  | x :: l, p :: ps, i + 1 => by
    rw [List.zipWith_cons_cons, List.eraseIdx_cons_succ, List.eraseIdx_cons_succ, List.eraseIdx_cons_succ, List.zipWith_cons_cons, zipR_erase i]
theorem erase_same {α : Type} {l : List α} {i : Nat} {x : α} : (l.set i x).eraseIdx i = l.eraseIdx i := by
  induction l generalizing i with
  | nil => rfl
  | cons y r ih =>
    cases i with
    | zero => rfl
    | succ i => rw [List.set_cons_succ, List.eraseIdx_cons_succ, List.eraseIdx_cons_succ, ih]
/-- An entry goes. -/
theorem Rf.erase {w w1 : World} {base g n c i : Nat} {l : List Ref} {ps : List Value} {v : Value} (h : Rf w base (.slice (some ⟨g, 0, none⟩) n c) l ps) (hi : i < l.length) (hg : w.grownBy w1 (some g)) (hrow : OwnF tR2 w1 base 50 v (l.length - 1) ((List.zipWith rfRow l ps).eraseIdx i)) : Rf w1 base v (l.eraseIdx i) (ps.eraseIdx i) := by
  have hlen := h.len
  have hfew := h.few
  have src : ∀ {α : Type} {m : List α} (k : Nat) (x : α), (m.eraseIdx i)[k]? = some x → m[if k < i then k else k + 1]? = some x := fun {α m} k x hx => by
    rw [List.getElem?_eraseIdx] at hx
    split
    · rwa [if_pos (by assumption)] at hx
    · rwa [if_neg (by assumption)] at hx
  refine ⟨by rw [List.length_eraseIdx, List.length_eraseIdx, if_pos (by omega), if_pos hi]; omega, by rw [List.length_eraseIdx, if_pos hi]; omega, ?_, fun k r p hr hp => ?_, fun r hr => h.words r (List.mem_of_mem_eraseIdx hr), fun k1 k2 p q hp hq hne => ?_⟩
  · rw [List.length_eraseIdx, if_pos hi, ← zipR_erase]; exact hrow
  · have hP := h.parts _ r p (src k r hr) (src k p hp)
    exact ownF_kept hP hg (own_ne (by decide) hP h.row)
  · refine h.apart _ _ p q (src k1 p hp) (src k2 q hq) ?_
    split <;> split <;> omega

set_option maxRecDepth 100000 in
set_option maxHeartbeats 800000 in
theorem dropR_any (K i base : Nat) (cs : Array Value) (v : Value) (l : List Ref) (ps : List Value) (wd : ByteArray) (n : Int) (w : World) (hbox : w.heap[K]? = some (.cells cs 58 (0, 0))) (hcs : cs.size = 5) (hv : cs[i]? = some v)
    (hf : Rf w base v l ps) (hs : RSort l) (hl : l.length ≤ 100000) (hk : ∀ r ∈ l, r.2.length ≤ 100000) (hK : base ≤ K) :
    Calls Tryz.prog 18 #[.pointer (some ⟨K, 0, none⟩), .pointer (some ⟨K, i, none⟩), .string wd, .int .i64 n] w (PutPost w base K i cs v (dropR l wd n) ps) := by
  obtain ⟨w0, hw0⟩ : ∃ w0, w0 = w.alloc (.cells #[.int .i64 n] 3) := ⟨_, rfl⟩
  have hb0 : Below w.heap.size w w0 := by rw [hw0]; exact (Below.refl _ _).alloc (Nat.le_refl _) _
  have hnb : w0.heap[w.heap.size]? = some (.cells #[.int .i64 n] 3 (0, 0)) := by rw [hw0]; exact heap_alloc_new w _
  have hKl : K < w.heap.size := (Array.getElem?_eq_some_iff.1 hbox).1
  have hz0 : w.heap.size < w0.heap.size := (Array.getElem?_eq_some_iff.1 hnb).1
  have HB0 := Lib.hid hb0
  have HNB := Lib.hid hnb
  have HZ0 := Lib.hid hz0
  have HKL := Lib.hid hKl
  have HCS := Lib.hid hcs
  have HV := Lib.hid hv
  have HLL := Lib.hid hl
  have HKK := Lib.hid hk
  have HBK := Lib.hid hK
  have HF0 := Lib.hid (hf.next hb0)
  have HF := Lib.hid hf
  have HBOX0 := Lib.hid ((hb0.block K hKl).trans hbox)
  have x1 := cell_blk (i := i) HBOX0.out hv
  obtain ⟨A, c, rfl⟩ := Own.form hf.row
  have HFI := Lib.hid (findR_any A l.length c l wd w0 w0.heap.size HF0.out.sl.2 (Nat.le_refl _) hs)
  obtain ⟨a, ha⟩ : ∃ a, atR l wd = a := ⟨_, rfl⟩
  have HA := Lib.hid ha
  have HAL : Hid (a ≤ l.length) := by rw [← ha]; exact atR_le l wd
  rw [ha] at HFI
  cases hh : hasR l wd with
  | false =>
    rw [hh] at HFI
    have HDR := Lib.hid (show dropR l wd n = l from by unfold dropR; rw [hh]; rfl)
    clear hb0 hnb hKl hz0 hcs hv hl hk hf hbox hK hs ha hh
    go_enter Tryz.func18, Tryz.ntmps18
    go_upto_region 1 with fail
    rw [← hw0]
    clear hw0
    go_wp2_with (go_at_call 32; refine HFI.out.mono ?_; rintro e w1 ⟨rfl, hb1⟩)
    refine bodyPost_end (results_none rfl _ _ _) rfl ⟨rfl, .slice A l.length c, ps, ?_, ?_, ?_, fun b hb => .inl hb⟩
    · rw [arr_same HV.out]; exact (hb1.block K (Nat.lt_trans HKL.out HZ0.out)).trans HBOX0.out
    · rw [HDR.out]; exact HF0.out.next hb1
    · exact (Tou.of_below (S := fun b => b = K ∨ Mine (.slice A l.length c) ps b) HB0.out).trans (Tou.of_below (S := fun _ => False) hb1) (fun _ _ h => h.elim)
  | true =>
    rw [hh] at HFI
    obtain ⟨r, hr, he⟩ := has_at hh
    rw [ha] at hr
    have hdr : dropR l wd n = if (r.2.filter fun m => decide (m ≠ n)).length = 0 then l.eraseIdx a else l.set a (wd, r.2.filter fun m => decide (m ≠ n)) := by
      unfold dropR
      rw [if_pos hh, ha, hr]
      rfl
    obtain ⟨ks, hks⟩ : ∃ ks, (r.2.filter fun m => decide (m ≠ n)) = ks := ⟨_, rfl⟩
    rw [hks] at hdr
    have HDR := Lib.hid hdr
    have HR := Lib.hid hr
    have HE := Lib.hid he
    have HKS := Lib.hid hks
    have hkl : ks.length ≤ 100000 := by rw [← hks]; exact Nat.le_trans (List.length_filter_le _ _) (hk r (List.mem_of_getElem? hr))
    have HKSL := Lib.hid hkl
    have hal := (List.getElem?_eq_some_iff.1 hr).1
    have HRL := Lib.hid (hk r (List.mem_of_getElem? hr))
    clear hnb hKl hz0 hcs hv hl hk hf hbox hK hs ha hh hr he hks hdr hb0 hkl
    go_enter Tryz.func18, Tryz.ntmps18
    go_upto_region 1 with fail
    rw [← hw0]
    clear hw0
    go_upto_region 3 with (go_at_call 32; refine HFI.out.mono ?_; rintro e w1 ⟨rfl, hb1⟩)
    have HT1 := Lib.hid ((Tou.of_below (S := fun b => b = K ∨ Mine (.slice A l.length c) ps b) HB0.out).trans (Tou.of_below (S := fun _ => False) hb1) (fun _ _ h => h.elim))
    have hf1 := HF0.out.next hb1
    have hx1 := (hb1.block K (Nat.lt_trans HKL.out HZ0.out)).trans HBOX0.out
    have hn1 := (hb1.block _ HZ0.out).trans HNB.out
    have HF1 := Lib.hid hf1
    have HX1 := Lib.hid hx1
    have HN1 := Lib.hid hn1
    obtain ⟨g, c1, e1, hbg, hgl, hcap, hfz, hcell⟩ := hf1.where_ (by omega)
    injection e1 with e2 _ e3
    subst e2 e3
    obtain ⟨p, hp, hpo⟩ := hf1.part_at HR.out
    obtain ⟨d1, d2⟩ := hcell a _ p HR.out hp
    have HP := Lib.hid hp
    have HPO := Lib.hid hpo
    have x1 := cell_blk (i := i) hx1 HV.out
    have i1 : (0 : Int) ≤ (a : Int) := by omega
    have i2 : (a : Int) < (l.length : Int) := by omega
    have hKg : K ≠ g := fun e => hf1.not_box hx1 (by decide) (by decide) (Or.inl (by rw [e]; rfl))
    have HKG := Lib.hid hKg
    have HFZ := Lib.hid hfz
    have hne0 : p.ownBlock ≠ some w.heap.size := fun e => by have := (Own.lt HF.out.row); exact absurd (((HF.out).parts a r p HR.out HP.out)) (fun h => by have := (Own.lt h _ e).2; omega)
    have HDL := Lib.hid (delI_any p r.2.length r.2 n w.heap.size w1 base hpo hn1 hne0 HRL.out)
    rw [HKS.out] at HDL
    obtain ⟨Ak, ck, rfl⟩ := Own.form hpo
    have hgk : some g ≠ (Value.slice Ak r.2.length ck).ownBlock := fun e => own_ne_g hf1 hpo e
    have HGK := Lib.hid hgk
    have HGL := Lib.hid hgl
    clear hf1 hx1 hn1 hbg hcap hfz hcell d1 hp hpo hKg hne0 hgk hgl HFI hb1
    go_upto_region 4 with fail
    go_upto_region 5 with (go_at_call 33; refine HDL.out.mono ?_; rintro e w4 ⟨v', rfl, hown, hg, hv'⟩; obtain ⟨A2, c2, rfl⟩ := Own.form hown; have y2 : w4.cell? ⟨g, a * 2 + 1, none⟩ = some (.slice Ak r.2.length ck) := ((World.cell?_of_block (hg.block g HGL.out HGK.out)).trans d2); have f2 : w4.frozen? ⟨g, a * 2 + 1, none⟩ = false := (World.frozen?_of_block (hg.block g HGL.out HGK.out)).trans (HFZ.out _); have HG := Lib.hid hg; have HO := Lib.hid hown; have HV' := Lib.hid hv'; clear hg hown hv')
    have hf5 := HF1.out.nodes HR.out HP.out HG.out HO.out (.inl HV'.out) HKSL.out
    have hX4 : w4.heap[K]? = some (.cells cs 58 (0, 0)) := (HG.out.block K (Array.getElem?_eq_some_iff.1 HX1.out).1 (fun e => own_ne_block (by decide) HPO.out HX1.out e.symm)).trans HX1.out
    have hX5 : (w4.setCell ⟨g, a * 2 + 1, none⟩ (.slice A2 ks.length c2)).heap[K]? = some (.cells cs 58 (0, 0)) := (Below.heap_setCell _ _ _ _ HKG.out).trans hX4
    have HT5 : Hid (Tou (fun b => b = K ∨ Mine (.slice (some ⟨g, 0, none⟩) l.length c) ps b) w (w4.setCell ⟨g, a * 2 + 1, none⟩ (.slice A2 ks.length c2))) := by
      refine (HT1.out.trans (Tou.of_grown HG.out) (fun k hk e => .inr (.inr ⟨_, List.mem_of_getElem? HP.out, e.symm⟩))).trans (tou_set _ _ _ _) fun k hk e => .inr (.inl (by rw [e]; rfl))
    have hy5 : (w4.setCell ⟨g, a * 2 + 1, none⟩ (.slice A2 ks.length c2)).cell? ⟨g, a * 2 + 1, none⟩ = some (.slice A2 ks.length c2) := World.cell?_setCell_same' _ _ _ (by rw [y2]; rfl)
    obtain ⟨w5, hw5⟩ : ∃ w5, w5 = w4.setCell ⟨g, a * 2 + 1, none⟩ (.slice A2 ks.length c2) := ⟨_, rfl⟩
    rw [← hw5] at hf5 hX5 HT5 hy5 ⊢
    have x5 := cell_blk (i := i) hX5 HV.out
    have f5 := free_blk (i := i) hX5
    have hr1 := HE.out
    rw [hr1] at hf5
    have HF5 := Lib.hid hf5
    have HX5 := Lib.hid hX5
    have hmine5 : ∀ b, Mine (.slice (some ⟨g, 0, none⟩) l.length c) (ps.set a (.slice A2 ks.length c2)) b → Mine (.slice (some ⟨g, 0, none⟩) l.length c) ps b := fun b hb => by
      rcases hb with hb | ⟨q, hq, hb⟩
      · exact .inl hb
      · rcases List.mem_or_eq_of_mem_set hq with hq | rfl
        · exact .inr ⟨q, hq, hb⟩
        · exact .inr ⟨_, List.mem_of_getElem? HP.out, HV'.out.symm.trans hb⟩
    have HM5 := Lib.hid hmine5
    clear hX4 hw5 hmine5 hr1 y2 f2 d2 x1 HDL
    by_cases h0 : ks.length = 0
    · have HD2 := Lib.hid (HDR.out.trans (if_pos h0))
      have hdel := deleteR g l.length c a _ w5 base (fun _ => False) (by have := hf5.row; rw [List.length_set] at this; exact this) (fun _ h => h.elim) hal (by have := HLL.out; omega)
      obtain ⟨rows, hrows⟩ : ∃ rows, (List.zipWith rfRow (l.set a (wd, ks)) (ps.set a (.slice A2 ks.length c2))) = rows := ⟨_, rfl⟩
      rw [hrows] at hdel
      have HROWS := Lib.hid hrows
      clear hrows
      have HDE := Lib.hid hdel
      have hz : ((ks.length : Int) == 0) = true := by rw [h0]; rfl
      have hll : l.length ≤ 100000 := HLL.out
      clear hdel hf5 hX5
      go_wp2_with (go_at_call 35; refine HDE.out.mono ?_; rintro e w6 ⟨rfl, hown6, hg6⟩; have hX6 := (hg6.block K (Array.getElem?_eq_some_iff.1 HX5.out).1 (fun e => HKG.out (Option.some.inj e))).trans HX5.out; have x6 := cell_blk (i := i) hX6 HV.out; have f6 := free_blk (i := i) hX6; have HO6 := Lib.hid hown6; have HG6 := Lib.hid hg6; have HX6 := Lib.hid hX6; clear hown6 hg6 hX6)
      have hf6 := HF5.out.erase (i := a) (by rw [List.length_set]; exact hal) HG6.out (v := .slice (some ⟨g, 0, none⟩) (l.length - 1) c) (by rw [List.length_set, HROWS.out]; exact HO6.out)
      rw [erase_same, erase_same] at hf6
      refine bodyPost_end (results_none rfl _ _ _) rfl ⟨rfl, .slice (some ⟨g, 0, none⟩) (l.length - 1) c, ps.eraseIdx a, set_blk (i := i) HX6.out _, ?_, ?_, fun b hb => .inl ?_⟩
      · rw [HD2.out]
        exact hf6.set_box HX6.out (by decide) (by decide) _
      · exact (HT5.out.trans (Tou.of_grown HG6.out) (fun k hk e => .inr (.inl (by rw [show k = g from Option.some.inj e]; rfl)))).trans (tou_set _ _ _ _) fun k hk e => .inl e
      · rcases hb with hb | ⟨q, hq, hb⟩
        · exact .inl hb
        · exact .inr ⟨q, List.mem_of_mem_eraseIdx hq, hb⟩
    · have HD2 := Lib.hid (HDR.out.trans (if_neg h0))
      have hz : ((ks.length : Int) == 0) = false := beq_eq_false_iff_ne.2 (by omega)
      clear hf5 hX5
      go_wp2_with fail
      refine bodyPost_end (results_none rfl _ _ _) rfl ⟨rfl, .slice (some ⟨g, 0, none⟩) l.length c, ps.set a (.slice A2 ks.length c2), ?_, ?_, HT5.out, fun b hb => .inl (HM5.out b hb)⟩
      · rw [arr_same HV.out]; exact HX5.out
      · rw [HD2.out]; exact HF5.out
section
variable {w : World} {base K M : Nat} {rk : Int → Int} {L : Nat → List Ref} {V : Nat → Value} {P : Nat → List Value}
/-- drop, at a keeper. -/
theorem drop_kp {i : Nat} (h : KpAt w base K M rk L V P) (hi : i < 4) (wd : ByteArray) (n : Int) (hf : allN (L i) ≤ 100000) :
    Calls Tryz.prog 18 #[.pointer (some ⟨K, 0, none⟩), .pointer (some ⟨K, i, none⟩), .string wd, .int .i64 n] w fun e w' => e = .returned undef ∧ ∃ V' P', KStep w base K M rk V P (upd L i (dropR (L i) wd n)) w' V' P' :=
  (dropR_any K i base (kpCells V M) (V i) (L i) (P i) wd n w h.box rfl (kp_cell hi) (h.lists i hi) (h.ok i hi).up (by have := len_all (h.ne i hi); omega) (fun r hr => by have := one_all hr; omega) h.low).mono fun _ _ hp => KStep.of_list h hi (drop_ok (h.ok i hi) wd n) (drop_ne (h.ne i hi) wd n) hp
end
end Go.Proofs.YtomleengbnfikaaGreatDoor
