/-
The walks of slices.DeleteFunc at nodes and of slices.Delete at entries.
-/
import Derived.Test.YtomleengbnfikaaGreatDoorIdxPut
import Derived.Lib.SliceRun
namespace Go.Proofs.YtomleengbnfikaaGreatDoor
open Go.RowKit Go.Cl
attribute [local go_sem ↓] Go.wp_at_zero Go.wp_at_succ

set_option maxRecDepth 100000 in
/-- slices.Delete of one element, in a row of the call's own. -/
theorem deleteR (g n c i : Nat) (xs : List (List Value)) (w : World) (base : Nat) (D : Nat → Prop) (hown : Own tR2 w base 50 D (.slice (some ⟨g, 0, none⟩) n c) n xs) (hD : ∀ b, D b → b ≠ g) (hi : i < n) (hn : n ≤ 140737488355328) :
    Calls Tryz.prog 35 #[.slice (some ⟨g, 0, none⟩) n c, .int .i64 (i : Int), .int .i64 ((i : Int) + 1)] w fun e w' => e = .returned (.slice (some ⟨g, 0, none⟩) (n - 1) c) ∧ Own tR2 w' base 50 D (.slice (some ⟨g, 0, none⟩) (n - 1) c) (n - 1) (xs.eraseIdx i) ∧ w.grownBy w' (some g) := by
  obtain ⟨cells, h1, h2⟩ := hown
  have hlen := h1.1
  have hT : (tR2).size = 2 := rfl
  rw [hT] at hlen
  rcases h1.2 with ⟨hv, _⟩ | ⟨g', cap, cur, hv, hb, hh, hnc, hcm, hsz, htk⟩
  · cases hv
  simp only [Value.slice.injEq, Option.some.injEq, Addr.mk.injEq, and_true, true_and] at hv
  obtain ⟨rfl, rfl⟩ := hv
  rw [hT] at hsz htk
  have hcl : cur.toList.length = c * 2 := by simpa using hsz
  have HNEW : Hid ((cells.drop ((i + 1) * 2)).length = (n - (i + 1)) * 2) := by show _ = _; rw [List.length_drop, hlen]; omega
  obtain ⟨A', HA'⟩ : ∃ A', Hid ((if c = i + 1 then some (⟨g, 0, none⟩ : Addr) else some ⟨g, (i + 1) * 2, none⟩) = some A') := by
    by_cases hci : c = i + 1
    · exact ⟨_, if_pos hci⟩
    · exact ⟨_, if_neg hci⟩
  have HC : Hid (∀ j u, (cells.drop ((i + 1) * 2))[j]? = some u → w.drew.cell? (A'.add j) = some u) := by
    intro j u hu
    have hA := HA'.out
    have hj := (List.getElem?_eq_some_iff.1 hu).1
    rw [HNEW.out] at hj
    rw [if_neg (by omega)] at hA
    simp only [Option.some.injEq] at hA
    subst hA
    rw [List.getElem?_drop, ← htk, List.getElem?_take] at hu
    split at hu
    · show w.cell? _ = _
      have : (⟨g, (i + 1) * 2, none⟩ : Addr).add j = ⟨g, (i + 1) * 2 + j, none⟩ := by unfold Addr.add; split <;> simp_all
      rw [this]
      exact cell_blk hh (by simpa using hu)
    · cases hu
  have HONE : Hid (∀ u ∈ cells.drop ((i + 1) * 2), u.oneCell' = true) := fun u hu => h2.one_ u (List.mem_of_mem_drop hu)
  have HSP : Hid (∀ j, j < (cells.drop ((i + 1) * 2)).length → (w.drew.cell? ⟨g, 0 + i * 2 + j, none⟩).isSome = true ∧ w.drew.frozen? ⟨g, 0 + i * 2 + j, none⟩ = false) := by
    intro j hj
    rw [HNEW.out] at hj
    refine ⟨?_, free_blk (w := w) hh⟩
    have hlt : 0 + i * 2 + j < cur.size := by omega
    rw [show w.drew.cell? ⟨g, 0 + i * 2 + j, none⟩ = w.cell? ⟨g, 0 + i * 2 + j, none⟩ from rfl, cell_blk hh (Array.getElem?_eq_getElem hlt)]
    rfl
  obtain ⟨W1, hW1⟩ : ∃ W1, W1 = w.drew.setCells g (0 + i * 2) (cells.drop ((i + 1) * 2)) := ⟨_, rfl⟩
  have HW1 := Lib.hid hW1
  obtain ⟨cur1, hh1, hs1, _⟩ := heap_setCells (cells.drop ((i + 1) * 2)) (0 + i * 2) w.drew cur hh (by rw [HNEW.out]; omega)
  rw [← hW1] at hh1
  have hcl2 : ∀ ty k, (Builtin.clear_ #[27] ty #[.slice (some ⟨g, (n - 1) * 2, none⟩) (n - (n - 1)) k]).run Tryz.prog W1 = .ok (.tuple #[]) (W1.setCells g ((n - 1) * 2) [.string ⟨#[]⟩, .slice none 0 0]) := fun ty k => by
    rw [show n - (n - 1) = 1 from by omega]
    exact run_clear_one W1 _ _ ty _ [.string ⟨#[]⟩, .slice none 0 0] Tryz.underlying27 Tryz.zeroValue50 (by kernel_rfl) (by simp [Value.oneCell']) g _ k (fun j hj => by
      have hlt : (n - 1) * 2 + j < cur1.size := by have hj2 : j < 2 := hj; omega
      rw [cell_blk hh1 (Array.getElem?_eq_getElem hlt)]; rfl) (fun j _ => free_blk hh1)
  have hic : i + 1 ≤ c := by omega
  have hic2 : i ≤ c := by omega
  have hn1c : ¬ c = n - 1 := by omega
  have hne : ((i : Int) == (i : Int) + 1) = false := beq_eq_false_iff_ne.2 (by omega)
  have hb1 : (0 : Int) ≤ (i : Int) + 1 := by omega
  have hb2 : (i : Int) + 1 ≤ (n : Int) := by omega
  have HOWN := Lib.hid (show Own tR2 (W1.setCells g ((n - 1) * 2) [.string ⟨#[]⟩, .slice none 0 0]) base 50 D (.slice (some ⟨g, 0, none⟩) (n - 1) c) (n - 1) (xs.eraseIdx i) from by
    subst hW1
    refine ⟨_, ownsRow_cut (zs := [.string ⟨#[]⟩, .slice none 0 0]) h1 hi rfl, ?_⟩
    rw [← List.take_drop_erase]
    refine ((h2.take i).append (h2.drop (i + 1))).keep fun p hp => ?_
    have hpg : p.block ≠ g := hD _ hp
    exact World.cell?_of_block (w := w) ((heap_setCells_other hpg _ _ _).trans (heap_setCells_other hpg _ _ _)))
  have HG := Lib.hid (show w.grownBy (W1.setCells g ((n - 1) * 2) [.string ⟨#[]⟩, .slice none 0 0]) (some g) from by
    subst hW1
    exact grownBy.trans' (b := w.drew) ⟨rfl, rfl, rfl, Nat.le_refl _, fun _ _ _ => rfl⟩ (grownBy.trans' (grown_setCells g _ _ _) (grown_setCells g _ _ _)))
  obtain ⟨i0, z0, hi0, hz0, hs0, hy0, hzz0⟩ := (elemR2).info
  have HI0 := Lib.hid hi0
  have HS0 := Lib.hid hs0
  clear hi0 hs0 hy0 hz0 hzz0 h1 h2 hh hh1 hW1 hsz htk hcl hlen hT hs1 hD
  go_enter Tryz.func35, Tryz.ntmps35
  go_wp2_with fail
  go_region_law (refine step_append_room rfl (.tmp 22) (.tmp 25) 27 rfl 50 i0 2 Tryz.underlying27 HI0.out HS0.out g 0 i c (by simp [Act.eval, Act.put]) A' (n - (i + 1)) (c - (i + 1)) (cells.drop ((i + 1) * 2)) (by simp [Act.eval, Act.put]; exact HA'.out) HNEW.out HC.out HONE.out (by omega) HSP.out ?_; rw [← HW1.out, show i + (n - (i + 1)) = n - 1 from by omega])
  go_wp2_with fail
  all_goals
    go_ret
    first | exact ⟨rfl, HOWN.out, HG.out⟩ | (obtain rfl : c = i + 1 := (by assumption); exact ⟨rfl, HOWN.out, HG.out⟩)

theorem drop1_any (m n : Int) (nb : Nat) (w : World) (hc : w.cell? ⟨nb, 0, none⟩ = some (.int .i64 n)) : Calls Tryz.prog 34 #[.int .i64 m, .pointer (some ⟨nb, 0, none⟩)] w fun e w' => e = .returned (.bool (m == n)) ∧ w = w' := by
  go_enter Tryz.func34, Tryz.ntmps34
  go_wp2_with fail
  go_ret
  exact ⟨rfl, rfl⟩
set_option maxRecDepth 100000 in
set_option maxHeartbeats 2000000 in
/-- Where a node stands first. -/
theorem idxI_any (A : Option Addr) (len c : Nat) (xs : List Int) (n : Int) (nb : Nat) (w : World) (D : Nat → Prop) (hl : Sl (tInt .i64) w D A len c xs) (hc : w.cell? ⟨nb, 0, none⟩ = some (.int .i64 n)) :
    Calls Tryz.prog 53 #[.slice A len c, .func (.func 34) #[] #[.pointer (some ⟨nb, 0, none⟩)]] w fun e w' => w = w' ∧ ((e = .returned (.int .i64 (-1)) ∧ n ∉ xs) ∨ ∃ i : Nat, e = .returned (.int .i64 (i : Int)) ∧ xs[i]? = some n ∧ n ∉ xs.take i) := by
  have hn1 := hl.small
  have HL := Lib.hid hl
  have HLN := Lib.hid hl.hn
  have HD := Lib.hid (fun m => drop1_any m n nb w hc)
  clear hl hc
  go_enter Tryz.func53, Tryz.ntmps53
  go_wp2_with fail
  go_loopw [8] (fun s wr => ∃ j : Nat, j ≤ len ∧ s = .int .i64 (j : Int) ∧ w = wr ∧ Hid (n ∉ xs.take j)) (fun s _ => len - (intOf s).toNat)
  case atStart => exact ⟨0, Nat.zero_le _, rfl, rfl, Lib.hid (by simp)⟩
  case round =>
    obtain ⟨j, hj, rfl, rfl, HN⟩ := hrel
    by_cases hlt : j < len
    · obtain ⟨x, hx⟩ : ∃ x, xs[j]? = some x := get_some (by have := HLN.out; omega)
      obtain ⟨b, o, rfl, _, c1⟩ := sl_int HL.out hx
      have HX := Lib.hid hx
      clear hx
      by_cases e : x = n
      · subst e
        go_wp2_with (go_at_call 34; refine (HD.out _).mono ?_; rintro e w1 ⟨rfl, rfl⟩; rw [beq_self_eq_true])
        go_ret
        exact ⟨rfl, .inr ⟨j, rfl, HX.out, HN.out⟩⟩
      · have hxn : (x == n) = false := beq_eq_false_iff_ne.2 e
        have HE := Lib.hid e
        clear e
        go_wp2_with (go_at_call 34; refine (HD.out _).mono ?_; rintro e w1 ⟨rfl, rfl⟩; rw [hxn])
        go_roundw
        case rel => exact ⟨j + 1, by omega, by go_num, by first | rfl | trivial, Lib.hid (by rw [take_snoc HX.out, List.mem_append, List.mem_singleton]; rintro (h | h); exact HN.out h; exact HE.out h.symm)⟩
        case measure => simp [intOf]; omega
    · obtain rfl : len = j := by omega
      go_wp2_with fail
      go_ret
      exact ⟨rfl, .inl ⟨rfl, by have := HN.out; rw [show len = xs.length from HLN.out, List.take_length] at this; exact this⟩⟩
theorem own_int_set {w : World} {base g n c i : Nat} {xs : List Int} {x y : Int} (h : OwnF (tInt .i64) w base 3 (.slice (some ⟨g, 0, none⟩) n c) n xs) (hx : xs[i]? = some x) (hy : (Lit.int .i64 y).wf = true) : OwnF (tInt .i64) (w.setCell ⟨g, i, none⟩ (.int .i64 y)) base 3 (.slice (some ⟨g, 0, none⟩) n c) n (xs.set i y) := by
  have h1 := Own.stored (T := tInt .i64) h (fun _ h => h.elim) (y := y) (u := .int .i64 y) hx (j := 0) (by decide) (fun cs hcs => by
    obtain ⟨rfl, _⟩ := hcs
    exact ⟨rfl, hy⟩)
  rw [show i * (tInt .i64).size + 0 = i from Nat.mul_one i] at h1
  exact h1
theorem own_int_pre {w : World} {base g n c i : Nat} {xs : List Int} {vs : List Value} (h : OwnF (tInt .i64) w base 3 (.slice (some ⟨g, 0, none⟩) n c) n xs) (hi : i ≤ n) (hv : vs.length = n - i) : OwnF (tInt .i64) (w.setCells g i vs) base 3 (.slice (some ⟨g, 0, none⟩) i c) i (xs.take i) := by
  obtain ⟨cells, h1, h2⟩ := h
  rcases h1.2 with ⟨hv0, _⟩ | ⟨g', cap, cur, hv0, hb, hh, hnc, hcm, hsz, htk⟩
  · cases hv0
  simp only [Value.slice.injEq, Option.some.injEq, Addr.mk.injEq, and_true, true_and] at hv0
  obtain ⟨rfl, rfl⟩ := hv0
  have hT : (tInt .i64).size = 1 := rfl
  have hlen := h1.1
  rw [hT] at hsz htk hlen
  have hcl : cur.toList.length = c * 1 := by simpa using hsz
  obtain ⟨cur1, k1, k2, k3⟩ := heap_setCells vs i w cur hh (by omega)
  refine ⟨cells.take (i * 1), ⟨?_, .inr ⟨g, c, cur1, rfl, hb, k1, by omega, hcm, by rw [hT]; omega, ?_⟩⟩, (h2.take i).keep fun p hp => hp.elim⟩
  · rw [hT, List.length_take]; omega
  · rw [hT, k3, List.append_assoc, List.take_append_of_le_length (by rw [List.length_take]; omega), List.take_take, ← htk, List.take_take]
    congr 1
    omega
theorem filter_snoc {xs : List Int} {j : Nat} {x n : Int} (hx : xs[j]? = some x) : (xs.take (j + 1)).filter (fun m => decide (m ≠ n)) = (xs.take j).filter (fun m => decide (m ≠ n)) ++ if x = n then [] else [x] := by
  rw [take_snoc hx, List.filter_append]
  congr 1
  by_cases e : x = n
  · rw [if_pos e, List.filter_cons_of_neg (by simpa using e)]; rfl
  · rw [if_neg e, List.filter_cons_of_pos (by simpa using e)]; rfl
/-- At the head of a round of DeleteFunc. -/
def DlSt (w : World) (base g len c : Nat) (xs : List Int) (n : Int) (i j : Nat) (wr : World) : Prop :=
  ∃ ys, OwnF (tInt .i64) wr base 3 (.slice (some ⟨g, 0, none⟩) len c) len ys ∧ ys.take i = (xs.take j).filter (fun m => decide (m ≠ n)) ∧ (∀ k, j ≤ k → ys[k]? = xs[k]?) ∧ w.grownBy wr (some g)
set_option maxRecDepth 100000 in
set_option maxHeartbeats 8000000 in
/-- slices.DeleteFunc: all of one node go, in the row itself. -/
theorem delI_any (v : Value) (len : Nat) (xs : List Int) (n : Int) (nb : Nat) (w : World) (base : Nat) (hown : OwnF (tInt .i64) w base 3 v len xs) (hc : w.heap[nb]? = some (.cells #[.int .i64 n] 3 (0, 0))) (hne : v.ownBlock ≠ some nb) (hlen : len ≤ 100000) :
    Calls Tryz.prog 33 #[v, .func (.func 34) #[] #[.pointer (some ⟨nb, 0, none⟩)]] w fun e w' => ∃ v', e = .returned v' ∧ OwnF (tInt .i64) w' base 3 v' (xs.filter fun m => decide (m ≠ n)).length (xs.filter fun m => decide (m ≠ n)) ∧ w.grownBy w' v.ownBlock ∧ v'.ownBlock = v.ownBlock := by
  obtain ⟨F, hF⟩ : ∃ F, (xs.filter fun m => decide (m ≠ n)) = F := ⟨_, rfl⟩
  rw [hF]
  have HFF := Lib.hid hF
  clear hF
  obtain ⟨A, c, e, hsl⟩ := OwnF.sl hown (by decide) (by show len * 8 ≤ _; omega)
  subst e
  have hxl := hsl.hn
  have hc0 : w.cell? ⟨nb, 0, none⟩ = some (.int .i64 n) := cell_blk hc rfl
  have HI := Lib.hid (idxI_any A len c xs n nb w _ hsl hc0)
  by_cases hin : n ∈ xs
  · have hpos : 0 < len := by rw [hxl]; exact List.length_pos_of_mem hin
    obtain ⟨g, cells, rfl, hbg, hgl, hrw, hcl, hfz⟩ := Own.block hown hpos
    have hcap : len ≤ c := hsl.hc
    have hcm := hsl.small
    have HO := Lib.hid hown
    have HC := Lib.hid hc
    have HNG : Hid (nb ≠ g) := fun e => hne (by rw [e]; rfl)
    have HXL := Lib.hid hxl
    have HIN := Lib.hid hin
    have HI2 := Lib.hid (HI.out.mono (R' := fun e w' => w = w' ∧ ∃ i : Nat, e = .returned (.int .i64 (i : Int)) ∧ xs[i]? = some n ∧ n ∉ xs.take i) fun e w' h => ⟨h.1, h.2.resolve_left fun h => h.2 HIN.out⟩)
    clear hown hc hne hsl hxl hc0 HI hin hfz hrw hcl cells hbg
    go_enter Tryz.func33, Tryz.ntmps33
    go_upto_region 2 with (go_at_call 53; refine HI2.out.mono ?_; rintro e w1 ⟨rfl, i0, rfl, hi0, hn0⟩)
    have hi0l : i0 < len := by have := (List.getElem?_eq_some_iff.1 hi0).1; have := HXL.out; omega
    have hm1 : ((i0 : Int) == -1) = false := beq_eq_false_iff_ne.2 (by omega)
    have HST : Hid (DlSt w base g len c xs n i0 (i0 + 1) w) := by
      refine ⟨xs, HO.out, ?_, fun _ _ => rfl, ⟨rfl, rfl, rfl, Nat.le_refl _, fun _ _ _ => rfl⟩⟩
      rw [filter_snoc hi0, if_pos rfl, List.append_nil]
      exact (List.filter_eq_self.2 fun m hm => by
        simp only [ne_eq, decide_eq_true_eq]
        rintro rfl
        exact hn0 hm).symm
    clear hi0 hn0 HI2
    go_wp2_with fail
    go_loopw [5, 6] (fun s5 s6 wr => ∃ i j : Nat, s5 = .int .i64 (i : Int) ∧ s6 = .int .i64 (j : Int) ∧ i < j ∧ j ≤ len ∧ Hid (DlSt w base g len c xs n i j wr)) (fun _ s6 _ => len - (intOf s6).toNat)
    case atStart => exact ⟨i0, i0 + 1, rfl, by go_num, by omega, by omega, HST⟩
    case round =>
      obtain ⟨i, j, rfl, rfl, hij, hj, HR⟩ := hrel
      obtain ⟨ys, ho, hpre, hpost, hgr⟩ := HR.out
      obtain ⟨_, _, e0, hsy⟩ := OwnF.sl ho (by decide) (by show len * 8 ≤ _; omega)
      injection e0 with e1 _ e2
      subst e1 e2
      have hyl := hsy.hn
      have hcn : wr.cell? ⟨nb, 0, none⟩ = some (.int .i64 n) := cell_blk ((hgr.block nb (Array.getElem?_eq_some_iff.1 HC.out).1 (fun e => HNG.out (Option.some.inj e))).trans HC.out) rfl
      have hfz : ∀ k, wr.frozen? ⟨g, k, none⟩ = false := by
        obtain ⟨_, _, e5, _, _, _, _, h⟩ := Own.block ho hpos
        cases e5
        exact h
      by_cases hlt : j < len
      · obtain ⟨x, hx⟩ : ∃ x, xs[j]? = some x := get_some (by have := HXL.out; omega)
        have hy : ys[j]? = some x := (hpost j (Nat.le_refl _)).trans hx
        obtain ⟨b, o, e3, _, c1, hwf⟩ := hsy.int hy
        simp only [Option.some.injEq, Addr.mk.injEq, and_true] at e3
        obtain ⟨rfl, rfl⟩ := e3
        rw [Nat.zero_add] at c1
        have HD := Lib.hid (drop1_any x n nb wr hcn)
        have j1 : (0 : Int) ≤ (j : Int) := by omega
        have j2 : (j : Int) < (len : Int) := by omega
        have i1 : (0 : Int) ≤ (i : Int) := by omega
        have i2 : (i : Int) < (len : Int) := by omega
        by_cases e : x = n
        · subst e
          have HST2 : Hid (DlSt w base g len c xs x i (j + 1) wr) := ⟨ys, ho, by rw [filter_snoc hx, if_pos rfl, List.append_nil]; exact hpre, fun k hk => hpost k (by omega), hgr⟩
          clear ho hpre hpost hgr hsy hx hy hwf hcn HR HST hyl
          go_wp2_with (go_at_call 34; refine HD.out.mono ?_; rintro e w1 ⟨rfl, rfl⟩; rw [beq_self_eq_true])
          go_roundw
          case rel => exact ⟨i, j + 1, rfl, by go_num, by omega, by omega, HST2⟩
          case measure => simp [intOf]; omega
        · have hxn : (x == n) = false := beq_eq_false_iff_ne.2 e
          obtain ⟨yi, hyi⟩ : ∃ yi, ys[i]? = some yi := get_some (by omega)
          have HST2 : Hid (DlSt w base g len c xs n (i + 1) (j + 1) (wr.setCell ⟨g, i, none⟩ (.int .i64 x))) := by
            refine ⟨ys.set i x, own_int_set ho hyi hwf, ?_, fun k hk => ?_, ?_⟩
            · rw [filter_snoc hx, if_neg e, take_snoc (x := x) (by rw [List.getElem?_set_self (by omega)]), List.take_set_of_le (Nat.le_refl _), hpre]
            · rw [List.getElem?_set_ne (by omega)]; exact hpost k (by omega)
            · exact grownBy.trans' hgr (grown_set wr g i _)
          have f1 := hfz i
          obtain ⟨b2, o2, e4, _, c2, _⟩ := hsy.int hyi
          simp only [Option.some.injEq, Addr.mk.injEq, and_true] at e4
          obtain ⟨rfl, rfl⟩ := e4
          rw [Nat.zero_add] at c2
          clear ho hpre hpost hgr hsy hx hy hwf hcn HR HST e hyi hyl
          go_wp2_with (go_at_call 34; refine HD.out.mono ?_; rintro e w1 ⟨rfl, rfl⟩; rw [hxn])
          go_roundw
          case rel => exact ⟨i + 1, j + 1, by go_num, by go_num, by omega, by omega, HST2⟩
          case measure => simp [intOf]; omega
      · obtain rfl : len = j := by omega
        have hcl2 : ∀ ty k, (Builtin.clear_ #[37] ty #[.slice (some ⟨g, i, none⟩) (len - i) k]).run Tryz.prog wr = .ok (.tuple #[]) (wr.setCells g i (List.replicate (len - i) (.int .i64 0))) := fun ty k =>
          Lib.run_clear_slice wr _ _ ty (.int .i64 0) Tryz.underlying37 Tryz.zeroValue3 rfl rfl g i (len - i) k (by omega) (fun q hq => by
            obtain ⟨z, hz⟩ : ∃ z, ys[i + q]? = some z := get_some (by omega)
            obtain ⟨b, o, e3, _, c1, _⟩ := hsy.int hz
            simp only [Option.some.injEq, Addr.mk.injEq, and_true] at e3
            obtain ⟨rfl, rfl⟩ := e3
            rw [Nat.zero_add] at c1
            rw [c1]; rfl) (fun q _ => hfz _)
        have hic : ¬ c = i := by omega
        have i1 : (0 : Int) ≤ (i : Int) := by omega
        have i2 : (i : Int) ≤ (len : Int) := by omega
        have i3 : i ≤ len := by omega
        have i4 : i ≤ c := by omega
        have HF := Lib.hid (own_int_pre (vs := List.replicate (len - i) (.int .i64 0)) ho i3 (by simp))
        have HPRE := Lib.hid hpre
        have HG := Lib.hid (grownBy.trans' hgr (grown_setCells g (List.replicate (len - i) (.int .i64 0)) i wr))
        have HYL := Lib.hid hyl
        clear ho hpre hpost hgr hsy hyl hfz hcn HR HST
        go_wp2_with fail
        go_ret
        have h1 := HF.out
        have h2 := HPRE.out
        rw [show len = xs.length from HXL.out, List.take_length, HFF.out] at h2
        rw [h2] at h1
        have h3 : i = F.length := by rw [← h2, List.length_take]; have := HYL.out; omega
        exact ⟨.slice (some ⟨g, 0, none⟩) i c, rfl, by rw [← h3]; exact h1, HG.out, rfl⟩
  · have HO := Lib.hid hown
    have HI2 := Lib.hid (HI.out.mono (R' := fun e w' => w = w' ∧ e = .returned (.int .i64 (-1))) fun e w' h => ⟨h.1, (h.2.resolve_right fun ⟨i, _, h, _⟩ => hin (List.mem_of_getElem? h)).1⟩)
    have HFI : Hid (F = xs) := HFF.out.symm.trans <| List.filter_eq_self.2 fun m hm => by
      simp only [ne_eq, decide_eq_true_eq]
      rintro rfl
      exact hin hm
    have HXL := Lib.hid hxl
    clear hown hc hne hsl hxl hc0 HI hin
    go_enter Tryz.func33, Tryz.ntmps33
    go_wp2_with (go_at_call 53; refine HI2.out.mono ?_; rintro e w1 ⟨rfl, rfl⟩)
    go_ret
    exact ⟨_, rfl, by rw [HFI.out, ← show len = xs.length from HXL.out]; exact HO.out, ⟨rfl, rfl, rfl, Nat.le_refl _, fun _ _ _ => rfl⟩, rfl⟩
end Go.Proofs.YtomleengbnfikaaGreatDoor
