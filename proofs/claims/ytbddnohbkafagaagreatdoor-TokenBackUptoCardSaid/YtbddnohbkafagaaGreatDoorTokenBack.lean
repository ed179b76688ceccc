/-
WHAT IS SHOWN IS READ: the walk of TokenBack.
-/
import Derived.Test.YtbddnohbkafagaaGreatDoorTkSame
import Derived.Test.YtbddnohbkafagaaGreatDoorTkBulk
namespace Go.Proofs.YtbddnohbkafagaaGreatDoor
open Go.RowKit Go.Cl
attribute [local go_sem ↓] Go.wp_at_zero Go.wp_at_succ
/-- A struct with padding: more bytes than its fields have. -/
theorem lifts_padded {α : Type} {T : Ty α} {P : Program} {t : TypeId} {fs : List Field} (b : Nat) (hb1 : 1 ≤ b) (ht : P.underlying t = some (.struct fs.toArray)) (hc : P.cellsOf t = T.size) (hb : P.bytesOf t = b) (hT : LiftsF P fs 0 T) : Lifts P t (tMap T (fun x => x) b hb1) where
  size := hc
  bytes := hb
  read enc w base held fuel cs x h hw := by
    obtain ⟨ys, n, _, rfl, hl, hyl, hf⟩ := DataW.trod_struct ht h
    have hw' : ∀ n ∈ DataW.weightsEach P (fs.map (·.type)) (ys.map (·.1)), n ≤ reachBytes := fun n hn => hw n (by simpa [DataW.weights, ht] using hn)
    obtain ⟨d, hd⟩ := hT.read enc w base held n cs ys (by rw [hl, hc]; simp) (by simpa using hyl) (fun i f hi => hf i f (by simpa using hi)) hw'
    exact ⟨d, show T.rep _ _ d _ from by simpa using hd⟩
set_option maxRecDepth 100000 in
set_option maxHeartbeats 8000000 in
theorem tokenBack_walk (A0 : Option Addr) (n0 c0 : Nat) (x0 : List TkP) (W : World) (B : Nat) (hl : Sl tTok W (lt B) A0 n0 c0 x0) (hB : B ≤ W.heap.size) (hsz : ∀ x ∈ x0, TkSmall x.1) (m : Int) (hm : maxLenAt W m) (hT : FoldTabs W) :
    Calls Tryz.prog 3 #[.slice A0 n0 c0] W fun e w' => e = .returned (.bool true) ∧ Below W.heap.size W w' := by
  obtain ⟨n, hmin, hn1, hn2, _⟩ := min_nat n0 20 (by decide)
  have hn20 : n ≤ 20 := by omega
  obtain ⟨xs, hxs⟩ : ∃ xs, x0.take n = xs := ⟨_, rfl⟩
  have hls : Sl tTok W (lt B) A0 n c0 xs := by rw [← hxs]; exact hl.cut_to hn1
  have hsz2 : ∀ x ∈ xs, TkSmall x.1 := fun x hx => hsz x (List.mem_of_mem_take (by rw [hxs]; exact hx))
  have HSH := Lib.hid (tkShowAll_any xs A0 n c0 W B hB hls hsz2 (by omega) m hm hT)
  have HBE := Lib.hid (fun (U : World) (h : Below W.heap.size W U) => tkBegun_any U m (cell_be hm h) (hT.next (Nat.le_refl _) h))
  have HRD := Lib.hid (fun (U : World) (h : Below W.heap.size W U) (s : ByteArray) (hs : s.size ≤ 4000) => tkRead_sl U s hs m (cell_be hm h) (hT.next (Nat.le_refl _) h))
  obtain ⟨x, e, hse⟩ : ∃ x e, showE ⟨[], 0, false⟩ [] (xs.map Prod.fst) = (x, e) := ⟨_, _, rfl⟩
  rw [hse] at HSH
  dsimp only at HSH
  have HLS := Lib.hid hls
  have hnc := hl.hc
  have hn6 := hl.small
  have HN := Lib.hid hls.hn
  clear hm hT hsz hsz2 hl hls hxs
  by_cases he : e = 0
  · subst he
    obtain ⟨hx4, y, hy, hxy⟩ := showE_ok (by decide) hse
    rw [List.nil_append] at hxy
    subst hxy
    have hbk := back_law hy
    have HR := Lib.hid (fun (U : World) (h : Below W.heap.size W U) => HRD.out U h (bs x) hx4)
    obtain ⟨l, hll⟩ : ∃ l, (readF (bs x).data.toList).1.map (plOf (bs x)) = l := ⟨_, rfl⟩
    have hlx : l.map Prod.fst = xs.map Prod.fst := by
      rw [← hll, List.map_map, ← hbk]
      rfl
    rw [hll] at HR
    have HLX := Lib.hid hlx
    clear hll hbk hlx hse hy HRD
    go_enter Tryz.func3, Tryz.ntmps3
    go_upto_region 3 with (go_at_call 7; refine HSH.out.mono ?_; rintro e w2 ⟨rfl, hb2⟩; have HB2 := Lib.hid hb2; clear hb2)
    go_upto_region 6 with (go_at_call 9; refine (HR.out _ HB2.out).mono ?_; rintro e w3 ⟨A, k, c, rfl, hb3, hsl⟩; have HB3 := Lib.hid (HB2.out.trans (hb3.mono HB2.out.size)); have HSL := Lib.hid hsl; clear hb3 hsl)
    obtain rfl : k = n := by
      have h1 := HSL.out.hn
      have h2 := HN.out
      have h3 := congrArg List.length HLX.out
      rw [List.length_map, List.length_map] at h3
      omega
    go_wp2_with fail
    go_loopw [7] (fun i wr => ∃ j : Nat, j ≤ k ∧ i = .int .i64 (j : Int) ∧ Below w3.heap.size w3 wr) (fun i _ => k - (intOf i).toNat)
    case atStart => exact ⟨0, Nat.zero_le _, rfl, Below.refl _ _⟩
    case round =>
      obtain ⟨j, hj, rfl, hb⟩ := hrel
      have HBR := Lib.hid (HB3.out.trans (hb.mono HB3.out.size))
      by_cases hlt : j < k
      · obtain ⟨p, hp⟩ : ∃ p, xs[j]? = some p := get_some (by have := HN.out; omega)
        obtain ⟨q, hq⟩ : ∃ q, l[j]? = some q := get_some (by have := HSL.out.hn; omega)
        have hpq : p.1 = q.1 := by
          have h1 := congrArg (fun z => z[j]?) HLX.out
          simp only [List.getElem?_map, hp, hq, Option.map_some, Option.some.injEq] at h1
          exact h1.symm
        obtain ⟨b, o, A4, n4, c4, rfl, g0, g1, g2, g3, g4, g5, g6, gat⟩ := tok_get (HLS.out.below HBR.out hB) hp
        obtain ⟨b', o', A5, n5, c5, rfl, h0, h1, h2, h3, h4, h5, h6, hat⟩ := tok_get (HSL.out.below hb (Nat.le_refl _)) hq
        have HSA := Lib.hid (fun (U : World) (hU : Below wr.heap.size wr U) => tkSame_any p q A4 A5 n4 c4 n5 c5 U w3.heap.size (Nat.le_trans hb.size hU.size) hpq ((gat.below hU (Nat.le_trans hB HBR.out.size)).up (Nat.le_trans hB HB3.out.size)) (hat.below hU hb.size))
        clear gat hat hp hq hpq
        go_upto_region 11 with fail
        refine wp_region_G (S := (fun U : World => Below wr.heap.size wr U)) (T := []) (by kernel_rfl) ?_
        have hS : (fun U : World => Below wr.heap.size wr U) wr.drew := tdrew _
        refine wpAnyG_pureW (i := 0) (v := ?_) rfl (by kernel_rfl) (by kernel_rfl) (by kernel_rfl) (fun _ _ _ h => h) (by kernel_rfl) ?_ ?_
        rotate_left
        · intro w'
          first | (go_simp; done) | (go_simp; with_reducible rfl)
        refine wpAnyG_pureW (i := 1) (v := ?_) rfl (by kernel_rfl) (by kernel_rfl) (by kernel_rfl) (fun _ _ _ h => h) (by kernel_rfl) ?_ ?_
        rotate_left
        · intro w'
          first | (go_simp; done) | (go_simp; with_reducible rfl)
        refine wpAnyG_pureW (i := 2) (v := ?_) rfl (by kernel_rfl) (by kernel_rfl) (by kernel_rfl) (fun _ _ _ h => h) (by kernel_rfl) ?_ ?_
        rotate_left
        · intro w'
          first | (go_simp; done) | (go_simp; with_reducible rfl)
        refine wpAnyG_takeW (i := 3) (v := ?_) rfl (by kernel_rfl) (by kernel_rfl) (by kernel_rfl) (by kernel_rfl) (fun _ _ _ h => h) hS (by kernel_rfl) ?_ ?_
        rotate_left
        · intro w' hSw
          have hSw : Below wr.heap.size wr w' := hSw
          have g0 := cell_be g0 hSw
          have g1 := cell_be g1 hSw
          have g2 := cell_be g2 hSw
          have g3 := cell_be g3 hSw
          have g4 := cell_be g4 hSw
          have g5 := cell_be g5 hSw
          have g6 := cell_be g6 hSw
          first | (go_simp; done) | (go_simp; with_reducible rfl)
        refine wpAnyG_pureW (i := 4) (v := ?_) rfl (by kernel_rfl) (by kernel_rfl) (by kernel_rfl) (fun _ _ _ h => h) (by kernel_rfl) ?_ ?_
        rotate_left
        · intro w'
          first | (go_simp; done) | (go_simp; with_reducible rfl)
        refine wpAnyG_pureW (i := 5) (v := ?_) rfl (by kernel_rfl) (by kernel_rfl) (by kernel_rfl) (fun _ _ _ h => h) (by kernel_rfl) ?_ ?_
        rotate_left
        · intro w'
          first | (go_simp; done) | (go_simp; with_reducible rfl)
        refine wpAnyG_pureW (i := 6) (v := ?_) rfl (by kernel_rfl) (by kernel_rfl) (by kernel_rfl) (fun _ _ _ h => h) (by kernel_rfl) ?_ ?_
        rotate_left
        · intro w'
          first | (go_simp; done) | (go_simp; with_reducible rfl)
        refine wpAnyG_takeW (i := 7) (v := ?_) rfl (by kernel_rfl) (by kernel_rfl) (by kernel_rfl) (by kernel_rfl) (fun _ _ _ h => h) hS (by kernel_rfl) ?_ ?_
        rotate_left
        · intro w' hSw
          have hSw : Below wr.heap.size wr w' := hSw
          have h0 := cell_be h0 hSw
          have h1 := cell_be h1 hSw
          have h2 := cell_be h2 hSw
          have h3 := cell_be h3 hSw
          have h4 := cell_be h4 hSw
          have h5 := cell_be h5 hSw
          have h6 := cell_be h6 hSw
          first | (go_simp; done) | (go_simp; with_reducible rfl)
        refine wpAnyG_oneW (i := 8) (by kernel_rfl) rfl (by kernel_rfl) (fun K hK => ?_)
        go_simp
        go_at_call 10
        refine (HSA.out _ hS).mono ?_
        rintro e w7 ⟨rfl, hb7⟩
        have hS7 : Below wr.heap.size wr w7 := tst hS hb7
        have HS7 := Lib.hid hS7
        clear hb7
        go_wp2_with fail
        refine hK.out _ _ (fun _ _ => hS7) ?_
        clear hK K hS
        have hS : (fun U : World => Below wr.heap.size wr U) w7 := HS7.out
        refine wpAnyG_pureW (i := 9) (v := ?_) rfl (by kernel_rfl) (by kernel_rfl) (by kernel_rfl) (fun _ _ _ h => h) (by kernel_rfl) ?_ ?_
        rotate_left
        · intro w'
          first | (go_simp; done) | (go_simp; with_reducible rfl)
        refine wpAnyG_done (by kernel_rfl) ?_ _
        go_simp
        go_wp2_with fail
        go_roundw
        case rel => exact ⟨j + 1, by omega, by first | rfl | (congr 1; omega), hb.trans (HS7.out.mono hb.size)⟩
        case measure => simp [intOf]; omega
      · have HBG := Lib.hid (HBE.out _ HBR.out)
        go_wp2_with (go_at_call 8; refine HBG.out.mono ?_; rintro e w7 ⟨rfl, hb7⟩; have HB7 := Lib.hid hb7; clear hb7)
        go_ret
        exact ⟨rfl, HBR.out.trans (HB7.out.mono HBR.out.size)⟩
  · have hx0 := showE_no hse he
    subst hx0
    have he' : (e == 0) = false := beq_eq_false_iff_ne.2 he
    clear hse HRD
    go_enter Tryz.func3, Tryz.ntmps3
    go_upto_region 3 with (go_at_call 7; refine HSH.out.mono ?_; rintro e w2 ⟨rfl, hb2⟩; have HB2 := Lib.hid hb2; clear hb2)
    have HBG := Lib.hid (HBE.out _ HB2.out)
    go_wp2_with (go_at_call 8; refine HBG.out.mono ?_; rintro e w7 ⟨rfl, hb7⟩; have HB7 := Lib.hid hb7; clear hb7)
    go_ret
    exact ⟨by first | rfl | exact congrArg (fun z => Ending.returned (Value.bool z)) (by rw [emp_list]; rfl), HB2.out.trans (HB7.out.mono HB2.out.size)⟩
theorem lifts_tok : Lifts Tryz.prog 32 tTok :=
  lifts_map (fun a => ((⟨a.1, a.2.1, a.2.2.1, a.2.2.2.1, a.2.2.2.2.1⟩ : Tk), a.2.2.2.2.2.1, a.2.2.2.2.2.2)) (fun _ => rfl)
    (lifts_padded (fs := [_, _, _, _, _, _, _]) 88 (by decide) Tryz.underlying32 (by kernel_rfl) (by kernel_rfl)
      (liftsF_cons rfl (lifts_int Tryz.underlying3 (by kernel_rfl) (by kernel_rfl))
        (liftsF_cons rfl (lifts_str Tryz.underlying9 (by kernel_rfl) (by kernel_rfl))
          (liftsF_cons rfl (lifts_slice Tryz.underlying30 (by kernel_rfl) (by kernel_rfl)
              (lifts_struct (fs := [_, _]) Tryz.underlying55 (by kernel_rfl) (by kernel_rfl) (liftsF_cons rfl (lifts_str Tryz.underlying9 (by kernel_rfl) (by kernel_rfl)) (liftsF_one rfl (lifts_str Tryz.underlying9 (by kernel_rfl) (by kernel_rfl))))) (by decide))
            (liftsF_cons rfl (lifts_str Tryz.underlying9 (by kernel_rfl) (by kernel_rfl))
              (liftsF_cons rfl (lifts_bool Tryz.underlying4 (by kernel_rfl) (by kernel_rfl))
                (liftsF_cons rfl (lifts_int Tryz.underlying3 (by kernel_rfl) (by kernel_rfl))
                  (liftsF_one rfl (lifts_int Tryz.underlying3 (by kernel_rfl) (by kernel_rfl))))))))))
end Go.Proofs.YtbddnohbkafagaaGreatDoor
