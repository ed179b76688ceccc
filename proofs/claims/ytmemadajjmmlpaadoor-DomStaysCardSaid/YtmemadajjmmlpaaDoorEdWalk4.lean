/-
The walks of package dom's editor: remove.
-/
import Derived.Test.YtmemadajjmmlpaaDoorEdWalk3
import Derived.Deep.QuietTactic
import Derived.BigQuiet
namespace Go.Proofs.YtmemadajjmmlpaaDoor
open Go.RowKit Go.Cl
attribute [local go_sem ↓] Go.wp_at_zero Go.wp_at_succ

/-- A call that leaves all as it is, behind draws. -/
theorem quiet_l {P : Program} {f : FuncId} {args : Array Value} {w : World} {n : Nat} {v : Value} (h : Calls P f args (w.drewN n) fun e w' => e = .returned v ∧ w.drewN n = w') : Calls P f args (w.drewN n) fun e w'' => e = .returned v ∧ ∃ m, w'' = w.drewN m :=
  h.mono fun _ _ ⟨he, hm⟩ => ⟨he, n, hm.symm⟩
theorem EdAt.drewN {w : World} {E g c base : Nat} {l : List Nd} {q : Bool} {made : Int} {ps : List (Value × Value)} (h : EdAt w E g c base l q made ps) (k : Nat) : EdAt (w.drewN k) E g c base l q made ps := h.next (below_dN (Below.refl _ _) k)
theorem sl_drewN {α : Type} {T : Ty α} {w : World} {D : Nat → Prop} {A : Option Addr} {n c : Nat} {xs : List α} (h : Sl T w D A n c xs) (k : Nat) : Sl T (w.drewN k) D A n c xs := h.keep fun _ _ => rfl

set_option maxRecDepth 100000 in
set_option maxHeartbeats 4000000 in
theorem remove_any (w : World) (E g c base : Nat) (l : List Nd) (q : Bool) (made : Int) (ps : List (Value × Value)) (e : Edt) (Aa : Option Addr) (na ca : Nat) (Ak : Option Addr) (nk ck : Nat) (h : EdAt w E g c base l q made ps) (hg : Good l) :
    Calls Tryd.prog 107 #[.pointer (some ⟨E, 0, none⟩), .agg (edtCells e Aa na ca Ak nk ck)] w (EdPost E base q (remErr l e.at_) (remDo l e.at_) made w) := by
  obtain ⟨w0, hw0⟩ : ∃ w0, w0 = w.alloc (.cells (edtCells e Aa na ca Ak nk ck) 59) := ⟨_, rfl⟩
  have hk := eb_of h (edtCells e Aa na ca Ak nk ck)
  rw [← hw0] at hk
  obtain ⟨hEB, hb0⟩ := hk
  have e1 := hEB.cell 1 (v := .int .i64 e.at_) rfl
  have c0 := hEB.at_.c0
  have HB0 := Lib.hid hb0
  have HEB := Lib.hid hEB
  have HN := Lib.hid (node_any w0 E g c base l q made ps e.at_ hEB.at_)
  have HGD := Lib.hid hg
  clear h hb0 hEB hg
  go_enter Tryd.func107, Tryd.ntmps107
  unfold edtCells at *
  go_upto_region 1 with fail
  rw [← hw0]
  clear hw0
  cases hx : nodeAt l e.at_ with
  | none =>
    have HR := Lib.hid (show remErr l e.at_ = 5 from by unfold remErr; rw [hx])
    rw [ptr_none hx] at HN
    clear hx
    go_wp2_with (go_at_call 124; refine HN.out.mono ?_; rintro e' w1 ⟨rfl, rfl⟩)
    go_ret
    exact ⟨by rw [HR.out]; rfl, HB0.out, by rw [HR.out]; exact fun h => absurd h (by decide)⟩
  | some x =>
    obtain ⟨m, hme, hm⟩ := nodeAt_some hx
    rw [hme] at hx HN e1
    have HRE := Lib.hid (show remErr l e.at_ = if x.kind = 1 then 7 else if x.parent < 0 then 5 else 0 from by unfold remErr; rw [hme, hx])
    obtain ⟨p, hp, hnd⟩ := HEB.out.at_.node hm
    have k0 := hnd.c0
    have k4 := hnd.c4
    rw [ptr_some hm] at HN
    by_cases h1 : x.kind = 1
    · have HR := Lib.hid (HRE.out.trans (if_pos h1))
      rw [h1] at k0
      clear hx hp hnd hm hme h1
      go_wp2_with (go_at_call 124; refine HN.out.mono ?_; rintro e' w1 ⟨rfl, rfl⟩)
      go_ret
      exact ⟨by rw [HR.out]; rfl, HB0.out, by rw [HR.out]; exact fun h => absurd h (by decide)⟩
    · have hk1 : (x.kind == 1) = false := beq_eq_false_iff_ne.2 h1
      by_cases h2 : x.parent < 0
      · have HR := Lib.hid ((HRE.out.trans (if_neg h1)).trans (if_pos h2))
        clear hx hp hnd hm hme h1
        go_wp2_with (go_at_call 124; refine HN.out.mono ?_; rintro e' w1 ⟨rfl, rfl⟩)
        go_ret
        exact ⟨by rw [HR.out]; rfl, HB0.out, by rw [HR.out]; exact fun h => absurd h (by decide)⟩
      · have hR0 := (HRE.out.trans (if_neg h1)).trans (if_neg h2)
        obtain ⟨m', pp, i, x', y, hme', hr⟩ := remErr_iff HGD.out hR0
        have : m' = m := by omega
        subst this
        have hx' := hr.hx
        rw [hm] at hx'
        obtain rfl := Option.some.inj hx'
        obtain ⟨py, hpy, hndy⟩ := HEB.out.at_.node hr.hy
        have HR := Lib.hid hR0
        have HDO := Lib.hid hr.do_
        have HME := Lib.hid hme
        have hil := (List.getElem?_eq_some_iff.1 hr.at_).1
        obtain ⟨A1, c1, hp1, sl1⟩ := OwnF.sl hndy.parts.kids (by decide) (by have := hndy.parts.ok.kids; show y.kids.length * 8 ≤ _; omega)
        have ho := hndy.parts.kids
        rw [hp1] at ho
        obtain ⟨ga, cells, hA1, hga, hgl, hrow, hcell, hfz⟩ := Own.block ho (by omega)
        subst hA1
        have k5 := hndy.c5
        rw [hp1] at k5
        rw [hr.par] at k4
        have hpl := (List.getElem?_eq_some_iff.1 hr.hy).1
        have j1 : (0 : Int) ≤ (pp : Int) := by omega
        have j2 : (pp : Int) < (l.length : Int) := by omega
        have j3 : ¬ (pp : Int) < 0 := by omega
        have wz : IntKind.i64.wrap ((i : Int) + 1) = (i : Int) + 1 := IntWalk.i64_in _ (by have := hndy.parts.ok.kids; omega)
        have HOY := Lib.hid ho
        have HRM := Lib.hid hr
        have HNY := Lib.hid hndy
        have HND := Lib.hid hnd
        have HP := Lib.hid hp
        have HPY := Lib.hid hpy
        have HP1 := Lib.hid hp1
        have HM := Lib.hid hm
        have HIL := Lib.hid hil
        have HGA := Lib.hid hga
        have HNE := Lib.hid hr.ne
        have HCAP : Hid (l.length ≤ c) := HEB.out.at_.cap
        clear h2 h1 hR0 hr hme' hx' hpy hndy hil hp1 sl1 ho hrow hcell hfz hpl hp hnd hm hx hme
        go_upto_region 8 with (go_at_call 124; refine HN.out.mono ?_; rintro e' w1 ⟨rfl, rfl⟩)
        have hcap := HCAP.out
        go_quiet (fail)
        generalize hw1 : w0.drewN _ = w1
        have hb1 : Below w0.heap.size w0 w1 := by rw [← hw1]; exact below_dN (Below.refl _ _) _
        have HE1 := Lib.hid (HEB.out.next hb1)
        have HN1 := Lib.hid (HND.out.next hb1)
        have HY1 := Lib.hid (HNY.out.next hb1)
        have HBW : Hid (base ≤ w0.heap.size) := Nat.le_trans HEB.out.low (Nat.le_trans HEB.out.le (Nat.le_of_lt HEB.out.lt))
        have HB1 := Lib.hid (HB0.out.trans (hb1.mono HBW.out))
        clear hw1 hb1 hcap c0 k0 k4 k5 e1 hk1 j1 j2 j3 HN
        have e1 := HE1.out.cell 1 (v := .int .i64 e.at_) rfl
        rw [HME.out] at e1
        have k5 := HY1.out.c5
        rw [HP1.out] at k5
        obtain ⟨A1, c2, hp2, sl2⟩ := OwnF.sl HY1.out.parts.kids (by decide) (by have := HY1.out.parts.ok.kids; show y.kids.length * 8 ≤ _; omega)
        rw [HP1.out] at hp2
        simp only [Value.slice.injEq, true_and] at hp2
        obtain ⟨rfl, rfl⟩ := hp2
        have HI := Lib.hid (fun k => quiet_l ((index_int _ _ _ y.kids m' (w1.drewN k) _ (sl_drewN sl2 k)).mono fun _ _ h => ⟨h.1, h.2.symm⟩))
        rw [HRM.out.idx] at HI
        clear sl2
        go_upto_region 9 with fail
        go_quiet ((go_at_call 65; exact HI.out _))
        generalize hw2 : w1.drewN _ = w2
        have hb2 : Below w1.heap.size w1 w2 := by rw [← hw2]; exact below_dN (Below.refl _ _) _
        have HE2 := Lib.hid (HE1.out.next hb2)
        have HN2 := Lib.hid (HN1.out.next hb2)
        have HY2 := Lib.hid (HY1.out.next hb2)
        have HBW1 : Hid (base ≤ w1.heap.size) := Nat.le_trans HE1.out.low (Nat.le_trans HE1.out.le (Nat.le_of_lt HE1.out.lt))
        have HB2 := Lib.hid (HB1.out.trans (hb2.mono HBW1.out))
        clear hw2 hb2 k5 e1 HI
        have k5 := HY2.out.c5
        rw [HP1.out] at k5
        have k4 := HN2.out.c4
        have f4 := HY2.out.free
        have ho1 := HY2.out.parts.kids
        rw [HP1.out] at ho1
        have HDEL := Lib.hid (deleteI ga y.kids.length c1 i y.kids w2 base ho1 HIL.out)
        have hgg : g ≠ ga := fun e' => by
          have h1 := own_ne_block (e' := 3) (by decide) HE2.out.at_.ed.row (own_block_at ho1 rfl).choose_spec
          exact h1 (by rw [e']; rfl)
        have HGG := Lib.hid hgg
        have HLT := Lib.hid HY2.out.lt
        have HK4 := Lib.hid k4
        clear ho1 hgg k4
        go_wp2_with (go_at_call 127; refine HDEL.out.mono ?_; rintro e' w3 ⟨rfl, hown3, hg3⟩; have hbk := hg3.block g HLT.out (fun e' => HGG.out (by simpa using e')); have k53 : w3.cell? ⟨g, pp * 6 + 5, none⟩ = some (.slice (some ⟨ga, 0, none⟩) y.kids.length c1) := cell_same hbk k5; have f43 : ∀ k, w3.frozen? ⟨g, k, none⟩ = false := (fun k => by have := f4 k; unfold World.frozen? at this ⊢; rw [hbk]; exact this); have k43 : (w3.setCell ⟨g, pp * 6 + 5, none⟩ (.slice (some ⟨ga, 0, none⟩) (y.kids.length - 1) c1)).cell? ⟨g, m' * 6 + 4, none⟩ = some (.int .i64 x.parent) := (World.cell?_setCell_other _ _ _ _ (fun e' => by have e'' := congrArg Addr.off e'; simp at e''; omega)).trans (cell_same hbk HK4.out); clear k5 hbk)
        go_ret
        have hlen : (y.kids.eraseIdx i).length = y.kids.length - 1 := by rw [List.length_eraseIdx, if_pos HIL.out]
        have hE3 := HE2.out.at_.kids HRM.out.hy HPY.out (v := .slice (some ⟨ga, 0, none⟩) (y.kids.length - 1) c1) (ks := y.kids.eraseIdx i) (by rw [HP1.out]; exact hg3) (by rw [hlen]; exact hown3) (Or.inl (by rw [HP1.out]; rfl)) (by rw [hlen]; have := HY2.out.parts.ok.kids; omega)
        have hx3 : (l.set pp { y with kids := y.kids.eraseIdx i })[m']? = some x := by rw [List.getElem?_set_ne HRM.out.ne]; exact HM.out
        have hp3 : (ps.set pp (py.1, .slice (some ⟨ga, 0, none⟩) (y.kids.length - 1) c1))[m']? = some p := by rw [List.getElem?_set_ne HRM.out.ne]; exact HP.out
        have hE4 := hE3.plain (y := { x with parent := -1 }) (j := 4) (u := .int .i64 (-1)) hx3 hp3 (by decide) rfl rfl rfl ⟨HND.out.parts.ok.kind, HND.out.parts.ok.name, HND.out.parts.ok.text, (by decide : (Lit.int .i64 (-1)).wf = true), HND.out.parts.ok.attrs, HND.out.parts.ok.kids⟩
        refine ⟨by rw [HR.out]; rfl, ?_, fun _ => ⟨g, c, ps.set pp (py.1, .slice (some ⟨ga, 0, none⟩) (y.kids.length - 1) c1), ?_⟩⟩
        · exact ((HB2.out.grown hg3 (by have := HB2.out.size; have := HE2.out.lt; have := HE2.out.low; have := HE2.out.le; omega) (fun k hk => by simp at hk; have := HGA.out; omega)).setCell (p := ⟨g, pp * 6 + 5, none⟩) HN2.out.low _).setCell (p := ⟨g, m' * 6 + 4, none⟩) HN2.out.low _
        · rw [HME.out, HDO.out]
          exact hE4
end Go.Proofs.YtmemadajjmmlpaaDoor
