/-
The walks of package dom's editor: insert.
-/
import Derived.Test.YtmemadajjmmlpaaDoorEdWalk6
import Derived.Test.YtmemadajjmmlpaaDoorRegionG
import Derived.Test.YtmemadajjmmlpaaDoorOrderLaw
import Derived.Deep.DeepCutAuto
namespace Go.Proofs.YtmemadajjmmlpaaDoor
open Go.RowKit Go.Cl
attribute [local go_sem ↓] Go.wp_at_zero Go.wp_at_succ

/-- A kind that may not be put there. -/
def insKind (x y : Nd) : Prop := parentB x.kind = false ∨ y.kind = 1 ∨ (x.kind = 1 ∧ y.kind = 3)
def insKB (x y : Nd) : Bool := parentB x.kind == false || y.kind == 1 || (x.kind == 1 && y.kind == 3)
theorem insKB_iff {x y : Nd} : insKB x y = true ↔ insKind x y := by
  unfold insKB insKind
  simp [or_assoc]
instance (x y : Nd) : Decidable (insKind x y) := inferInstanceAs (Decidable (_ ∨ _ ∨ _ ∧ _))
theorem insErr_both {l : List Nd} {m t : Nat} {x y : Nd} {before : Int} (hx : l[m]? = some x) (hy : l[t]? = some y) : insErr l m t before =
    if insKind x y then 7 else if 0 ≤ y.parent then 9 else if insAt x.kids before < 0 then 5 else if belowB l m t = true then 8 else if 40 < upN l m + 1 + deepR l t then 2 else 0 := by
  unfold insErr
  rw [nodeAt_nat, nodeAt_nat, hx, hy]
  rfl
theorem insAt_le (ks : List Int) (b : Int) : insAt ks b ≤ ks.length := by
  unfold insAt
  by_cases h : b = -1
  · rw [if_pos h]; omega
  · rw [if_neg h]
    by_cases hm : b ∈ ks
    · obtain ⟨i, hi, hx, _⟩ := idx_of_mem hm
      have := (List.getElem?_eq_some_iff.1 hx).1
      omega
    · have h2 : Lib.idxOf ks b = -1 := Lib.idxFrom_miss b ks 0 fun j hj e => hm (by rw [← e]; rw [List.getD_eq_getElem?_getD, List.getElem?_eq_getElem hj]; exact List.getElem_mem hj)
      omega
theorem Good.kids_few {l : List Nd} (h : Good l) {m : Nat} {x : Nd} (hx : l[m]? = some x) : x.kids.length ≤ 200 := by
  obtain ⟨hn, hk⟩ := h.kr.kids m x hx
  have h1 := few_nats l.length x.kids (fun i j z hij hi hj => by
    have hil := (List.getElem?_eq_some_iff.1 hi)
    have hjl := (List.getElem?_eq_some_iff.1 hj)
    exact List.pairwise_iff_getElem.1 hn i j hil.1 hjl.1 hij (by rw [hil.2, hjl.2])) (fun z hz => by
    obtain ⟨n, y, e, hy, _⟩ := hk z hz
    exact ⟨n, e, (List.getElem?_eq_some_iff.1 hy).1⟩)
  exact Nat.le_trans h1 h.small
set_option maxRecDepth 100000 in
set_option maxHeartbeats 8000000 in
theorem insert_any (w : World) (E g c base : Nat) (l : List Nd) (q : Bool) (made : Int) (ps : List (Value × Value)) (e : Edt) (Aa : Option Addr) (na ca : Nat) (Ak : Option Addr) (nk ck : Nat) (h : EdAt w E g c base l q made ps) (hg : Good l) :
    Calls Tryd.prog 106 #[.pointer (some ⟨E, 0, none⟩), .agg (edtCells e Aa na ca Ak nk ck)] w (EdPost E base q (insErr l e.at_ e.to_ e.before) (insDo l e.at_ e.to_ e.before) made w) := by
  obtain ⟨w0, hw0⟩ : ∃ w0, w0 = w.alloc (.cells (edtCells e Aa na ca Ak nk ck) 59) := ⟨_, rfl⟩
  have hk := eb_of h (edtCells e Aa na ca Ak nk ck)
  rw [← hw0] at hk
  obtain ⟨hEB, hb0⟩ := hk
  have e1 := hEB.cell 1 (v := .int .i64 e.at_) rfl
  have e2 := hEB.cell 2 (v := .int .i64 e.to_) rfl
  have HB0 := Lib.hid hb0
  have HEB := Lib.hid hEB
  have HN := Lib.hid (fun k n => quiet_l (node_any (w0.drewN k) E g c base l q made ps n (hEB.at_.drewN k)))
  have HGD := Lib.hid hg
  have HBW : Hid (base ≤ w0.heap.size) := Nat.le_trans hEB.low (Nat.le_trans hEB.le (Nat.le_of_lt hEB.lt))
  have HC1 := Lib.hid (show (edtCells e Aa na ca Ak nk ck)[1]? = some (.int .i64 e.at_) from rfl)
  have HC2 := Lib.hid (show (edtCells e Aa na ca Ak nk ck)[2]? = some (.int .i64 e.to_) from rfl)
  have HC3 := Lib.hid (show (edtCells e Aa na ca Ak nk ck)[3]? = some (.int .i64 e.before) from rfl)
  clear h hb0 hEB hg
  go_enter Tryd.func106, Tryd.ntmps106
  generalize edtCells e Aa na ca Ak nk ck = cells at *
  go_upto_region 1 with fail
  rw [← hw0]
  clear hw0
  go_quiet ((go_at_call 124; exact HN.out _ _))
  generalize hw1 : w0.drewN _ = w1
  have hb1 : Below w0.heap.size w0 w1 := by rw [← hw1]; exact below_dN (Below.refl _ _) _
  have HE1 := Lib.hid (HEB.out.next hb1)
  have HB1 := Lib.hid (HB0.out.trans (hb1.mono HBW.out))
  clear hw1 hb1 e1 e2 HN HB0 HEB
  cases hx : nodeAt l e.at_ with
  | none =>
    have HR := Lib.hid (show insErr l e.at_ e.to_ e.before = 5 from by unfold insErr; rw [hx])
    rw [ptr_none hx]
    generalize ptrN g l e.to_ = v2
    clear hx
    go_wp2_with fail
    go_ret
    exact ⟨by rw [HR.out]; rfl, HB1.out, by rw [HR.out]; exact fun h => absurd h (by decide)⟩
  | some x =>
    obtain ⟨m, hme, hm⟩ := nodeAt_some hx
    cases hy : nodeAt l e.to_ with
    | none =>
      have HR := Lib.hid (show insErr l e.at_ e.to_ e.before = 5 from by unfold insErr; rw [hx, hy])
      have p1 : ptrN g l e.at_ = .pointer (some ⟨g, m * 6, none⟩) := by rw [hme]; exact ptr_some hm
      rw [p1, ptr_none hy]
      clear p1
      clear hx hy hme hm
      go_wp2_with fail
      go_ret
      exact ⟨by rw [HR.out]; rfl, HB1.out, by rw [HR.out]; exact fun h => absurd h (by decide)⟩
    | some y =>
      obtain ⟨t, hte, ht⟩ := nodeAt_some hy
      have p1 : ptrN g l e.at_ = .pointer (some ⟨g, m * 6, none⟩) := by rw [hme]; exact ptr_some hm
      have p2 : ptrN g l e.to_ = .pointer (some ⟨g, t * 6, none⟩) := by rw [hte]; exact ptr_some ht
      rw [p1, p2]
      rw [hme] at HC1
      rw [hte] at HC2
      have HRE := Lib.hid ((show insErr l e.at_ e.to_ e.before = insErr l m t e.before from by rw [hme, hte]).trans (insErr_both (before := e.before) hm ht))
      have HME := Lib.hid hme
      have HTE := Lib.hid hte
      clear p1 p2
      obtain ⟨px, hpx, hndx⟩ := HE1.out.at_.node hm
      obtain ⟨py, hpy, hndy⟩ := HE1.out.at_.node ht
      have HNX := Lib.hid hndx
      have HNY := Lib.hid hndy
      have HM := Lib.hid hm
      have HT := Lib.hid ht
      have HPX := Lib.hid hpx
      have HPY := Lib.hid hpy
      have k0 := hndx.c0
      have y0 := hndy.c0
      have HPB := Lib.hid (parentB_any x.kind)
      clear hx hy hme hte hm ht hpx hpy hndx hndy
      go_upto_region 4 with fail
      go_cut [23] (fun b wx => b = .bool (insKB x y) ∧ w1 = wx)
      case first =>
        by_cases h1 : parentB x.kind = false
        · have HK := Lib.hid ((insKB_iff (x := x) (y := y)).2 (Or.inl h1))
          rw [h1] at HPB
          clear h1
          go_wp2_with (go_at_call 108; refine (HPB.out _).mono ?_; rintro e' w2 ⟨rfl, rfl⟩)
          go_meet
          case rel => exact ⟨by rw [HK.out], rfl⟩
        · have hpb : parentB x.kind = true := by simpa using h1
          rw [hpb] at HPB
          by_cases h2 : y.kind = 1
          · have HK := Lib.hid ((insKB_iff (x := x) (y := y)).2 (Or.inr (Or.inl h2)))
            rw [h2] at y0
            clear h1 h2 hpb
            go_wp2_with (go_at_call 108; refine (HPB.out _).mono ?_; rintro e' w2 ⟨rfl, rfl⟩)
            go_meet
            case rel => exact ⟨by rw [HK.out], rfl⟩
          · have y1 : (y.kind == 1) = false := beq_eq_false_iff_ne.2 h2
            by_cases h3 : x.kind = 1
            · by_cases h4 : y.kind = 3
              · have HK := Lib.hid ((insKB_iff (x := x) (y := y)).2 (Or.inr (Or.inr ⟨h3, h4⟩)))
                rw [h3] at k0 HPB
                rw [h4] at y0
                clear h1 h2 h3 h4 hpb y1
                go_wp2_with (go_at_call 108; refine (HPB.out _).mono ?_; rintro e' w2 ⟨rfl, rfl⟩)
                go_meet
                case rel => exact ⟨by rw [HK.out], rfl⟩
              · have HK := Lib.hid (Bool.eq_false_iff.2 (fun hh => by rcases insKB_iff.1 hh with (a | a | a); exact h1 a; exact h2 a; exact h4 a.2))
                rw [h3] at k0 HPB
                have y3 : (y.kind == 3) = false := beq_eq_false_iff_ne.2 h4
                clear h1 h2 h3 h4 hpb
                go_wp2_with (go_at_call 108; refine (HPB.out _).mono ?_; rintro e' w2 ⟨rfl, rfl⟩)
                go_meet
                case rel => exact ⟨by rw [HK.out], rfl⟩
            · have HK := Lib.hid (Bool.eq_false_iff.2 (fun hh => by rcases insKB_iff.1 hh with (a | a | a); exact h1 a; exact h2 a; exact h3 a.1))
              have x1 : (x.kind == 1) = false := beq_eq_false_iff_ne.2 h3
              clear h1 h2 h3 hpb
              go_wp2_with (go_at_call 108; refine (HPB.out _).mono ?_; rintro e' w2 ⟨rfl, rfl⟩)
              go_meet
              case rel => exact ⟨by rw [HK.out], rfl⟩
      case rest =>
        obtain ⟨rfl, rfl⟩ := hcut
        by_cases hA : insKind x y
        · have HR := Lib.hid (HRE.out.trans (if_pos hA))
          have hd : insKB x y = true := insKB_iff.2 hA
          rw [hd]
          clear hA hd
          go_wp2_with fail
          go_ret
          exact ⟨by rw [HR.out]; rfl, HB1.out, by rw [HR.out]; exact fun h => absurd h (by decide)⟩
        have HR1 := Lib.hid (HRE.out.trans (if_neg hA))
        have hd : insKB x y = false := Bool.eq_false_iff.2 fun hh => hA (insKB_iff.1 hh)
        rw [hd]
        have HA := Lib.hid hA
        have y4 := HNY.out.c4
        clear hA hd k0 y0 HPB HRE
        by_cases hP : 0 ≤ y.parent
        · have HR := Lib.hid (HR1.out.trans (if_pos hP))
          go_wp2_with fail
          go_ret
          exact ⟨by rw [HR.out]; rfl, HB1.out, by rw [HR.out]; exact fun h => absurd h (by decide)⟩
        have HR2 := Lib.hid (HR1.out.trans (if_neg hP))
        have HPN := Lib.hid hP
        have x5 := HNX.out.c5
        obtain ⟨A1, c1, hp1, sl1⟩ := OwnF.sl HNX.out.parts.kids (by decide) (by have := HNX.out.parts.ok.kids; show x.kids.length * 8 ≤ _; omega)
        rw [hp1] at x5
        have e3 := HE1.out.cell 3 HC3.out
        have HP1 := Lib.hid hp1
        have HI := Lib.hid (fun k => quiet_l ((index_int _ _ _ x.kids e.before (w1.drewN k) _ (sl_drewN sl1 k)).mono fun _ _ h => ⟨h.1, h.2.symm⟩))
        have hck := sl1.hc
        have hkl : x.kids.length ≤ 200 := HGD.out.kids_few HM.out
        clear hp1 sl1 HR1
        go_upto_if 64 with fail
        go_cut [7] (fun i wx => i = .int .i64 (insAt x.kids e.before) ∧ ∃ q, wx = w1.drewN q)
        case first =>
          by_cases hbf : e.before = -1
          · have HII := Lib.hid (show insAt x.kids e.before = (x.kids.length : Int) from by unfold insAt; rw [if_pos hbf])
            have hb' : (e.before != -1) = false := by simpa using hbf
            clear hbf
            go_wp2_with fail
            go_meet
            case rel => exact ⟨by rw [HII.out], 0, rfl⟩
          · have HII := Lib.hid (show insAt x.kids e.before = Lib.idxOf x.kids e.before from by unfold insAt; rw [if_neg hbf])
            have hb' : (e.before != -1) = true := by simpa using hbf
            clear hbf
            go_upto_region 10 with fail
            go_quiet ((go_at_call 65; exact HI.out _))
            go_wp2_with fail
            go_meet
            case rel => exact ⟨by rw [HII.out], _, rfl⟩
        case rest =>
        obtain ⟨rfl, q1, hw2⟩ := hcut
        have hb2 : Below w1.heap.size w1 wc := by rw [hw2]; exact below_dN (Below.refl _ _) _
        have HE2 := Lib.hid (HE1.out.next hb2)
        have HBW1 : Hid (base ≤ w1.heap.size) := Nat.le_trans HE1.out.low (Nat.le_trans HE1.out.le (Nat.le_of_lt HE1.out.lt))
        have HB2 := Lib.hid (HB1.out.trans (hb2.mono HBW1.out))
        have HNX2 := Lib.hid (HNX.out.next hb2)
        have HNY2 := Lib.hid (HNY.out.next hb2)
        clear hw2 hb2 x5 e3 y4 HI HB1 HBW1 hck HC3
        by_cases hI : insAt x.kids e.before < 0
        · have HR := Lib.hid (HR2.out.trans (if_pos hI))
          go_wp2_with fail
          go_ret
          exact ⟨by rw [HR.out]; rfl, HB2.out, by rw [HR.out]; exact fun h => absurd h (by decide)⟩
        have HR3 := Lib.hid (HR2.out.trans (if_neg hI))
        obtain ⟨i, hi⟩ : ∃ i : Nat, insAt x.kids e.before = (i : Int) := ⟨(insAt x.kids e.before).toNat, by omega⟩
        have hil : i ≤ x.kids.length := by have := insAt_le x.kids e.before; omega
        have HII := Lib.hid hi
        rw [hi]
        have e1 := HE2.out.cell 1 HC1.out
        have e2 := HE2.out.cell 2 HC2.out
        have TR := tree_of (check_of HGD.out)
        have hml := (List.getElem?_eq_some_iff.1 HM.out).1
        have htl := (List.getElem?_eq_some_iff.1 HT.out).1
        have HBE := Lib.hid (below_any wc E g c base l q made ps m t HE2.out.at_ TR hml)
        have i0 : ¬ (i : Int) < 0 := by omega
        clear hI hi HR2
        by_cases hbl : belowB l m t = true
        · have HR := Lib.hid (HR3.out.trans (if_pos hbl))
          rw [hbl] at HBE
          clear hbl TR hml htl
          go_wp2_with (go_at_call 125; refine HBE.out.mono ?_; rintro e' w2 ⟨rfl, rfl⟩)
          go_ret
          exact ⟨by rw [HR.out]; rfl, HB2.out, by rw [HR.out]; exact fun h => absurd h (by decide)⟩
        have HR4 := Lib.hid (HR3.out.trans (if_neg hbl))
        have hbl' : belowB l m t = false := by simpa using hbl
        have HBL := Lib.hid hbl'
        rw [hbl'] at HBE
        have hU := (TR.deep m hml).1
        have hU2 := (TR.deep t htl).1
        have hD := deepF_le l (41 - upN l t) t
        have HTR := Lib.hid TR
        have HUP := Lib.hid (up_any (some ⟨g, 0, none⟩) l.length c l q m wc.drew _ HE2.out.at_.drew.ed.sl (Nat.le_refl _) TR.small hml (fun x hx => by
          obtain ⟨j, hj⟩ := List.mem_iff_getElem?.1 hx
          have h1 := TR.kr.parent_lt x hx
          rcases h1 with h1 | ⟨j, y, h1, hy⟩
          · have := TR.pos; omega
          · have := (List.getElem?_eq_some_iff.1 hy).1; omega))
        have HTL := Lib.hid htl
        clear hbl hbl' HR3 TR hml htl
        go_upto_region 15 with (go_at_call 125; refine HBE.out.mono ?_; rintro e' w2 ⟨rfl, rfl⟩)
        have HDR : Hid (deepR l t = deepF l (41 - upN l t) t) := rfl
        have HDP := Lib.hid (fun W (hE : EdAt W E g c base l q made ps) => deep_any E g c base l q made ps HTR.out (41 - upN l t) t W hE HTL.out (by have := (HTR.out.deep t HTL.out).1; omega))
        generalize hUm : upN l m = U at *
        generalize deepF l (41 - upN l t) t = D at *
        have s0 := HE2.out.at_.c0
        have s1 := HE2.out.at_.c1
        have hD41 : D ≤ 41 := by omega
        have wz1 : IntKind.i64.wrap ((U : Int) + 1) = (U : Int) + 1 := IntWalk.i64_in _ (by omega)
        have wz2 : IntKind.i64.wrap ((U : Int) + 1 + (D : Int)) = (U : Int) + 1 + (D : Int) := IntWalk.i64_in _ (by omega)
        go_region_held3 (fun w' => w'.cell? ⟨E, 0, none⟩ = some (.slice (some ⟨g, 0, none⟩) l.length c) ∧ w'.cell? ⟨E, 1, none⟩ = some (.bool q) ∧ w'.cell? ⟨w.heap.size, 1, none⟩ = some (.int .i64 m) ∧ w'.cell? ⟨w.heap.size, 2, none⟩ = some (.int .i64 t)) (first | exact ⟨s0, s1, e1, e2⟩ | exact ⟨t0, t1, t2, t3⟩)
            (first
              | (go_at_call 55; refine HUP.out.mono ?_; rintro e' w3 ⟨rfl, hb3⟩; have hb30 : Below wc.heap.size wc w3 := ((Below.refl _ wc).drew).trans hb3; have t0 := cell_be s0 hb30; have t1 := cell_be s1 hb30; have t2 := cell_be e1 hb30; have t3 := cell_be e2 hb30)
              | (go_at_call 126; refine (HDP.out w3 (HE2.out.at_.next hb30)).mono ?_; rintro e' w4 ⟨rfl, rfl⟩)
              | fail)
        have HUM := Lib.hid hUm
        have HE3 := Lib.hid (HE2.out.next hb30)
        have HBW2 : Hid (base ≤ wc.heap.size) := Nat.le_trans HE2.out.low (Nat.le_trans HE2.out.le (Nat.le_of_lt HE2.out.lt))
        have HB3 := Lib.hid (HB2.out.trans (hb30.mono HBW2.out))
        have HNX3 := Lib.hid (HNX2.out.next hb30)
        clear hUm s0 s1 t0 t1 t2 t3 e1 e2 hb3 hb30 HUP HDP HBE wz1 wz2 HB2
        by_cases hF : 40 < U + 1 + D
        · have HR := Lib.hid (HR4.out.trans (if_pos (by rw [HDR.out]; exact hF)))
          rw [show decide ((40 : Int) < (U : Int) + 1 + (D : Int)) = true from decide_eq_true (by omega)]
          clear hF
          go_wp2_with fail
          go_ret
          exact ⟨by rw [HR.out]; rfl, HB3.out, by rw [HR.out]; exact fun h => absurd h (by decide)⟩
        have HR := Lib.hid (HR4.out.trans (if_neg (by rw [HDR.out]; exact hF)))
        rw [show decide ((40 : Int) < (U : Int) + 1 + (D : Int)) = false from decide_eq_false (by omega)]
        have HIO : Hid (InsOk l m t x y e.before) := ⟨HM.out, HT.out, by
          cases hb : parentB x.kind with
          | true => rfl
          | false => exact absurd (Or.inl hb) HA.out, fun h => HA.out (Or.inr (Or.inl h)), fun h => HA.out (Or.inr (Or.inr h)), by have := HPN.out; omega, by rw [HII.out]; omega, HBL.out, by rw [HUM.out, HDR.out]; omega⟩
        have hown3 := HNX3.out.parts.kids
        have x5 := HNX3.out.c5
        rw [HP1.out] at hown3 x5
        have e2 := HE3.out.cell 2 HC2.out
        have hbs3 : base ≤ w3.heap.size := Nat.le_trans HE3.out.low (Nat.le_trans HE3.out.le (Nat.le_of_lt HE3.out.lt))
        have htw : (Lit.int .i64 (t : Int)).wf = true := WalkArith.wf_i64 (by have := HTL.out; have := HTR.out.small; omega)
        have HINS := Lib.hid (insertI A1 x.kids.length c1 i x.kids t w3.heap.size (w3.drew.alloc (.cells #[.int .i64 (t : Int)] 3)) base ((OwnF.drew hown3).al _) hil (by omega) (Nat.le_trans hbs3 (by simp)) htw (heap_alloc_new w3.drew _) (fun h => by have := (Own.lt hown3 _ h).2; omega))
        have hgi : g ≠ w.heap.size := by have := HE3.out.lt; have := HE3.out.le; intro h; exact own_ne_block (by decide) HE3.out.at_.ed.row HE3.out.box (by rw [h]; rfl)
        have hgo : (Value.slice A1 x.kids.length c1).ownBlock ≠ some g := fun h => by
          obtain ⟨cur, hcur⟩ := own_block_at HE3.out.at_.ed.row (rfl : (Value.slice (some ⟨g, 0, none⟩) l.length c).ownBlock = some g)
          exact own_ne_block (by decide) hown3 hcur h
        have hbo : (Value.slice A1 x.kids.length c1).ownBlock ≠ some w.heap.size := own_ne_block (by decide) hown3 HE3.out.box
        have HGO := Lib.hid hgo
        have HBO := Lib.hid hbo
        have HBS := Lib.hid hbs3
        have HTW := Lib.hid htw
        have HGL := Lib.hid HNX3.out.lt
        have HOWN3 := Lib.hid hown3
        clear hF hown3 hbs3 htw hgi hgo hbo hU hU2 hD hD41 HR4
        go_upto_region 17 with fail
        refine wp_region_G (S := (fun w' : World => w'.cell? ⟨g, m * 6 + 5, none⟩ = some (.slice A1 x.kids.length c1) ∧ w'.cell? ⟨w.heap.size, 2, none⟩ = some (.int .i64 t))) (T := [12]) (by kernel_rfl) ?_
        have hS : (fun w' : World => w'.cell? ⟨g, m * 6 + 5, none⟩ = some (.slice A1 x.kids.length c1) ∧ w'.cell? ⟨w.heap.size, 2, none⟩ = some (.int .i64 t)) w3.drew := ⟨x5, e2⟩
        refine wpAnyG_take (i := 0) (v := ?_) rfl (by kernel_rfl) (by kernel_rfl) (by kernel_rfl) (by kernel_rfl) (fun _ _ _ h => h) hS rfl ?_ ?_
        rotate_left
        · intro w' hSw
          (try dsimp only at hSw)
          first | (go_simp; done) | (go_simp; with_reducible rfl)
        refine wpAnyG_take (i := 1) (v := ?_) rfl (by kernel_rfl) (by kernel_rfl) (by kernel_rfl) (by kernel_rfl) (fun _ _ _ h => h) hS rfl ?_ ?_
        rotate_left
        · intro w' hSw
          (try dsimp only at hSw)
          first | (go_simp; done) | (go_simp; with_reducible rfl)
        refine wpAnyG_take (i := 2) (v := ?_) rfl (by kernel_rfl) (by kernel_rfl) (by kernel_rfl) (by kernel_rfl) (fun _ _ _ h => h) hS rfl ?_ ?_
        rotate_left
        · intro w' hSw
          (try dsimp only at hSw)
          first | (go_simp; done) | (go_simp; with_reducible rfl)
        refine wpAnyG_take (i := 3) (v := ?_) rfl (by kernel_rfl) (by kernel_rfl) (by kernel_rfl) (by kernel_rfl) (fun _ _ _ h => h) hS rfl ?_ ?_
        rotate_left
        · intro w' hSw
          (try dsimp only at hSw)
          first | (go_simp; done) | (go_simp; with_reducible rfl)
        refine wpAnyG_take (i := 4) (v := ?_) rfl (by kernel_rfl) (by kernel_rfl) (by kernel_rfl) (by kernel_rfl) (fun _ _ _ h => h) hS rfl ?_ ?_
        rotate_left
        · intro w' hSw
          (try dsimp only at hSw)
          first | (go_simp; done) | (go_simp; with_reducible rfl)
        refine wpAnyG_take (i := 5) (v := ?_) rfl (by kernel_rfl) (by kernel_rfl) (by kernel_rfl) (by kernel_rfl) (fun _ _ _ h => h) hS rfl ?_ ?_
        rotate_left
        · intro w' hSw
          (try dsimp only at hSw)
          first | (go_simp; done) | (go_simp; with_reducible rfl)
        refine wpAnyG_take (i := 6) (v := ?_) rfl (by kernel_rfl) (by kernel_rfl) (by kernel_rfl) (by kernel_rfl) (fun _ _ _ h => h) hS rfl ?_ ?_
        rotate_left
        · intro w' hSw
          (try dsimp only at hSw)
          first | (go_simp; done) | (go_simp; with_reducible rfl)
        refine wpAnyG_take (i := 7) (v := ?_) rfl (by kernel_rfl) (by kernel_rfl) (by kernel_rfl) (by kernel_rfl) (fun _ _ _ h => h) hS rfl ?_ ?_
        rotate_left
        · intro w' hSw
          (try dsimp only at hSw)
          first | (go_simp; done) | (go_simp; with_reducible rfl)
        refine wpAnyG_one (i := 8) (by kernel_rfl) rfl rfl (fun K hK => ?_)
        go_simp
        refine hK.out _ _ (fun _ _ => ⟨cell_al (w := w3.drew) x5 _, cell_al (w := w3.drew) e2 _⟩) ?_
        clear hK K hS
        refine wpAnyG_one (i := 9) (by kernel_rfl) rfl rfl (fun K hK => ?_)
        go_simp
        go_at_call 97
        refine HINS.out.mono ?_
        rintro e' w4 ⟨v', rfl, hown4, hg4, hv4⟩
        obtain ⟨A5, c5, rfl⟩ := Own.form hown4
        have hg34 : w3.grownBy w4 (Value.slice A1 x.kids.length c1).ownBlock := grownBy.trans' (grownBy.trans' (grown_drew w3 _) (grown_al _ _ _)) hg4
        have hbg := hg34.block g HGL.out (fun h => HGO.out h.symm)
        have hbe := hg34.block w.heap.size HE3.out.lt (fun h => HBO.out h.symm)
        have x54 := cell_same hbg x5
        have e24 := cell_same hbe e2
        go_wp2_with fail
        refine hK.out _ _ (fun _ _ => ⟨x54, e24⟩) ?_
        clear hK K
        have hS : (fun w' : World => w'.cell? ⟨g, m * 6 + 5, none⟩ = some (.slice A1 x.kids.length c1) ∧ w'.cell? ⟨w.heap.size, 2, none⟩ = some (.int .i64 t)) w4 := ⟨x54, e24⟩
        have HE4 := Lib.hid (HE3.out.at_.kids HM.out HPX.out (w1 := w4) (v := .slice A5 (x.kids.length + 1) c5) (ks := x.kids.take i ++ (t : Int) :: x.kids.drop i) (by rw [HP1.out]; exact hg34) (by
          have hl : (x.kids.take i ++ (t : Int) :: x.kids.drop i).length = x.kids.length + 1 := by
            rw [List.perm_middle.length_eq, List.take_append_drop, List.length_cons]
          rw [hl]; exact hown4) (by
          rw [HP1.out]
          rcases hv4 with h | h
          · exact Or.inl h
          · exact Or.inr ⟨_, h, by simp⟩) (by
          rw [List.perm_middle.length_eq, List.take_append_drop, List.length_cons]
          omega))
        have HB4 := Lib.hid (HB3.out.grown hg34 (by have := HBS.out; have := HB3.out.size; omega) (fun k hk => (Own.lt HOWN3.out k hk).1))
        have f4 : w4.frozen? ⟨g, m * 6 + 5, none⟩ = false := by
          have := HNX3.out.free (m * 6 + 5)
          unfold World.frozen? at this ⊢
          rw [hbg]
          exact this
        clear hg34 hg4 hbg hown4 hv4 HINS x5 e2
        refine wpAnyG_one (i := 10) (by kernel_rfl) rfl rfl (fun K hK => ?_)
        go_simp
        refine hK.out _ _ (fun _ h => h) ?_
        clear hK K
        refine wpAnyG_one (i := 11) (by kernel_rfl) rfl rfl (fun K hK => ?_)
        go_simp
        refine hK.out _ _ (fun _ h => h) ?_
        clear hK K
        refine wpAnyG_one (i := 12) (by kernel_rfl) rfl rfl (fun K hK => ?_)
        go_simp
        refine hK.out _ _ (fun h => absurd (by decide) h) ?_
        clear hK K hS
        refine wpAnyG_done (by kernel_rfl) ?_ _
        obtain ⟨w5, hw5⟩ : ∃ w5, w5 = w4.setCell ⟨g, m * 6 + 5, none⟩ (.slice A5 (x.kids.length + 1) c5) := ⟨_, rfl⟩
        rw [← hw5]
        have HE5 := Lib.hid HE4.out
        rw [← hw5] at HE5
        have HB5 := Lib.hid (HB4.out.setCell (p := ⟨g, m * 6 + 5, none⟩) HNX3.out.low (.slice A5 (x.kids.length + 1) c5))
        rw [← hw5] at HB5
        have hbx5 : w5.heap[w.heap.size]? = some (.cells cells 59 (0, 0)) := by
          rw [hw5]
          refine (Below.heap_setCell _ _ _ _ (fun h => ?_)).trans (hbe.trans HE3.out.box)
          exact own_ne_block (by decide) HE3.out.at_.ed.row HE3.out.box (by rw [h]; rfl)
        have e1 : w5.cell? ⟨w.heap.size, 1, none⟩ = some (.int .i64 m) := cell_blk hbx5 HC1.out
        have hne := HIO.out.ne
        have ht5 : (l.set m { x with kids := x.kids.take i ++ (t : Int) :: x.kids.drop i })[t]? = some y := by rw [List.getElem?_set_ne hne]; exact HT.out
        have hp5 : (ps.set m (px.1, .slice A5 (x.kids.length + 1) c5))[t]? = some py := by rw [List.getElem?_set_ne hne]; exact HPY.out
        obtain ⟨p', hp', hnd5⟩ := HE5.out.node ht5
        have HT5 := Lib.hid ht5
        have HP5 := Lib.hid hp5
        have y4 := hnd5.c4
        have f5 := hnd5.free (t * 6 + 4)
        have HOK5 := Lib.hid hnd5.parts.ok
        have hmw : (Lit.int .i64 (m : Int)).wf = true := WalkArith.wf_i64 (by have := (List.getElem?_eq_some_iff.1 HM.out).1; have := HTR.out.small; omega)
        have HMW := Lib.hid hmw
        clear hw5 hbx5 hne ht5 hp5 hp' hnd5 hmw x54 e24 f4 hbe
        go_wp2_with fail
        go_ret
        have hE6 := HE5.out.plain (y := { y with parent := (m : Int) }) (j := 4) (u := .int .i64 m) HT5.out HP5.out (by decide) rfl rfl rfl ⟨HOK5.out.kind, HOK5.out.name, HOK5.out.text, HMW.out, HOK5.out.attrs, HOK5.out.kids⟩
        refine ⟨by rw [HR.out]; rfl, HB5.out.setCell (p := ⟨g, t * 6 + 4, none⟩) HNX3.out.low _, fun _ => ⟨g, c, ps.set m (px.1, .slice A5 (x.kids.length + 1) c5), ?_⟩⟩
        rw [HME.out, HTE.out, HIO.out.do_, HII.out]
        exact hE6
end Go.Proofs.YtmemadajjmmlpaaDoor
