/-
The walks of package dom's editor: attr.
-/
import Derived.Test.YtmemadajjmmlpaaDoorEdWalk2
namespace Go.Proofs.YtmemadajjmmlpaaDoor
open Go.RowKit Go.Cl
attribute [local go_sem ↓] Go.wp_at_zero Go.wp_at_succ

/-- An attribute's value is set in place. -/
theorem EdAt.value {w : World} {E g c base : Nat} {l : List Nd} {q : Bool} {made : Int} {ps : List (Value × Value)} (h : EdAt w E g c base l q made ps) {m i ga n c1 : Nat} {x : Nd} {p : Value × Value} {a : DAttr} {v : ByteArray} (hx : l[m]? = some x) (hp : ps[m]? = some p) (ha : x.attrs[i]? = some a)
    (hpa : p.1 = .slice (some ⟨ga, 0, none⟩) n c1) (hv : v.size ≤ 1152921504606846976) : EdAt (w.setCell ⟨ga, i * 2 + 1, none⟩ (.string v)) E g c base (l.set m { x with attrs := x.attrs.set i (a.1, v) }) q made ps := by
  have hP := h.ed.parts m x p hx hp
  have ho := hP.attrs
  rw [hpa] at ho
  have hn : n = x.attrs.length := by
    obtain ⟨_, h3, _⟩ := ho
    rcases h3.2 with ⟨hv, _⟩ | ⟨g', cap, cur, hv, _⟩
    · cases hv
    · injection hv
  subst hn
  have hst : Own tDA (w.setCell ⟨ga, i * 2 + 1, none⟩ (.string v)) base 91 (fun _ => False) (.slice (some ⟨ga, 0, none⟩) x.attrs.length c1) x.attrs.length (x.attrs.set i (a.1, v)) :=
    Own.stored (T := tDA) ho (fun _ h => h.elim) ha (j := 1) (by decide) (fun cs hcs => by
      obtain ⟨_, _, rfl, ⟨rfl, h1⟩, rfl, h2⟩ := hcs
      exact ⟨[.string a.1], [.string v], rfl, ⟨rfl, h1⟩, rfl, hv⟩)
  have hls : (x.attrs.set i (a.1, v)).length = x.attrs.length := by rw [List.length_set]
  refine h.attrs0 hx hp (by rw [hpa]; exact grown_set w ga (i * 2 + 1) (.string v)) (by rw [hls, hpa]; exact hst) (by rw [hls]; exact hP.ok.attrs)
theorem set_last {α : Type} (l : List α) (a b : α) : (l ++ [a]).set l.length b = l ++ [b] := by
  rw [List.set_append, if_neg (by omega), Nat.sub_self]
  rfl
theorem app_last {α : Type} (l : List α) (a : α) : (l ++ [a])[l.length]? = some a := by
  rw [List.getElem?_append_right (Nat.le_refl _), Nat.sub_self]
  rfl

theorem elemDA2 : ElemOf Tryd.prog 32 91 tDA.size 32 := elemDA
/-- What is of another type than a row stays, whatever the row becomes. -/
theorem keep_block {α : Type} {T : Ty α} {w w' : World} {base : Nat} {e e' : TypeId} {v : Value} {n k : Nat} {xs : List α} {cs : Array Value} {fr : Nat × Nat} (h : OwnF T w base e v n xs) (hg : w.grownBy w' v.ownBlock) (he : e ≠ e') (hk : w.heap[k]? = some (.cells cs e' fr)) : w'.heap[k]? = some (.cells cs e' fr) :=
  (hg.block k (Array.getElem?_eq_some_iff.1 hk).1 (fun e2 => own_ne_block he h hk e2.symm)).trans hk

theorem cell_same {w w' : World} {g i : Nat} {v : Value} (h : w'.heap[g]? = w.heap[g]?) (hv : w.cell? ⟨g, i, none⟩ = some v) : w'.cell? ⟨g, i, none⟩ = some v :=
  (World.cell?_of_block (a := ⟨g, i, none⟩) h).trans hv

set_option maxRecDepth 100000 in
set_option maxHeartbeats 8000000 in
theorem attr_any (w : World) (E g c base : Nat) (l : List Nd) (q : Bool) (made : Int) (ps : List (Value × Value)) (e : Edt) (Aa : Option Addr) (na ca : Nat) (Ak : Option Addr) (nk ck : Nat) (h : EdAt w E g c base l q made ps) (hnm : e.name.size ≤ 1152921504606846976) (hvl : e.value.size ≤ 1152921504606846976) :
    Calls Tryd.prog 102 #[.pointer (some ⟨E, 0, none⟩), .agg (edtCells e Aa na ca Ak nk ck)] w (EdPost E base q (attrErr l e.at_ e.name e.value) (attrDo l e.at_ e.name e.value) made w) := by
  obtain ⟨w0, hw0⟩ : ∃ w0, w0 = w.alloc (.cells (edtCells e Aa na ca Ak nk ck) 59) := ⟨_, rfl⟩
  have hk := eb_of h (edtCells e Aa na ca Ak nk ck)
  rw [← hw0] at hk
  obtain ⟨hEB, hb0⟩ := hk
  have e1 := hEB.cell 1 (v := .int .i64 e.at_) rfl
  have e4 := hEB.cell 4 (v := .string e.name) rfl
  have HB0 := Lib.hid hb0
  have HEB := Lib.hid hEB
  have HE := Lib.hid (element_any w0 E g c base l q made ps e.at_ hEB.at_)
  have HAN := Lib.hid (fun W => attrName_any e.name W hnm)
  clear h hb0 hEB
  have HC4 := Lib.hid (show (edtCells e Aa na ca Ak nk ck)[4]? = some (.string e.name) from rfl)
  have HC5 := Lib.hid (show (edtCells e Aa na ca Ak nk ck)[5]? = some (.string e.value) from rfl)
  go_enter Tryd.func102, Tryd.ntmps102
  unfold edtCells at *
  go_upto_region 1 with fail
  rw [← hw0]
  clear hw0
  rcases @elem_cases g l e.at_ with ⟨hx, hel⟩ | ⟨m, x, hme, hm, hx⟩
  · have HR := Lib.hid (show attrErr l e.at_ e.name e.value = 5 from by unfold attrErr; rw [hx])
    rw [hel] at HE
    clear hx hel
    go_wp2_with (go_at_call 122; refine HE.out.mono ?_; rintro e' w1 ⟨rfl, rfl⟩)
    go_ret
    exact ⟨by rw [HR.out]; rfl, HB0.out, by rw [HR.out]; exact fun h => absurd h (by decide)⟩
  · have HDE := Lib.hid (show attrErr l e.at_ e.name e.value = if x.kind ≠ 2 then 7 else if namedR e.name attrB = false then 3 else if 400 < e.value.size ∨ (findA x.attrs e.name < 0 ∧ x.attrs.length = 12) then 2 else 0 from by unfold attrErr; rw [hme, nodeAt_nat, hm])
    have HDO := Lib.hid (show attrDo l e.at_ e.name e.value = l.set m { x with attrs := attrPut x.attrs e.name e.value } from by unfold attrDo; rw [hme, setAt_nat hm])
    rcases hx with ⟨h2, hel⟩ | ⟨h2, hel⟩
    · have HR := Lib.hid (HDE.out.trans (if_pos h2))
      rw [hel] at HE
      clear hel h2 hm hme
      go_wp2_with (go_at_call 122; refine HE.out.mono ?_; rintro e' w1 ⟨rfl, rfl⟩)
      go_ret
      exact ⟨by rw [HR.out]; rfl, HB0.out, by rw [HR.out]; exact fun h => absurd h (by decide)⟩
    · have HDE2 := Lib.hid (HDE.out.trans (if_neg (by omega)))
      rw [hel] at HE
      obtain ⟨p, hp, hnd⟩ := HEB.out.at_.node hm
      obtain ⟨A1, c1, hp1, sl1⟩ := OwnF.sl hnd.parts.attrs (by decide) (by have := hnd.parts.ok.attrs; show x.attrs.length * 32 ≤ _; omega)
      have HF := Lib.hid (find_dom A1 x.attrs.length c1 x.attrs e.name w0.drew w0.heap.size sl1.drew (Nat.le_refl _))
      have k2 := hnd.c2
      rw [hp1] at k2
      have HM := Lib.hid hm
      have HP := Lib.hid hp
      have HP1 := Lib.hid hp1
      have HND := Lib.hid hnd
      clear hel h2 hm hme hp hnd hp1 sl1 HDE
      go_upto_region 4 with (go_at_call 122; refine HE.out.mono ?_; rintro e' w1 ⟨rfl, rfl⟩)
      go_region_held3 (fun w' => w'.cell? ⟨w.heap.size, 4, none⟩ = some (.string e.name) ∧ w'.cell? ⟨g, m * 6 + 2, none⟩ = some (.slice A1 x.attrs.length c1)) (first | go_keep | assumption)
        ((go_at_call 45; refine HF.out.mono ?_; rintro e' w2 ⟨rfl, hb2⟩; have k22 : w2.cell? ⟨g, m * 6 + 2, none⟩ = some (.slice A1 x.attrs.length c1) := (hb2.cell (p := ⟨g, m * 6 + 2, none⟩) HND.out.lt).trans k2; have e24 : w2.cell? ⟨w.heap.size, 4, none⟩ = some (.string e.name) := (hb2.cell (p := ⟨w.heap.size, 4, none⟩) HEB.out.lt).trans e4))
      have hb02 : Below w0.heap.size w0 w2 := ((Below.refl _ w0).drew).trans hb2
      have HBW : Hid (base ≤ w0.heap.size) := Nat.le_trans HEB.out.low (Nat.le_trans HEB.out.le (Nat.le_of_lt HEB.out.lt))
      have HB2 := Lib.hid (HB0.out.trans (hb02.mono HBW.out))
      have HE2 := Lib.hid (HEB.out.next hb02)
      have HN2 := Lib.hid (HND.out.next hb02)
      have HBW2 : Hid (base ≤ w2.heap.size) := Nat.le_trans HBW.out hb02.size
      clear hb2 hb02 k2 k22 HF HE e1 e4
      have HNM := Lib.hid (HAN.out w2)
      cases hnmd : namedR e.name attrB with
      | false =>
        have HR := Lib.hid (HDE2.out.trans (if_pos hnmd))
        rw [hnmd] at HNM
        clear hnmd
        generalize findA x.attrs e.name = f at *
        go_wp2_with (go_at_call 110; refine HNM.out.mono ?_; rintro e' w3 ⟨rfl, hb3⟩)
        go_ret
        exact ⟨by rw [HR.out]; rfl, HB2.out.trans (hb3.mono HBW2.out), by rw [HR.out]; exact fun h => absurd h (by decide)⟩
      | true =>
        have HDE3 := Lib.hid (HDE2.out.trans (if_neg (by rw [hnmd]; decide)))
        rw [hnmd] at HNM
        clear hnmd
        go_upto_region 7 with (go_at_call 110; refine HNM.out.mono ?_; rintro e' w3 ⟨rfl, hb3⟩)
        have HB3 := Lib.hid (HB2.out.trans (hb3.mono HBW2.out))
        have HE3 := Lib.hid (HE2.out.next hb3)
        have HN3 := Lib.hid (HN2.out.next hb3)
        have HBW3 : Hid (base ≤ w3.heap.size) := Nat.le_trans HBW2.out hb3.size
        have k3 := HN3.out.c2
        rw [HP1.out] at k3
        have e43 := HE3.out.cell 4 HC4.out
        have e53 := HE3.out.cell 5 HC5.out
        have f3 := HN3.out.free (m * 6 + 2)
        have hal := HN3.out.parts.ok.attrs
        have HOW := Lib.hid HN3.out.parts.attrs
        rw [HP1.out] at HOW
        clear hb3 e24 HNM HAN
        by_cases h400 : 400 < e.value.size
        · have HR := Lib.hid (HDE3.out.trans (if_pos (Or.inl h400)))
          have i4 : (400 : Int) < (e.value.size : Int) := by omega
          generalize findA x.attrs e.name = f at *
          go_wp2_with fail
          go_ret
          exact ⟨by rw [HR.out]; rfl, HB3.out, by rw [HR.out]; exact fun h => absurd h (by decide)⟩
        · have i4 : ¬ (400 : Int) < (e.value.size : Int) := by omega
          rcases findA_cases x.attrs e.name with ⟨hf, _⟩ | ⟨i, a, hf, hai, _⟩
          · rw [hf] at HDE3 ⊢
            by_cases h12 : x.attrs.length = 12
            · have HR := Lib.hid (HDE3.out.trans (if_pos (Or.inr ⟨by decide, h12⟩)))
              have i12 : ((x.attrs.length : Int) == 12) = true := by rw [h12]; rfl
              clear h12 hf
              go_wp2_with fail
              go_ret
              exact ⟨by rw [HR.out]; rfl, HB3.out, by rw [HR.out]; exact fun h => absurd h (by decide)⟩
            · have HR := Lib.hid (HDE3.out.trans (if_neg (by rintro (h | h); exact h400 h; exact h12 h.2)))
              have i12 : ((x.attrs.length : Int) == 12) = false := beq_eq_false_iff_ne.2 (by omega)
              have HPUT := Lib.hid (show attrPut x.attrs e.name e.value = x.attrs ++ [(e.name, e.value)] from by unfold attrPut; rw [hf, if_pos (by decide)])
              have HA12 : Hid (x.attrs.length + 1 ≤ 12) := by have := HN3.out.parts.ok.attrs; show _ ≤ _; omega
              clear h12 hf
              go_upto_region 10 with fail
              obtain ⟨w4, hw4⟩ : ∃ w4, w4 = (w3.alloc (.cells #[.string e.name, .string ⟨#[]⟩] 91)).drew := ⟨_, rfl⟩
              have hb34 : Below w3.heap.size w3 w4 := by rw [hw4]; exact ((Below.refl _ _).alloc (Nat.le_refl _) _).drew
              have HE4 := Lib.hid (HE3.out.next hb34)
              have HN4 := Lib.hid (HN3.out.next hb34)
              have HB34 := Lib.hid (hb34.mono HBW3.out)
              have HBW4 : Hid (base ≤ w4.heap.size) := Nat.le_trans HBW3.out hb34.size
              have HO4 := Lib.hid HN4.out.parts.attrs
              rw [HP1.out] at HO4
              have HS4 : Hid (w4.heap.size = w3.heap.size + 1) := by rw [hw4]; exact World.size_alloc w3 _
              have HC4' : Hid (∀ j u, ([.string e.name, .string ⟨#[]⟩] : List Value)[j]? = some u → w4.cell? ⟨w3.heap.size, 0 + j, none⟩ = some u) := by rw [hw4]; exact cell_new w3 _ _
              obtain ⟨cur4, hgb4⟩ := own_block_at HE4.out.at_.ed.row rfl
              have HGB4 := Lib.hid hgb4
              have k4 := HN4.out.c2
              rw [HP1.out] at k4
              have HK4 := Lib.hid k4
              have HAFT : Hid (∀ w5 : World, w4.grownBy w5 (Value.slice A1 x.attrs.length c1).ownBlock → w5.heap[g]? = some (.cells cur4 35 (0, 0)) ∧ w5.heap[w.heap.size]? = some (.cells #[.int .i64 e.do_, .int .i64 e.at_, .int .i64 e.to_, .int .i64 e.before, .string e.name, .string e.value, .int .i64 e.node.kind, .string e.node.name, .slice Aa na ca, .string e.node.text, .int .i64 e.node.parent, .slice Ak nk ck] 59 (0, 0)) ∧
                  w5.cell? ⟨g, m * 6 + 2, none⟩ = some (.slice A1 x.attrs.length c1) ∧ w5.frozen? ⟨g, m * 6 + 2, none⟩ = false ∧ w5.cell? ⟨w.heap.size, 4, none⟩ = some (.string e.name)) := fun w5 hg5 => by
                have hgb5 := keep_block HO4.out hg5 (by decide) HGB4.out
                have heb5 := keep_block HO4.out hg5 (by decide) HE4.out.box
                exact ⟨hgb5, heb5, (cell_same (hgb5.trans HGB4.out.symm) HK4.out), free_blk hgb5, cell_blk heb5 HC4.out⟩
              clear hgb4 k4 hb34
              obtain ⟨v5, w5, hrun5, hown5, hg5, hbl5, hv5⟩ := run_ap1 (P := Tryd.prog) (t := 32) (ty := 32) (c := 1) w4 elemDA2 HO4.out (fun _ h => h.elim) (y := (e.name, ⟨#[]⟩)) (cs := [.string e.name, .string ⟨#[]⟩]) ⟨[_], [_], rfl, ⟨rfl, hnm⟩, rfl, Nat.zero_le _⟩ HC4'.out (by omega) (by omega) HBW4.out
              obtain ⟨hgb5, heb5, k5, f5, e45⟩ := HAFT.out w5 hg5
              obtain ⟨A5, c5, rfl⟩ := Own.form hown5
              rw [hw4] at hrun5
              have HRUN := Lib.hid hrun5
              clear hrun5
              have HE6 := Lib.hid (HE4.out.at_.attrs (v := .slice A5 (x.attrs.length + 1) c5) (ats := x.attrs ++ [(e.name, ⟨#[]⟩)]) HM.out HP.out (by rw [HP1.out]; exact hg5) (by rw [List.length_append]; exact hown5) (by rw [HP1.out]; exact hv5) (by rw [List.length_append, List.length_singleton]; exact HA12.out))
              obtain ⟨ga, cells5, rfl, hga5, hgl5, hrow5, hcell5, hfz5⟩ := Own.block hown5 (by omega)
              have hcap5 : x.attrs.length + 1 ≤ c5 := by
                obtain ⟨_, h1, _⟩ := hown5
                rcases h1.2 with ⟨hv, _⟩ | ⟨g', cap, cur, hv, _, _, hnc, _⟩
                · cases hv
                · injection hv with _ _ hv
                  omega
              have hgg : g ≠ ga := fun e' => by
                have h1 := own_ne_block (by decide) hown5 hgb5
                exact h1 (by rw [e']; rfl)
              obtain ⟨w6, hw6⟩ : ∃ w6, w6 = w5.setCell ⟨g, m * 6 + 2, none⟩ (.slice (some ⟨ga, 0, none⟩) (x.attrs.length + 1) c5) := ⟨_, rfl⟩
              rw [← hw6] at HE6
              have hm6 : (l.set m { x with attrs := x.attrs ++ [(e.name, ⟨#[]⟩)] })[m]? = some { x with attrs := x.attrs ++ [(e.name, ⟨#[]⟩)] } := List.getElem?_set_self (List.getElem?_eq_some_iff.1 HM.out).1
              have hp6 : (ps.set m (Value.slice (some ⟨ga, 0, none⟩) (x.attrs.length + 1) c5, p.2))[m]? = some (Value.slice (some ⟨ga, 0, none⟩) (x.attrs.length + 1) c5, p.2) := List.getElem?_set_self (List.getElem?_eq_some_iff.1 HP.out).1
              obtain ⟨p6, hp6', hnd6⟩ := HE6.out.node hm6
              rw [hp6] at hp6'
              obtain rfl := Option.some.inj hp6'
              have k6 : w6.cell? ⟨g, m * 6 + 2, none⟩ = some (.slice (some ⟨ga, 0, none⟩) (x.attrs.length + 1) c5) := hnd6.c2
              have e56 : w6.cell? ⟨w.heap.size, 5, none⟩ = some (.string e.value) := by
                rw [hw6]
                refine (World.cell?_setCell_other _ _ _ _ (fun e' => ?_)).trans (cell_blk heb5 HC5.out)
                have e'' : g = w.heap.size := congrArg Addr.block e'
                rw [← e'', hgb5] at heb5
                injection heb5 with heb5
                injection heb5 with _ h3
                exact absurd h3 (by decide)
              have s6 : w6.cell? ⟨ga, x.attrs.length * 2 + 1, none⟩ = some (.string ⟨#[]⟩) := by
                rw [hw6]
                refine (World.cell?_setCell_other _ _ _ _ (fun e' => hgg (congrArg Addr.block e'))).trans ?_
                obtain ⟨cs, hcs, hj⟩ := hrow5.at_ (app_last x.attrs (e.name, ⟨#[]⟩))
                obtain ⟨c1', c2', rfl, ⟨rfl, _⟩, rfl, _⟩ := hcs
                exact hcell5 _ _ (hj 1 _ rfl)
              have f6 : w6.frozen? ⟨ga, x.attrs.length * 2 + 1, none⟩ = false := by
                have h1 := hnd6.parts.attrs
                obtain ⟨cur, hc⟩ := own_block_at h1 rfl
                exact free_blk hc
              have HFIN := Lib.hid (HE6.out.value (i := x.attrs.length) (a := (e.name, ⟨#[]⟩)) hm6 hp6 (app_last _ _) rfl hvl)
              have HBF := Lib.hid ((((HB3.out.trans HB34.out).trans hbl5).setCell (p := ⟨g, m * 6 + 2, none⟩) HN4.out.low (.slice (some ⟨ga, 0, none⟩) (x.attrs.length + 1) c5)).setCell (p := ⟨ga, x.attrs.length * 2 + 1, none⟩) hga5 (.string e.value))
              rw [← hw6] at HBF
              have wz : IntKind.i64.wrap (((x.attrs.length + 1 : Nat) : Int) - 1) = (x.attrs.length : Int) := by rw [show (((x.attrs.length + 1 : Nat) : Int) - 1) = (x.attrs.length : Int) from by omega]; exact IntWalk.i64_in _ (by omega)
              have wz2 : IntKind.i64.wrap ((x.attrs.length : Int) + 1 - 1) = (x.attrs.length : Int) := by rw [show ((x.attrs.length : Int) + 1 - 1) = (x.attrs.length : Int) from by omega]; exact IntWalk.i64_in _ (by omega)
              have j1 : (0 : Int) ≤ (x.attrs.length : Int) := by omega
              have j2 : (x.attrs.length : Int) < ((x.attrs.length + 1 : Nat) : Int) := by omega
              have j3 : (x.attrs.length : Int) < (x.attrs.length : Int) + 1 := by omega
              have HW6 := Lib.hid hw6
              have e57 : (w6.setCell ⟨ga, x.attrs.length * 2 + 1, none⟩ (.string e.value)).drew.cell? ⟨w.heap.size, 5, none⟩ = some (.string e.value) := by
                show (w6.setCell ⟨ga, x.attrs.length * 2 + 1, none⟩ (.string e.value)).cell? _ = _
                refine (World.cell?_setCell_other _ _ _ _ (fun e' => ?_)).trans e56
                have e'' : ga = w.heap.size := congrArg Addr.block e'
                exact own_ne_block (by decide) hown5 heb5 (by rw [← e'']; rfl)
              have k7 : (w6.setCell ⟨ga, x.attrs.length * 2 + 1, none⟩ (.string e.value)).drew.cell? ⟨g, m * 6 + 2, none⟩ = some (.slice (some ⟨ga, 0, none⟩) (x.attrs.length + 1) c5) := by
                show (w6.setCell ⟨ga, x.attrs.length * 2 + 1, none⟩ (.string e.value)).cell? _ = _
                exact (World.cell?_setCell_other _ _ _ _ (fun e' => hgg (congrArg Addr.block e').symm)).trans k6
              have HEND : Hid (EdAt (w6.setCell ⟨ga, x.attrs.length * 2 + 1, none⟩ (.string e.value)).drew E g c base (attrDo l e.at_ e.name e.value) q made (ps.set m (Value.slice (some ⟨ga, 0, none⟩) (x.attrs.length + 1) c5, p.2))) := by
                have h1 := HFIN.out.drew
                rw [List.set_set] at h1
                rw [HDO.out, HPUT.out]
                have h2 : (x.attrs ++ [(e.name, (⟨#[]⟩ : ByteArray))]).set x.attrs.length (e.name, e.value) = x.attrs ++ [(e.name, e.value)] := set_last _ _ _
                simp only [h2] at h1
                exact h1
              clear hown5 hg5 hbl5 hv5 hgb5 heb5 e45 hrow5 hcell5 hfz5 hga5 hgl5 hm6 hp6 hp6' hnd6 hgg hw6
              have k3a := fun o => cell_al k3 o
              have e43a := fun o => cell_al e43 o
              go_region_law (refine step_append_runI rfl (.tmp 54) (.tmp 58) 32 rfl _ _ rfl rfl HRUN.out ?_)
              all_goals
                rw [← HW6.out]
                clear k3a e43a k3 e43 e53 f3 k5 f5
                go_upto_region 12 with fail
                go_region_held3 (fun w' => w'.cell? ⟨w.heap.size, 5, none⟩ = some (.string e.value) ∧ w'.cell? ⟨g, m * 6 + 2, none⟩ = some (.slice (some ⟨ga, 0, none⟩) (x.attrs.length + 1) c5)) (first | go_keep | assumption) (fail)
                go_wp2_with fail
                go_ret
                exact ⟨by rw [HR.out]; rfl, HBF.out.drew, fun _ => ⟨_, _, _, HEND.out⟩⟩
          · have HPUT := Lib.hid (show attrPut x.attrs e.name e.value = x.attrs.set i (a.1, e.value) from by unfold attrPut; rw [hf, if_neg (by omega), Int.toNat_natCast, hai, Option.getD_some])
            have HR := Lib.hid (HDE3.out.trans (if_neg (by rintro (h | h); exact h400 h; omega)))
            rw [hf]
            have hil := (List.getElem?_eq_some_iff.1 hai).1
            have hfi : ¬ ((i : Int) < 0) := by omega
            obtain ⟨ga, cells3, rfl, hga3, hgl3, hrow3, hcell3, hfz3⟩ := Own.block HOW.out (by omega)
            have hcap3 : x.attrs.length ≤ c1 := by
              obtain ⟨_, h1, _⟩ := HOW.out
              rcases h1.2 with ⟨hv, _⟩ | ⟨g', cap, cur, hv, _, _, hnc, _⟩
              · cases hv
              · injection hv with _ _ hv
                omega
            obtain ⟨cur3, hgb3⟩ := own_block_at HE3.out.at_.ed.row rfl
            have s3 : w3.cell? ⟨ga, i * 2 + 1, none⟩ = some (.string a.2) := by
              obtain ⟨cs, hcs, hj⟩ := hrow3.at_ hai
              obtain ⟨c1', c2', rfl, ⟨rfl, _⟩, rfl, _⟩ := hcs
              exact hcell3 _ _ (hj 1 _ rfl)
            have g3 : w3.frozen? ⟨ga, i * 2 + 1, none⟩ = false := hfz3 _
            have HBF := Lib.hid (HB3.out.setCell (p := ⟨ga, i * 2 + 1, none⟩) hga3 (.string e.value))
            have e57 : (w3.setCell ⟨ga, i * 2 + 1, none⟩ (.string e.value)).drew.cell? ⟨w.heap.size, 5, none⟩ = some (.string e.value) := by
              show (w3.setCell ⟨ga, i * 2 + 1, none⟩ (.string e.value)).cell? _ = _
              refine (World.cell?_setCell_other _ _ _ _ (fun e' => ?_)).trans e53
              have e'' : ga = w.heap.size := congrArg Addr.block e'
              exact own_ne_block (by decide) HOW.out HE3.out.box (by rw [← e'']; rfl)
            have k7 : (w3.setCell ⟨ga, i * 2 + 1, none⟩ (.string e.value)).drew.cell? ⟨g, m * 6 + 2, none⟩ = some (.slice (some ⟨ga, 0, none⟩) x.attrs.length c1) := by
              show (w3.setCell ⟨ga, i * 2 + 1, none⟩ (.string e.value)).cell? _ = _
              refine (World.cell?_setCell_other _ _ _ _ (fun e' => ?_)).trans k3
              have e'' : ga = g := congrArg Addr.block e'
              exact own_ne_block (by decide) HOW.out hgb3 (by rw [← e'']; rfl)
            have HEND : Hid (EdAt (w3.setCell ⟨ga, i * 2 + 1, none⟩ (.string e.value)).drew E g c base (attrDo l e.at_ e.name e.value) q made ps) := by
              have h1 := (HE3.out.at_.value HM.out HP.out hai HP1.out hvl).drew
              rw [HDO.out, HPUT.out]
              exact h1
            have j1 : (0 : Int) ≤ (i : Int) := by omega
            have j2 : (i : Int) < (x.attrs.length : Int) := by omega
            clear hrow3 hcell3 hfz3 hga3 hgl3 hgb3 hai hf HOW
            go_upto_region 12 with fail
            go_region_held3 (fun w' => w'.cell? ⟨w.heap.size, 5, none⟩ = some (.string e.value) ∧ w'.cell? ⟨g, m * 6 + 2, none⟩ = some (.slice (some ⟨ga, 0, none⟩) x.attrs.length c1)) (first | go_keep | assumption) (fail)
            go_wp2_with fail
            go_ret
            exact ⟨by rw [HR.out]; rfl, HBF.out.drew, fun _ => ⟨_, _, _, HEND.out⟩⟩
end Go.Proofs.YtmemadajjmmlpaaDoor
