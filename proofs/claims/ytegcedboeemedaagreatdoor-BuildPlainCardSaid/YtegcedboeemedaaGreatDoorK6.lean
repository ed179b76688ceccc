/-
What comes of a text that is a fragment (printed by gen/bddonec.py).
-/
import Derived.Test.YtegcedboeemedaaGreatDoorK5
import Derived.Laws.BitsLemmas
import Derived.Lib.ValidLaws
import Derived.Lib.MapLaws
import Derived.Deep.DeepCutAuto
import Derived.Tactics2
import Derived.Defers
import Derived.Laws.Pointers
import Derived.Laws.LoneSync
import Derived.Laws.NewBlocks
import Derived.RegionTactic
import Derived.RegionCalls
import Derived.ChangeAlike
import Derived.Lib.ConvBytes
import Derived.Lib.SmallJoins
import Derived.Laws.CopyOwn
import Derived.HandedShaped
import Derived.LaidLaws
namespace Go.Proofs.YtegcedboeemedaaGreatDoor
open Go.RowKit Go.Cl
attribute [local go_sem ↓] Go.wp_at_zero Go.wp_at_succ
section
variable {w : World} {base : Nat} {l : List Nd} {ps : List (Value × Value)}
/-- A node's attributes go. -/
theorem Ed.noattrs {g n c : Nat} (h : Ed w base (.slice (some ⟨g, 0, none⟩) n c) l ps) {i : Nat} {x : Nd} {p : Value × Value} (hx : l[i]? = some x) (hp : ps[i]? = some p) :
    Ed (w.setCell ⟨g, i * 6 + 2, none⟩ (.slice none 0 0)) base (.slice (some ⟨g, 0, none⟩) n c) (l.set i { x with attrs := [] }) (ps.set i (.slice none 0 0, p.2)) := by
  have hP := h.parts i x p hx hp
  have hn : n = l.length := by
    obtain ⟨_, h3, _⟩ := h.row
    rcases h3.2 with ⟨hv, _⟩ | ⟨g', cap, cur, hv, _⟩
    · cases hv
    · injection hv
  subst hn
  have hrow : OwnF tN6 (w.setCell ⟨g, i * 6 + 2, none⟩ (.slice none 0 0)) base 46 (.slice (some ⟨g, 0, none⟩) l.length c) l.length ((List.zipWith ndRow l ps).set i (ndRow { x with attrs := [] } (.slice none 0 0, p.2))) :=
    Own.stored (T := tN6) h.row (fun _ h => h.elim) (zip_at hx hp) (j := 2) (by decide) (fun cs hcs => by
      obtain ⟨rfl, _⟩ := hcs
      refine ⟨rfl, ?_⟩
      exact ndRow_ok (x := { x with attrs := [] }) (p := (.slice none 0 0, p.2)) ⟨_, _, _, rfl⟩ (by obtain ⟨A, c, e⟩ := Own.form hP.kids; exact ⟨_, _, _, e⟩))
  rw [zip_set] at hrow
  have hgs := grown_set w g (i * 6 + 2) (.slice none 0 0)
  have hpl := (List.getElem?_eq_some_iff.1 hp).1
  have hxl := (List.getElem?_eq_some_iff.1 hx).1
  have key : ∀ (k : Nat) z q, l[k]? = some z → ps[k]? = some q → Parts (w.setCell ⟨g, i * 6 + 2, none⟩ (.slice none 0 0)) base z q := fun k z q hz hq => by
    have hQ := h.parts k z q hz hq
    exact ⟨ownF_kept hQ.attrs hgs (own_ne (by decide) hQ.attrs h.row), ownF_kept hQ.kids hgs (own_ne (by decide) hQ.kids h.row), hQ.ok⟩
  refine ⟨by rw [List.length_set, List.length_set]; exact h.len, by rw [List.length_set]; exact h.few, by rw [List.length_set]; exact hrow, fun k z q hz hq => ?_, fun k1 k2 q1 q2 hq1 hq2 hne => ?_⟩
  · by_cases e : i = k
    · subst e
      rw [List.getElem?_set_self hxl] at hz
      rw [List.getElem?_set_self hpl] at hq
      obtain rfl := Option.some.inj hz
      obtain rfl := Option.some.inj hq
      exact ⟨OwnF.nil _ _ _, (key i x p hx hp).kids, ⟨hP.ok.kind, hP.ok.name, hP.ok.text, hP.ok.parent, Nat.zero_le _, hP.ok.kids⟩⟩
    · rw [List.getElem?_set_ne e] at hz hq
      exact key k z q hz hq
  · have none_ne : ∀ v : Value, v.ownBlock = none ∨ v.ownBlock ≠ (Value.slice none 0 0).ownBlock := fun v => by
      cases e : v.ownBlock with
      | none => exact .inl rfl
      | some z => exact .inr (by intro k; cases k)
    by_cases e1 : i = k1
    · subst e1
      rw [List.getElem?_set_self hpl] at hq1
      obtain rfl := Option.some.inj hq1
      rw [List.getElem?_set_ne hne] at hq2
      exact ⟨.inl rfl, (h.apart i k2 p q2 hp hq2 hne).2⟩
    · rw [List.getElem?_set_ne e1] at hq1
      by_cases e2 : i = k2
      · subst e2
        rw [List.getElem?_set_self hpl] at hq2
        obtain rfl := Option.some.inj hq2
        exact ⟨none_ne _, (h.apart k1 i q1 p hq1 hp hne).2⟩
      · rw [List.getElem?_set_ne e2] at hq2
        exact h.apart k1 k2 q1 q2 hq1 hq2 hne
theorem PAt.noattrs {wt w : World} {X base Bp : Nat} {P : PS} {oV iV : Value} {ps : List (Value × Value)} {g n c i : Nat} {x : Nd} {p : Value × Value} (h : PAt wt w X base Bp P (.slice (some ⟨g, 0, none⟩) n c) oV iV ps) (hx : P.nodes[i]? = some x) (hp : ps[i]? = some p) :
    PAt wt (w.setCell ⟨g, i * 6 + 2, none⟩ (.slice none 0 0)) X base Bp { P with nodes := P.nodes.set i { x with attrs := [] } } (.slice (some ⟨g, 0, none⟩) n c) oV iV (ps.set i (.slice none 0 0, p.2)) := by
  have key : ∀ (k : Nat) q, (ps.set i (.slice none 0 0, p.2))[k]? = some q → (q.1 = .slice none 0 0 ∧ q.2 = p.2) ∨ ps[k]? = some q := fun k q hq => by
    by_cases e : i = k
    · subst e
      rw [List.getElem?_set_self (List.getElem?_eq_some_iff.1 hp).1] at hq
      obtain rfl := Option.some.inj hq
      exact .inl ⟨rfl, rfl⟩
    · rw [List.getElem?_set_ne e] at hq
      exact .inr hq
  refine ((h.rest.grown h.looseN (grown_set w g (i * 6 + 2) (.slice none 0 0))).nodes _).at_ h (h.ed.noattrs hx hp) (fun k q hq => ?_) h.outN (fun k q hq => ?_) h.outO h.outI
  · rcases key k q hq with ⟨_, e⟩ | hq
    · rw [e]; exact h.opk i p hp
    · exact h.opk k q hq
  · rcases key k q hq with ⟨e1, e2⟩ | hq
    · rw [e1, e2]; exact ⟨OutB.none rfl, (h.outP i p hp).2⟩
    · exact h.outP k q hq
end
section
variable {m : Int} {wt w w' w2 : World} {X base Bp : Nat} {P Q : PS}
set_option maxRecDepth 100000 in
set_option maxHeartbeats 4000000 in
theorem doneC_at (h : BdAt m wt w X base Bp P) (hi : P.items = []) (s cs : ByteArray) (hcs : Hid (cs = ⟨(cleanL (signsL 0 s.data.toList)).1.toArray⟩)) (hsz : s.size ≤ 1000000000) (hcz : cs.size ≤ 4000) (hT : ∀ v, Below w.heap.size w v → FoldTabs v)
    {f : Nat} {R : PS} (hr : P.allO f ((readF cs.data.toList).1.map (·.1)) = some R) (hsm : ∀ x ∈ (readF cs.data.toList).1, x.1.name.size ≤ 1000000000 ∧ x.1.text.size ≤ 1000000000 ∧ x.1.attrs.length ≤ 1000000000)
    (hc : ∀ v B, BdAt m v v X base B P → OnesC m v X base B f ((readF cs.data.toList).1.map (·.1)) P ∧ ∀ Q, PS.onesO f ((readF cs.data.toList).1.map (·.1)) P = some Q → Q.fresh = false ∧ OneC (TakeC m v X base B none 0 0 0 0) f PS.overT { Q with fresh := false })
    {cx : ByteArray} {xn : Nd} (hctx : R.context = cx) (hcx : cx.size ≠ 0) (hcx2 : cx.size ≤ 1000) (hxn : R.nodes[1]? = some xn) :
    Calls Tryz.prog 43 #[.pointer (some ⟨X, 0, none⟩), .string s] w fun e w' => DoneV base w' (R.nodes.set 1 { xn with name := cx, attrs := [] }) R.quirks e ∧ Below base w w' := by
  obtain ⟨w1, hw1⟩ : ∃ w1, w1 = w.alloc (.cells #[.slice none 0 0, .bool false] 33) := ⟨_, rfl⟩
  have hb1 : Below w.heap.size w w1 := by rw [hw1]; exact (Below.refl _ w).alloc (Nat.le_refl _) _
  have hk1 : w1.heap[w.heap.size]? = some (.cells #[.slice none 0 0, .bool false] 33 (0, 0)) := by rw [hw1]; exact heap_alloc_new w _
  have HCL := Lib.hid (show Calls Tryz.prog 11 #[.string s] w1 fun e w' => e = .returned (.string cs) ∧ Below w1.heap.size w1 w' from by rw [hcs.out]; exact clean_any s w1 hsz)
  have HRD := Lib.hid (fun (v : World) (hv : Below w.heap.size w v) => tkRead_rg v cs hcz m (h.next hv).len (hT v hv))
  have HALL := Lib.hid (fun (v v2 : World) (A : Option Addr) (n c : Nat) (hv : Below w.heap.size w v) (hb : Below v.heap.size v v2) (hs : Sl tTok v2 (rg v.heap.size v2.heap.size) A n c ((readF cs.data.toList).1.map (plOf cs))) =>
    (show Calls Tryz.prog 81 #[.pointer (some ⟨X, 0, none⟩), .slice A n c] v2 fun e w' => e = .returned (.tuple #[]) ∧ BdTo m v2 v2 w' X base v.heap.size R from
      have hat := (h.next hv).reads hi hb
      have hcc := hc v2 v.heap.size hat
      have hmap : ((readF cs.data.toList).1.map (plOf cs)).map (·.1) = (readF cs.data.toList).1.map (·.1) := by rw [List.map_map]; rfl
      all_at m v2 v2 X base v.heap.size P hat hs (fun x hx => by
        obtain ⟨y, hy, rfl⟩ := List.mem_map.1 hx
        exact hsm y hy) (by rw [hmap]; exact hr) (by rw [hmap]; exact hcc.1) (by rw [hmap]; exact hcc.2)))
  have HBL : Hid (base ≤ w.heap.size) := Nat.le_of_lt h.blt
  have HB1 := Lib.hid hb1
  have HK1 := Lib.hid hk1
  have HCX := Lib.hid hctx
  have hcne := str_ne hcx
  have HXN := Lib.hid hxn
  have HC2 : Hid (cx.size ≤ 1000) := hcx2
  obtain ⟨NL, hNL⟩ : ∃ NL, NL = R.nodes.set 1 { xn with name := cx, attrs := [] } := ⟨_, rfl⟩
  rw [← hNL]
  have HNLE := Lib.hid hNL
  clear hNL
  have HH := Lib.hid h
  clear h hi hsz hT hr hsm hc hctx hcx hcx2 hxn hb1 hk1
  go_enter Tryz.func43, Tryz.ntmps43
  go_upto_region 1 with fail
  rw [← hw1]
  clear hw1
  go_upto_region 5 with (first
    | (go_at_call 81; refine (HALL.out _ _ _ _ _ HB2.out HBR.out HS.out).mono ?_; rintro e w4 ⟨rfl, hb⟩; have T4 := Lib.hid hb; clear hb)
    | (go_at_call 10; refine (HRD.out _ HB2.out).mono ?_; rintro e w3 ⟨A, n, c, rfl, hb, hs⟩; have HBR := Lib.hid hb; have HS := Lib.hid hs; clear hb hs)
    | (go_at_call 11; refine HCL.out.mono ?_; rintro e w2 ⟨rfl, hb⟩; have HB2 := Lib.hid (HB1.out.trans (hb.mono HB1.out.size)); have HK2 := Lib.hid ((hb.block _ (Array.getElem?_eq_some_iff.1 HK1.out).1).trans HK1.out); clear hb)
    | fail)
  have HB4 := Lib.hid ((HB2.out.mono HBL.out).trans ((HBR.out.mono (Nat.le_trans HBL.out HB2.out.size)).trans T4.out.low))
  have HK3 := Lib.hid ((HBR.out.block _ (Array.getElem?_eq_some_iff.1 HK2.out).1).trans HK2.out)
  have HK4 := Lib.hid (T4.out.other (b := w.heap.size) HK3.out (by decide))
  have c9 := T4.out.at_.cell 9 (v := .string R.context) (fun _ _ _ => rfl)
  rw [HCX.out] at c9
  have c8 := T4.out.at_.quirks
  obtain ⟨nV0, oV0, iV0, ps0, hp0⟩ := T4.out.at_.mem
  obtain ⟨g, cN, q, rfl, hq, hPq, hgl, hXg, hcell⟩ := hp0.node HXN.out
  have c0 := hp0.cell 0 (v := .slice (some ⟨g, 0, none⟩) R.nodes.length cN) rfl
  have n1 : w4.cell? ⟨g, 7, none⟩ = some (.string xn.name) := (hcell 1 _ rfl).1
  have n2 : w4.cell? ⟨g, 8, none⟩ = some q.1 := (hcell 2 _ rfl).1
  have m1 : w4.frozen? ⟨g, 7, none⟩ = false := (hcell 1 _ rfl).2
  have m2 : w4.frozen? ⟨g, 8, none⟩ = false := (hcell 2 _ rfl).2
  have HLN : Hid (1 < R.nodes.length) := (List.getElem?_eq_some_iff.1 HXN.out).1
  have i1 : (1 : Int) < (R.nodes.length : Int) := by have := HLN.out; omega
  have i2 : 1 < R.nodes.length := HLN.out
  have HXG : Hid (g ≠ X) := fun e => hXg e.symm
  have HSET : Hid (∀ v, v = ((w4.setCell ⟨g, 7, none⟩ (.string cx)).setCell ⟨g, 8, none⟩ (.slice none 0 0)).drew → PAt w3 v X base w2.heap.size { R with nodes := NL } (.slice (some ⟨g, 0, none⟩) R.nodes.length cN) oV0 iV0 (ps0.set 1 (.slice none 0 0, q.2)) ∧ Below base w v ∧ v.heap[w.heap.size]? = some (.cells #[.slice none 0 0, .bool false] 33 (0, 0))) := by
    rintro v rfl
    have h1 := hp0.plain (w := w4) (i := 1) (j := 1) (u := .string cx) (y := { xn with name := cx }) HXN.out hq (by decide) rfl rfl rfl ⟨hPq.ok.kind, by show cx.size ≤ _; have := HC2.out; omega, hPq.ok.text, hPq.ok.parent, hPq.ok.attrs, hPq.ok.kids⟩
    have h2 := h1.noattrs (i := 1) (x := { xn with name := cx }) (by rw [List.getElem?_set_self HLN.out]) hq
    have hgb : base ≤ g := (Own.lt hp0.ed.row g rfl).1
    have hgw : w.heap.size ≠ g := fun e => own_ne_block (by decide) hp0.ed.row HK4.out (by rw [e]; rfl)
    rw [List.set_set] at h2
    rw [HNLE.out]
    refine ⟨h2.drewN 1, ((HB4.out.setCell (p := ⟨g, 7, none⟩) hgb _).setCell (p := ⟨g, 8, none⟩) hgb _).drew, ?_⟩
    exact (Below.heap_setCell _ _ _ _ hgw).trans ((Below.heap_setCell _ _ _ _ hgw).trans HK4.out)
  clear hp0 hq hPq hgl hXg hcell
  obtain ⟨q1, q2⟩ := q
  go_upto_region 6 with fail
  refine wp_region_G (S := (fun w' : World => w'.cell? ⟨X, 0, none⟩ = some (.slice (some ⟨g, 0, none⟩) R.nodes.length cN) ∧ w'.cell? ⟨X, 9, none⟩ = some (.string cx))) (T := []) (by kernel_rfl) ?_
  have hS : (fun w' : World => w'.cell? ⟨X, 0, none⟩ = some (.slice (some ⟨g, 0, none⟩) R.nodes.length cN) ∧ w'.cell? ⟨X, 9, none⟩ = some (.string cx)) w4.drew := ⟨c0, c9⟩
  refine wpAnyG_pure (i := 0) (v := ?_) rfl (by kernel_rfl) (by kernel_rfl) (by kernel_rfl) (fun _ _ _ h => h) rfl ?_ ?_
  rotate_left
  · intro w'
    first | (go_simp; done) | (go_simp; with_reducible rfl)
  refine wpAnyG_pure (i := 1) (v := ?_) rfl (by kernel_rfl) (by kernel_rfl) (by kernel_rfl) (fun _ _ _ h => h) rfl ?_ ?_
  rotate_left
  · intro w'
    first | (go_simp; done) | (go_simp; with_reducible rfl)
  refine wpAnyG_pure (i := 2) (v := ?_) rfl (by kernel_rfl) (by kernel_rfl) (by kernel_rfl) (fun _ _ _ h => h) rfl ?_ ?_
  rotate_left
  · intro w'
    first | (go_simp; done) | (go_simp; with_reducible rfl)
  refine wpAnyG_pure (i := 3) (v := ?_) rfl (by kernel_rfl) (by kernel_rfl) (by kernel_rfl) (fun _ _ _ h => h) rfl ?_ ?_
  rotate_left
  · intro w'
    first | (go_simp; done) | (go_simp; with_reducible rfl)
  refine wpAnyG_take (i := 4) (v := ?_) rfl (by kernel_rfl) (by kernel_rfl) (by kernel_rfl) (by kernel_rfl) (fun _ _ _ h => h) hS rfl ?_ ?_
  rotate_left
  · intro w' hSw
    (try dsimp only at hSw)
    first | (go_simp; done) | (go_simp; with_reducible rfl)
  refine wpAnyG_pure (i := 5) (v := ?_) rfl (by kernel_rfl) (by kernel_rfl) (by kernel_rfl) (fun _ _ _ h => h) rfl ?_ ?_
  rotate_left
  · intro w'
    first | (go_simp; done) | (go_simp; with_reducible rfl)
  refine wpAnyG_pure (i := 6) (v := ?_) rfl (by kernel_rfl) (by kernel_rfl) (by kernel_rfl) (fun _ _ _ h => h) rfl ?_ ?_
  rotate_left
  · intro w'
    first | (go_simp; done) | (go_simp; with_reducible rfl)
  refine wpAnyG_pure (i := 7) (v := ?_) rfl (by kernel_rfl) (by kernel_rfl) (by kernel_rfl) (fun _ _ _ h => h) rfl ?_ ?_
  rotate_left
  · intro w'
    first | (go_simp; done) | (go_simp; with_reducible rfl)
  refine wpAnyG_pure (i := 8) (v := ?_) rfl (by kernel_rfl) (by kernel_rfl) (by kernel_rfl) (fun _ _ _ h => h) rfl ?_ ?_
  rotate_left
  · intro w'
    first | (go_simp; done) | (go_simp; with_reducible rfl)
  refine wpAnyG_take (i := 9) (v := ?_) rfl (by kernel_rfl) (by kernel_rfl) (by kernel_rfl) (by kernel_rfl) (fun _ _ _ h => h) hS rfl ?_ ?_
  rotate_left
  · intro w' hSw
    (try dsimp only at hSw)
    first | (go_simp; done) | (go_simp; with_reducible rfl)
  refine wpAnyG_pure (i := 10) (v := ?_) rfl (by kernel_rfl) (by kernel_rfl) (by kernel_rfl) (fun _ _ _ h => h) rfl ?_ ?_
  rotate_left
  · intro w'
    first | (go_simp; done) | (go_simp; with_reducible rfl)
  refine wpAnyG_pure (i := 11) (v := ?_) rfl (by kernel_rfl) (by kernel_rfl) (by kernel_rfl) (fun _ _ _ h => h) rfl ?_ ?_
  rotate_left
  · intro w'
    first | (go_simp; done) | (go_simp; with_reducible rfl)
  refine wpAnyG_pure (i := 12) (v := ?_) rfl (by kernel_rfl) (by kernel_rfl) (by kernel_rfl) (fun _ _ _ h => h) rfl ?_ ?_
  rotate_left
  · intro w'
    first | (go_simp; done) | (go_simp; with_reducible rfl)
  refine wpAnyG_take (i := 13) (v := ?_) rfl (by kernel_rfl) (by kernel_rfl) (by kernel_rfl) (by kernel_rfl) (fun _ _ _ h => h) hS rfl ?_ ?_
  rotate_left
  · intro w' hSw
    (try dsimp only at hSw)
    first | (go_simp; done) | (go_simp; with_reducible rfl)
  refine wpAnyG_one (i := 14) (by kernel_rfl) rfl rfl (fun K hK => ?_)
  go_simp
  refine hK.out _ _ (fun _ h => h) ?_
  clear hK K
  refine wpAnyG_one (i := 15) (by kernel_rfl) rfl rfl (fun K hK => ?_)
  go_simp
  refine hK.out _ _ (fun _ h => h) ?_
  clear hK K
  refine wpAnyG_one (i := 16) (by kernel_rfl) rfl rfl (fun K hK => ?_)
  go_simp
  have e0 := cell_far (i := 7) HXG.out c0 (.string cx)
  have e9 := cell_far (i := 7) HXG.out c9 (.string cx)
  refine hK.out _ _ (fun _ _ => ⟨e0, e9⟩) ?_
  clear hK K
  refine wpAnyG_one (i := 17) (by kernel_rfl) rfl rfl (fun K hK => ?_)
  go_simp
  refine hK.out _ _ (fun _ h => h) ?_
  clear hK K
  refine wpAnyG_one (i := 18) (by kernel_rfl) rfl rfl (fun K hK => ?_)
  go_simp
  refine hK.out _ _ (fun _ h => h) ?_
  clear hK K
  refine wpAnyG_one (i := 19) (by kernel_rfl) rfl rfl (fun K hK => ?_)
  have n3 : (w4.setCell ⟨g, 7, none⟩ (.string cx)).cell? ⟨g, 8, none⟩ = some q1 := by rw [World.cell?_setCell_other _ _ _ _ (by simp)]; exact n2
  have m3 : (w4.setCell ⟨g, 7, none⟩ (.string cx)).frozen? ⟨g, 8, none⟩ = false := by rw [World.frozen?_setCell]; exact m2
  go_simp
  refine hK.out _ _ (fun _ _ => ⟨cell_far (i := 8) HXG.out e0 (.slice none 0 0), cell_far (i := 8) HXG.out e9 (.slice none 0 0)⟩) ?_
  clear hK K
  refine wpAnyG_done (by kernel_rfl) ?_ _
  obtain ⟨v4, hv4⟩ : ∃ v4, v4 = ((w4.setCell ⟨g, 7, none⟩ (.string cx)).setCell ⟨g, 8, none⟩ (.slice none 0 0)).drew := ⟨_, rfl⟩
  obtain ⟨hP4, hB4, hK4⟩ := HSET.out v4 hv4
  have HNL : Hid (NL.length = R.nodes.length) := Lib.hid (by rw [HNLE.out, List.length_set])
  rw [← hv4]
  have HP4 := Lib.hid hP4
  have HB4v := Lib.hid hB4
  have HK4v := Lib.hid hK4
  clear hv4 HSET n1 m1 n2 m2 n3 m3 e0 e9 c0 c9 c8 i1 i2 hS hB4 hK4
  have c0 := hP4.cell 0 (v := .slice (some ⟨g, 0, none⟩) R.nodes.length cN) rfl
  have c8 := hP4.cell 8 (v := .bool R.quirks) rfl
  have hsn : Sl tNd v4 (Cl.lt v4.heap.size) (some ⟨g, 0, none⟩) R.nodes.length cN NL := hP4.ed.sl
  clear hP4
  have HC0 := Lib.hid c0
  have HSN := Lib.hid hsn
  clear hsn
  go_upto_region 7 with fail
  refine wp_region_G (S := (fun w' : World => w'.cell? ⟨X, 0, none⟩ = some (.slice (some ⟨g, 0, none⟩) R.nodes.length cN) ∧ w'.cell? ⟨X, 8, none⟩ = some (.bool R.quirks))) (T := [11]) (by kernel_rfl) ?_
  have hS : (fun w' : World => w'.cell? ⟨X, 0, none⟩ = some (.slice (some ⟨g, 0, none⟩) R.nodes.length cN) ∧ w'.cell? ⟨X, 8, none⟩ = some (.bool R.quirks)) v4.drew := ⟨c0, c8⟩
  refine wpAnyG_take (i := 0) (v := ?_) rfl (by kernel_rfl) (by kernel_rfl) (by kernel_rfl) (by kernel_rfl) (fun _ _ _ h => h) hS rfl ?_ ?_
  rotate_left
  · intro w' hSw
    (try dsimp only at hSw)
    first | (go_simp; done) | (go_simp; with_reducible rfl)
  refine wpAnyG_take (i := 1) (v := ?_) rfl (by kernel_rfl) (by kernel_rfl) (by kernel_rfl) (by kernel_rfl) (fun _ _ _ h => h) hS rfl ?_ ?_
  rotate_left
  · intro w' hSw
    (try dsimp only at hSw)
    first | (go_simp; done) | (go_simp; with_reducible rfl)
  refine wpAnyG_take (i := 2) (v := ?_) rfl (by kernel_rfl) (by kernel_rfl) (by kernel_rfl) (by kernel_rfl) (fun _ _ _ h => h) hS rfl ?_ ?_
  rotate_left
  · intro w' hSw
    (try dsimp only at hSw)
    first | (go_simp; done) | (go_simp; with_reducible rfl)
  refine wpAnyG_take (i := 3) (v := ?_) rfl (by kernel_rfl) (by kernel_rfl) (by kernel_rfl) (by kernel_rfl) (fun _ _ _ h => h) hS rfl ?_ ?_
  rotate_left
  · intro w' hSw
    (try dsimp only at hSw)
    first | (go_simp; done) | (go_simp; with_reducible rfl)
  refine wpAnyG_take (i := 4) (v := ?_) rfl (by kernel_rfl) (by kernel_rfl) (by kernel_rfl) (by kernel_rfl) (fun _ _ _ h => h) hS rfl ?_ ?_
  rotate_left
  · intro w' hSw
    (try dsimp only at hSw)
    first | (go_simp; done) | (go_simp; with_reducible rfl)
  refine wpAnyG_take (i := 5) (v := ?_) rfl (by kernel_rfl) (by kernel_rfl) (by kernel_rfl) (by kernel_rfl) (fun _ _ _ h => h) hS rfl ?_ ?_
  rotate_left
  · intro w' hSw
    (try dsimp only at hSw)
    first | (go_simp; done) | (go_simp; with_reducible rfl)
  refine wpAnyG_take (i := 6) (v := ?_) rfl (by kernel_rfl) (by kernel_rfl) (by kernel_rfl) (by kernel_rfl) (fun _ _ _ h => h) hS rfl ?_ ?_
  rotate_left
  · intro w' hSw
    (try dsimp only at hSw)
    first | (go_simp; done) | (go_simp; with_reducible rfl)
  refine wpAnyG_take (i := 7) (v := ?_) rfl (by kernel_rfl) (by kernel_rfl) (by kernel_rfl) (by kernel_rfl) (fun _ _ _ h => h) hS rfl ?_ ?_
  rotate_left
  · intro w' hSw
    (try dsimp only at hSw)
    first | (go_simp; done) | (go_simp; with_reducible rfl)
  refine wpAnyG_take (i := 8) (v := ?_) rfl (by kernel_rfl) (by kernel_rfl) (by kernel_rfl) (by kernel_rfl) (fun _ _ _ h => h) hS rfl ?_ ?_
  rotate_left
  · intro w' hSw
    (try dsimp only at hSw)
    first | (go_simp; done) | (go_simp; with_reducible rfl)
  refine wpAnyG_take (i := 9) (v := ?_) rfl (by kernel_rfl) (by kernel_rfl) (by kernel_rfl) (by kernel_rfl) (fun _ _ _ h => h) hS rfl ?_ ?_
  rotate_left
  · intro w' hSw
    (try dsimp only at hSw)
    first | (go_simp; done) | (go_simp; with_reducible rfl)
  refine wpAnyG_one (i := 10) (by kernel_rfl) rfl rfl (fun K hK => ?_)
  go_simp
  refine hK.out _ _ (fun _ _ => ⟨cell_al (w := v4.drew) c0 _, cell_al (w := v4.drew) c8 _⟩) ?_
  clear hK K hS
  refine wpAnyG_one (i := 11) (by kernel_rfl) rfl rfl (fun K hK => ?_)
  go_simp
  refine hK.out _ _ (fun h => absurd (by decide) h) ?_
  clear hK K
  refine wpAnyG_done (by kernel_rfl) ?_ _
  obtain ⟨w5, hw5⟩ : ∃ w5, w5 = (v4.alloc (.cells #[.slice (some ⟨g, 0, none⟩) R.nodes.length cN, .bool R.quirks] 33)).drew := ⟨_, rfl⟩
  rw [← hw5]
  have hb5 : Below v4.heap.size v4 w5 := by rw [hw5]; exact ((Below.refl _ _).alloc (Nat.le_refl _) _).drew
  have hk5 : w5.heap[v4.heap.size]? = some (.cells #[.slice (some ⟨g, 0, none⟩) R.nodes.length cN, .bool R.quirks] 33 (0, 0)) := by rw [hw5]; exact heap_alloc_new v4 _
  have HCK := Lib.hid (check_dom (some ⟨g, 0, none⟩) R.nodes.length cN NL R.quirks w5 w5.heap.size ((HSN.out.below hb5 (Nat.le_refl _)).up hb5.size) (Nat.le_refl _))
  have HB5 := Lib.hid hb5
  have K5 := Lib.hid hk5
  have d0 := cell_blk (i := 0) (v := .slice (some ⟨g, 0, none⟩) R.nodes.length cN) hk5 rfl
  have d1 := cell_blk (i := 1) (v := .bool R.quirks) hk5 rfl
  have HSZ : Hid (base ≤ v4.heap.size) := Nat.le_trans HBL.out HB4v.out.size
  clear hw5 hb5 hk5 c0 c8
  have HDV : Hid (∀ W e, DoneV base W NL R.quirks e = ((checkD NL = 0 ∧ ∃ A c, e = .returned (.tuple #[.agg #[.slice A R.nodes.length c, .bool R.quirks], .int .i64 0]) ∧ Sl tNd W (rg base W.heap.size) A R.nodes.length c NL) ∨ (checkD NL ≠ 0 ∧ e = .returned (.tuple #[.agg #[.slice none 0 0, .bool false], .int .i64 2])))) := fun _ _ => by rw [← HNL.out]; rfl
  by_cases hck : checkD NL = 0
  · have HZ := Lib.hid hck
    rw [hck] at HCK
    clear hck
    go_upto_region 10 with (first
      | (go_at_call 20; refine HCK.out.mono ?_; rintro e w6 ⟨rfl, hb⟩; have HB46 := Lib.hid (HB5.out.trans (hb.mono HB5.out.size)); have z0 := cell_be d0 hb; have z1 := cell_be d1 hb; have hk6 := (HB46.out.block _ (Array.getElem?_eq_some_iff.1 HK4v.out).1).trans HK4v.out; have K6 := Lib.hid hk6; clear hb)
      | fail)
    have HB6 := Lib.hid (HB4v.out.trans (HB46.out.mono HSZ.out))
    have x0 := cell_blk (i := 0) (v := .slice none 0 0) K6.out rfl
    have x1 := cell_blk (i := 1) (v := .bool false) K6.out rfl
    have y0 : w6.frozen? ⟨w.heap.size, 0, none⟩ = false := free_blk K6.out
    have y1 : w6.frozen? ⟨w.heap.size, 1, none⟩ = false := free_blk K6.out
    clear d0 d1 hk6
    go_wp2_with fail
    obtain ⟨w7, hw7⟩ : ∃ w7, w7 = (w6.setCell ⟨w.heap.size, 0, none⟩ (.slice (some ⟨g, 0, none⟩) R.nodes.length cN)).setCell ⟨w.heap.size, 1, none⟩ (.bool R.quirks) := ⟨_, rfl⟩
    rw [← hw7]
    have hk7 := sp_set (u := .slice (some ⟨g, 0, none⟩) R.nodes.length cN) (v := .bool R.quirks) K6.out
    rw [← hw7] at hk7
    have r0 := cell_blk (i := 0) (v := .slice (some ⟨g, 0, none⟩) R.nodes.length cN) hk7 rfl
    have r1 := cell_blk (i := 1) (v := .bool R.quirks) hk7 rfl
    have HW7 := Lib.hid hw7
    clear hw7 hk7 x0 x1 y0 y1 z0 z1
    refine bodyPost_ret (v := .tuple #[.agg #[.slice (some ⟨g, 0, none⟩) R.nodes.length cN, .bool R.quirks], .int .i64 0]) (by simp [results, Tryz.results43, go_sem, r0, r1]) rfl ⟨by
      rw [HDV.out]
      refine .inl ⟨HZ.out, some ⟨g, 0, none⟩, cN, rfl, ?_⟩
      have hp := HP4.out
      have hBX : w.heap.size ≠ X := by have := HH.out.lt; omega
      have hBr : ¬ rg w2.heap.size w3.heap.size w.heap.size := fun q => by have := (Array.getElem?_eq_some_iff.1 HK2.out).1; have := q.1; omega
      have hp7 := ((hp.next HB46.out).far K6.out (by decide) hBX hBr 0 (.slice (some ⟨g, 0, none⟩) R.nodes.length cN)).far (set_blk K6.out _) (by decide) hBX hBr 1 (.bool R.quirks)
      rw [HW7.out]
      exact hp7.ed.slg, ?_⟩
    rw [HW7.out]
    exact ((HB6.out).setCell (p := ⟨w.heap.size, 0, none⟩) HBL.out _).setCell (p := ⟨w.heap.size, 1, none⟩) HBL.out _
  · have HZ := Lib.hid hck
    have hne : (checkD NL != 0) = true := by simpa using hck
    generalize checkD NL = ck at *
    clear hck
    go_upto_region 9 with (first
      | (go_at_call 20; refine HCK.out.mono ?_; rintro e w6 ⟨rfl, hb⟩; have HB46 := Lib.hid (HB5.out.trans (hb.mono HB5.out.size)); have z0 := cell_be d0 hb; have z1 := cell_be d1 hb; have hk6 := (HB46.out.block _ (Array.getElem?_eq_some_iff.1 HK4v.out).1).trans HK4v.out; have K6 := Lib.hid hk6; clear hb)
      | fail)
    have HB6 := Lib.hid (HB4v.out.trans (HB46.out.mono HSZ.out))
    have x0 := cell_blk (i := 0) (v := .slice none 0 0) K6.out rfl
    have x1 := cell_blk (i := 1) (v := .bool false) K6.out rfl
    have y0 : w6.frozen? ⟨w.heap.size, 0, none⟩ = false := free_blk K6.out
    have y1 : w6.frozen? ⟨w.heap.size, 1, none⟩ = false := free_blk K6.out
    clear d0 d1 hk6
    go_wp2_with fail
    obtain ⟨w7, hw7⟩ : ∃ w7, w7 = (w6.setCell ⟨w.heap.size, 0, none⟩ (.slice none 0 0)).setCell ⟨w.heap.size, 1, none⟩ (.bool false) := ⟨_, rfl⟩
    rw [← hw7]
    have hk7 := sp_set (u := .slice none 0 0) (v := .bool false) K6.out
    rw [← hw7] at hk7
    have r0 := cell_blk (i := 0) (v := .slice none 0 0) hk7 rfl
    have r1 := cell_blk (i := 1) (v := .bool false) hk7 rfl
    have HW7 := Lib.hid hw7
    clear hw7 hk7 x0 x1 y0 y1 z0 z1
    refine bodyPost_ret (v := .tuple #[.agg #[.slice none 0 0, .bool false], .int .i64 2]) (by simp [results, Tryz.results43, go_sem, r0, r1]) rfl ⟨by rw [HDV.out]; exact .inr ⟨HZ.out, rfl⟩, ?_⟩
    rw [HW7.out]
    exact ((HB6.out).setCell (p := ⟨w.heap.size, 0, none⟩) HBL.out _).setCell (p := ⟨w.heap.size, 1, none⟩) HBL.out _
end
end Go.Proofs.YtegcedboeemedaaGreatDoor

/-
Pushing an item: what it leaves, and that nothing else turns (printed by gen/bdpushed.py).
-/
namespace Go.Proofs.YtegcedboeemedaaGreatDoor
open Go.RowKit Go.Cl
theorem grown_of_below {a b : World} {row : Option Nat} (h : Below a.heap.size a b) : a.grownBy b row := ⟨h.os, h.tape, h.output, h.size, fun k hk _ => h.block k hk⟩
set_option maxRecDepth 100000 in
theorem pushedG_any (A : Option Addr) (n c : Nat) (l : List Item) (x : Item) (Ax : Option Addr) (nx cx : Nat) (w : World) (base : Nat) (D : Nat → Prop)
    (hown : Cl.Own tItem w base 289 D (.slice A n c) n l) (hD : ∀ b, D b → b < w.heap.size ∧ some b ≠ (Value.slice A n c).ownBlock) (hx : Sl tAttr w D Ax nx cx x.attrs) (hbase : base ≤ w.heap.size) (hwf : (Lit.int .i64 x.node).wf = true) (hxs : x.name.size ≤ 1152921504606846976) (hn : n ≤ 1000) :
    Calls Tryz.prog 295 #[.slice A n c, .agg #[.int .i64 x.node, .string x.name, .slice Ax nx cx]] w fun e w' => ∃ n' A' c', e = .returned (.slice A' n' c') ∧ Below base w w' ∧ Cl.Own tItem w' base 289 D (.slice A' n' c') n' (pushedL l x) ∧ w.grownBy w' (Value.slice A n c).ownBlock ∧ ((Value.slice A' n' c').ownBlock = (Value.slice A n c).ownBlock ∨ ∃ z, (Value.slice A' n' c').ownBlock = some z ∧ w.heap.size ≤ z) := by
  have hln := hown.len (by decide)
  have HL := Lib.hid hln
  clear hln
  have hl0 : Sl tItem w (lt w.heap.size) A n c l := (hown.sl (by decide) (by show n * 48 ≤ _; omega)).more fun b hb => hb.elim (fun h => (hD b h).1) fun h => h.2
  have hz : ∀ o, (w.alloc o).heap.size = w.heap.size + 1 := World.size_alloc w
  obtain ⟨w0, hw0⟩ : ∃ w0, w0 = w.alloc (.cells #[.int .i64 x.node, .string x.name, .slice Ax nx cx] 289) := ⟨_, rfl⟩
  have hb0 : Below w.heap.size w w0 := by rw [hw0]; exact (Below.refl _ _).alloc (Nat.le_refl _) _
  have hz0 : w0.heap.size = w.heap.size + 1 := by rw [hw0]; exact hz _
  have hg0 : w0.heap[w.heap.size]? = some (.cells #[.int .i64 x.node, .string x.name, .slice Ax nx cx] 289 (0, 0)) := by rw [hw0]; exact heap_alloc_new w _
  go_enter Tryz.func295, Tryz.ntmps295
  go_wp2_with fail
  rw [← hw0]
  have HLAST := Lib.hid (last_any A n c l w0 w.heap.size (hl0.below hb0 (Nat.le_refl _)) (by omega))
  clear hw0 hz
  refine HLAST.out.mono ?_
  rintro e w1 ⟨rfl, hb1⟩
  have hlastle := lastN_le l
  have HLE : Hid (lastN l ≤ n) := by have := HL.out; show _ ≤ _; omega
  clear HLAST hlastle
  generalize hq : lastN l = q at *
  have HQ := Lib.hid hq
  have hqn := HLE.out
  clear hq
  go_wp2_with fail
  go_loopw [5, 6] (fun v i wr => ∃ k : Nat, q ≤ k ∧ k ≤ n ∧ i = .int .i64 (k : Int) ∧ Below (w.heap.size + 1) w0 wr ∧ OwnF (tInt .i64) wr (w.heap.size + 1) 3 v (sameTo l x k).length ((sameTo l x k).map Int.ofNat)) (fun _ i _ => n - (intOf i).toNat)
  case atStart => exact ⟨q, Nat.le_refl _, hqn, rfl, by rw [← hz0]; exact hb1, by rw [← HQ.out, sameTo_first]; exact OwnF.nil _ _ _⟩
  case round =>
    clear hb1
    obtain ⟨k, hqk, hk, rfl, hb, hsame⟩ := hrel
    by_cases hlt : k < n
    · obtain ⟨y, hy⟩ : ∃ y, l[k]? = some y := get_some (by have := HL.out; omega)
      have HSU := Lib.hid (sameTo_succ l x y k hy (by rw [HQ.out]; exact hqk))
      have hbw : Below w.heap.size w wr := hb0.trans (hb.mono (by omega))
      have hlr := hl0.below hbw (Nat.le_refl _)
      obtain ⟨bq, oq, A1, n1, c1, rfl, hDb, y0, y1, y2, hys⟩ := sl_item hlr hy
      have hgx := (hb.block w.heap.size (by omega)).trans hg0
      have x0 := cell_blk (i := 0) hgx rfl
      have x1 := cell_blk (i := 1) hgx rfl
      have x2 := cell_blk (i := 2) hgx rfl
      have hsz := hb.size
      have hxr : Sl tAttr wr (lt wr.heap.size) Ax nx cx x.attrs := (hx.more (D' := lt w.heap.size) fun b h => (hD b h).1).below hbw (Nat.le_refl _) |>.up hbw.size
      have HCALL := Lib.hid (alike_any y x A1 n1 c1 Ax nx cx wr.drew wr.heap.size (Nat.le_refl _) (hys.up hbw.size).drew hxr.drew)
      clear hgx hxr hys hlr hx hg0 hy
      have hkk : (k : Int) < (n : Int) := by omega
      go_wp2_with fail
      go_still_tail 5, (by kernel_rfl)
      change wpList _ _ _ _ _ wr.drew
      go_wp2_with fail
      refine HCALL.out.mono ?_
      rintro e w2 ⟨rfl, hb2⟩
      have hb2' : Below wr.heap.size wr w2 := ((Below.refl _ wr).drew).trans hb2
      have hb3 : Below (w.heap.size + 1) w0 w2 := hb.trans (hb2'.mono (by omega))
      have hsame2 := hsame.below hb2' (Nat.le_refl _)
      have hsz2 := hb2'.size
      clear x0 x1 x2 y0 y1 y2 HCALL hb2 hb2' hsame hb hbw
      cases hal : alikeB y x with
      | true =>
        have hlen := sameTo_le l x k
        have HS : Hid (sameTo l x (k + 1) = sameTo l x k ++ [k]) := by have := HSU.out; rw [hal, if_pos rfl] at this; exact this
        clear hal
        generalize sameTo l x k = ss at *
        have hone : Sl (tInt .i64) (w2.alloc (.cells #[.int .i64 (k : Int)] 3)) (lt (w2.heap.size + 1)) (some ⟨w2.heap.size, 0, none⟩) 1 1 [(k : Int)] :=
          Sl.one_new (flatInt _) w2 3 (cs := [.int .i64 (k : Int)]) ⟨rfl, WalkArith.wf_i64 (by omega)⟩ (by decide)
        go_wp2_with (at_builtin; refine wpList_apf _ (flatInt _) rfl (.tmp 21) (.tmp 23) 38 rfl elemInt (v := u5) rfl (hsame2.al _) rfl hone (by omega) (by omega) (by simp; omega) ?_; intro v3 w3 hown3 hgr3 hbl3 _)
        go_roundw
        case rel => exact ⟨k + 1, by omega, by omega, by go_num, (hb3.alloc (by omega) _).trans hbl3, by rw [HS.out]; simpa using hown3⟩
        case measure => simp [intOf]; omega
      | false =>
        have HS : Hid (sameTo l x (k + 1) = sameTo l x k) := by have := HSU.out; rw [hal] at this; exact this.trans (by simp)
        clear hal
        generalize sameTo l x k = ss at *
        go_wp2_with fail
        go_roundw
        case rel => exact ⟨k + 1, by omega, by omega, by go_num, hb3, by rw [HS.out]; exact hsame2⟩
        case measure => simp [intOf]; omega
    · obtain rfl : n = k := by omega
      have hbw : Below w.heap.size w wr := hb0.trans (hb.mono (by omega))
      have hgx := (hb.block w.heap.size (by omega)).trans hg0
      have x0 := cell_blk (i := 0) hgx rfl
      have x1 := cell_blk (i := 1) hgx rfl
      have x2 := cell_blk (i := 2) hgx rfl
      have hsz := hb.size
      clear hgx
      go_wp2_with fail
      refine (marker_any x.node x.name Ax nx cx wr).mono ?_
      rintro e w3 ⟨rfl, hb3⟩
      have hb4 : Below (w.heap.size + 1) w0 w3 := hb.trans (hb3.mono (by omega))
      have hsame3 := hsame.below hb3 (Nat.le_refl _)
      have hbw3 : Below w.heap.size w w3 := hb0.trans (hb4.mono (by omega))
      have hown3 := hown.below hbw3 (fun j hj => (hown.lt j hj).2) (fun b h => (hD b h).1)
      have hgx := (hb4.block w.heap.size (by omega)).trans hg0
      have hsz3 := hb4.size
      have hx3 := (hx.keep (w' := w3) fun p hp => hbw3.cell (hD _ hp).1)
      obtain ⟨As, cs, hAs⟩ := Own.form hsame3
      subst hAs
      have hLn := hown.lt
      have hss : (sameTo l x n).length ≤ n := sameTo_le l x n
      have HPL : Hid (∀ l', l' = (if !(x.node == -1) && decide (3 ≤ (sameTo l x n).length) then l.eraseIdx ((sameTo l x n).headD 0) else l) → l' ++ [x] = pushedL l x) := fun l' e => by rw [e, pushedL, HL.out]
      clear x0 x1 x2 hb hb3 hbw hsame hown hx hl0 hg0 hb0
      cases hmk : (x.node == -1) with
      | true =>
        have x0 := cell_blk (i := 0) hgx rfl
        have x1 := cell_blk (i := 1) hgx rfl
        have x2 := cell_blk (i := 2) hgx rfl
        have HM := Lib.hid hmk
        clear hmk
        go_wp2_with (at_builtin; (refine wpList_ap1 _ rfl (.tmp 42) (.tmp 44) 84 rfl elemItem (v := .slice A n c) (D := D) rfl (hown3.alloc _ (fun b hb => by have := (hD b hb).1; omega)) (fun b hb => ⟨by have := (hD b hb).1; simp; omega, (hD b hb).2⟩) (y := x) (cs := [.int .i64 x.node, .string x.name, .slice Ax nx cx]) rfl ⟨[.int .i64 x.node], [.string x.name, .slice Ax nx cx], rfl, ⟨rfl, hwf⟩, [.string x.name], [.slice Ax nx cx], rfl, ⟨rfl, hxs⟩, Ax, nx, cx, rfl, hx3.keep fun p hp => World.cell?_alloc_lt _ _ p (by have := (hD _ hp).1; omega)⟩ (cell_new w3 _ _) (by omega) (by omega) (by simp; omega) ?_); intro v6 w6 hown6 hgr6 hbl6 hv6)
        obtain ⟨A6, c6, rfl⟩ := hown6.form
        go_ret
        exact ⟨n + 1, A6, c6, rfl, ((hbw3.mono hbase).alloc (by omega) _).trans hbl6, by rw [← HPL.out l (by rw [HM.out]; rfl)]; exact hown6, grownBy.trans' (grown_of_below hbw3) (grownBy.trans' (grown_al _ _ _) hgr6), by rcases hv6 with e | e; exact .inl e; exact .inr ⟨_, e, by rw [World.size_alloc]; omega⟩⟩
      | false =>
        have HM := Lib.hid hmk
        by_cases h3 : 3 ≤ (sameTo l x n).length
        · have H3 := Lib.hid h3
          have hn0 : 0 < n := by omega
          obtain ⟨gs, scells, hAs, hgs1, hgs2, hsrow, hscell, _⟩ := Own.block hsame3 (by omega)
          subst hAs
          obtain ⟨s0, hs0⟩ : ∃ s0, (sameTo l x n)[0]? = some s0 := get_some (by omega)
          have hs0n : s0 < n := by
            have := List.mem_of_getElem? hs0
            rw [sameTo, List.mem_filter, List.mem_range] at this
            exact this.1
          obtain ⟨scs, hscs, hscj⟩ := hsrow.at_ (i := 0) (x := (s0 : Int)) (by simp [hs0])
          obtain ⟨rfl, _⟩ := hscs
          have hc0 : w3.cell? ⟨gs, 0, none⟩ = some (.int .i64 (s0 : Int)) := hscell 0 _ (hscj 0 _ rfl)
          obtain ⟨g, cells, rfl, hg1, hg2, _, _, _⟩ := hown3.block hn0
          have HDEL := Lib.hid (deleteItem g n c s0 l w3.drew base D hown3.drew (fun b hb e => (hD b hb).2 (by rw [e]; rfl)) hs0n (by omega))
          have HH : Hid ((sameTo l x n).headD 0 = s0) := by show _ = _; rw [List.headD_eq_head?_getD, List.head?_eq_getElem?, hs0]; rfl
          have hgne : g < w.heap.size := hLn g rfl |>.2
          have hL3 : (3 : Int) ≤ ((sameTo l x n).length : Int) := by omega
          have hL0n : 0 < (sameTo l x n).length := by omega
          have hwr : IntKind.i64.wrap ((s0 : Int) + 1) = (s0 : Int) + 1 := IntWalk.i64_in _ (by omega)
          have hL0 : (0 : Int) < ((sameTo l x n).length : Int) := by omega
          have x0 := cell_blk (i := 0) hgx rfl
          have x1 := cell_blk (i := 1) hgx rfl
          have x2 := cell_blk (i := 2) hgx rfl
          generalize sameTo l x n = ss at *
          clear hmk h3 hs0 hsrow hscell hscj hsame3
          go_wp2_with fail
          go_still_tail 8, (by kernel_rfl)
          change wpList _ _ _ _ _ w3.drew
          go_wp2_with fail
          refine HDEL.out.mono ?_
          rintro e w5 ⟨rfl, hown5, hgr5⟩
          clear x0 x1 x2 hc0
          have hb5 : Below base w3 w5 := ((Below.refl _ w3).drew).grown hgr5 (by show base ≤ w3.heap.size; omega) (fun k hk => by have := Option.some.inj hk; omega)
          have hgx5 : w5.heap[w.heap.size]? = some (.cells #[.int .i64 x.node, .string x.name, .slice Ax nx cx] 289 (0, 0)) := (hgr5.block w.heap.size (by show w.heap.size < w3.heap.size; omega) (fun e => by have := Option.some.inj e; omega)).trans hgx
          have x0 := cell_blk (i := 0) hgx5 rfl
          have x1 := cell_blk (i := 1) hgx5 rfl
          have x2 := cell_blk (i := 2) hgx5 rfl
          have hsz5 := hb5.size
          have hx3' : Sl tAttr w5 D Ax nx cx x.attrs := hx3.keep fun p hp => World.cell?_of_block (w := w3) (hgr5.block p.block (by have := (hD _ hp).1; show p.block < w3.heap.size; omega) (fun e => (hD _ hp).2 e))
          clear hx3
          have hx3 := hx3'
          clear hx3' hgx hgx5
          have hown5' := hown5
          clear hown5
          go_wp2_with (at_builtin; (refine wpList_ap1 _ rfl (.tmp 42) (.tmp 44) 84 rfl elemItem (v := .slice (some ⟨g, 0, none⟩) (n - 1) c) (D := D) rfl (hown5'.alloc _ (fun b hb => by have := (hD b hb).1; omega)) (fun b hb => ⟨by have := (hD b hb).1; simp; omega, (hD b hb).2⟩) (y := x) (cs := [.int .i64 x.node, .string x.name, .slice Ax nx cx]) rfl ⟨[.int .i64 x.node], [.string x.name, .slice Ax nx cx], rfl, ⟨rfl, hwf⟩, [.string x.name], [.slice Ax nx cx], rfl, ⟨rfl, hxs⟩, Ax, nx, cx, rfl, hx3.keep fun p hp => World.cell?_alloc_lt _ _ p (by have := (hD _ hp).1; omega)⟩ (cell_new w5 _ _) (by omega) (by omega) (by simp; omega) ?_); intro v6 w6 hown6 hgr6 hbl6 hv6)
          obtain ⟨A6, c6, rfl⟩ := hown6.form
          go_ret
          exact ⟨n - 1 + 1, A6, c6, rfl, (((hbw3.mono hbase).trans hb5).alloc (by omega) _).trans hbl6, by rw [← HPL.out (l.eraseIdx s0) (by rw [HM.out, decide_eq_true H3.out, HH.out]; rfl)]; exact hown6, grownBy.trans' (grown_of_below hbw3) (grownBy.trans' (grownBy.trans' (grown_drew _ _) hgr5) (grownBy.trans' (grown_al _ _ _) hgr6)), by rcases hv6 with e | e; exact .inl e; exact .inr ⟨_, e, by rw [World.size_alloc]; omega⟩⟩
        · have H3 := Lib.hid h3
          have hL3 : ((sameTo l x n).length : Int) < 3 := by omega
          have x0 := cell_blk (i := 0) hgx rfl
          have x1 := cell_blk (i := 1) hgx rfl
          have x2 := cell_blk (i := 2) hgx rfl
          generalize sameTo l x n = ss at *
          clear hmk h3
          go_wp2_with (at_builtin; (refine wpList_ap1 _ rfl (.tmp 42) (.tmp 44) 84 rfl elemItem (v := .slice A n c) (D := D) rfl (hown3.alloc _ (fun b hb => by have := (hD b hb).1; omega)) (fun b hb => ⟨by have := (hD b hb).1; simp; omega, (hD b hb).2⟩) (y := x) (cs := [.int .i64 x.node, .string x.name, .slice Ax nx cx]) rfl ⟨[.int .i64 x.node], [.string x.name, .slice Ax nx cx], rfl, ⟨rfl, hwf⟩, [.string x.name], [.slice Ax nx cx], rfl, ⟨rfl, hxs⟩, Ax, nx, cx, rfl, hx3.keep fun p hp => World.cell?_alloc_lt _ _ p (by have := (hD _ hp).1; omega)⟩ (cell_new w3 _ _) (by omega) (by omega) (by simp; omega) ?_); intro v6 w6 hown6 hgr6 hbl6 hv6)
          obtain ⟨A6, c6, rfl⟩ := hown6.form
          go_ret
          exact ⟨n + 1, A6, c6, rfl, ((hbw3.mono hbase).alloc (by omega) _).trans hbl6, by rw [← HPL.out l (by rw [HM.out, decide_eq_false H3.out]; rfl)]; exact hown6, grownBy.trans' (grown_of_below hbw3) (grownBy.trans' (grown_al _ _ _) hgr6), by rcases hv6 with e | e; exact .inl e; exact .inr ⟨_, e, by rw [World.size_alloc]; omega⟩⟩


attribute [local go_sem ↓] Go.wp_at_zero Go.wp_at_succ
/-- The items are turned: their row grown or new, and stored. -/
theorem PAt.items {wt w w1 : World} {X base Bp : Nat} {P : PS} {nV oV iV v : Value} {ps : List (Value × Value)} (h : PAt wt w X base Bp P nV oV iV ps) {xs : List Item} (hg : w.grownBy w1 iV.ownBlock) (hv : Cl.Own tItem w1 base 289 (rg Bp wt.heap.size) v xs.length xs) (hb : v.ownBlock = iV.ownBlock ∨ ∃ z, v.ownBlock = some z ∧ w.heap.size ≤ z) :
    PAt wt (w1.setCell ⟨X, 2, none⟩ v) X base Bp { P with items := xs } nV oV v ps := by
  have hXi : iV.ownBlock ≠ some X := own_ne_block (by decide) h.it h.box
  have hbox : w1.heap[X]? = some (.cells (psCells P nV oV iV) 88 (0, 0)) := (hg.block X h.low (fun e => hXi e.symm)).trans h.box
  have hout : OutB Bp wt.heap.size v := fun k hk => by
    rcases hb with hb | ⟨z, hb, hz⟩
    · exact h.outI k (hb ▸ hk)
    · rw [hb] at hk
      injection hk with hk
      subst hk
      exact .inr (Nat.le_trans h.ht hz)
  have hed : Ed w1 base nV P.nodes ps := h.ed.keptBy hg (own_ne (by decide) h.ed.row h.it) fun i p hp => by
    obtain ⟨x, hx⟩ : ∃ x, P.nodes[i]? = some x := get_some (by have := (List.getElem?_eq_some_iff.1 hp).1; rw [h.ed.len] at this; exact this)
    exact ⟨own_ne (by decide) (h.ed.parts i x p hx hp).attrs h.it, own_ne (by decide) (h.ed.parts i x p hx hp).kids h.it⟩
  have hop := ownF_kept h.op hg (own_ne (by decide) h.op h.it)
  have hg2 := grown_set w1 X 2 v
  have hne : ∀ b, rg Bp wt.heap.size b → some b ≠ some X := fun b hb e => by injection e with e; have := hb.1; have := h.hXB; omega
  have ht1 : wt.heap.size ≤ w1.heap.size := Nat.le_trans h.ht hg.size
  exact ⟨by rw [set_blk hbox]; rfl, hed.other hbox (by decide) (by decide) (by decide) hg2, ownF_kept hop hg2 (Or.inr (own_ne_block (by decide) hop hbox)), Own.kept hv hg2 (Or.inr (own_ne_block (by decide) hv hbox)) (fun b hb => ⟨Nat.lt_of_lt_of_le hb.2 ht1, hne b hb⟩), h.opk, h.outN, h.outP, h.outO, hout,
    fun b hb => (hg2.block b (Nat.lt_of_lt_of_le hb.2 ht1) (hne b hb)).trans ((hg.block b (Nat.lt_of_lt_of_le hb.2 h.ht) (h.outI.rg b hb)).trans (h.kept b hb)), h.hX, h.hXB, h.hb, Nat.le_trans ht1 hg2.size⟩
set_option maxRecDepth 100000 in
/-- A marker is pushed. -/
theorem mark_at {m : Int} {wt w : World} {X base Bp : Nat} {P : PS} (h : BdAt m wt w X base Bp P) (hi : P.items.length ≤ 1000) :
    Calls Tryz.prog 252 #[.pointer (some ⟨X, 0, none⟩)] w fun e w' => e = .returned (.tuple #[]) ∧ BdTo m wt w w' X base Bp P.mark := by
  obtain ⟨nV, oV, iV, ps, hp⟩ := h.mem
  obtain ⟨AI, cI, rfl⟩ := Own.form hp.it
  have hbl := Nat.le_of_lt h.blt
  have HP := Lib.hid (pushedG_any AI P.items.length cI P.items ⟨-1, ⟨#[]⟩, []⟩ none 0 0 w base (rg Bp wt.heap.size) hp.it (fun b hb => ⟨Nat.lt_of_lt_of_le hb.2 hp.ht, hp.outI.rg b hb⟩) Sl.nil hbl (by decide) (by decide) hi)
  have c2 := hp.cell 2 (v := .slice AI P.items.length cI) rfl
  have HH := Lib.hid h
  have HPA := Lib.hid hp
  have HR : Hid (P.mark = { P with items := pushedL P.items ⟨-1, ⟨#[]⟩, []⟩ }) := rfl
  clear h hp hi hbl
  generalize P.mark = R at *
  go_enter Tryz.func252, Tryz.ntmps252
  go_wp2_with (first
    | (go_at_call 295; refine HP.out.mono ?_; rintro e w1 ⟨n', A', c', rfl, hbe, hown, hg, hv⟩; have hX1 := hg.block X HPA.out.low (fun e => own_ne_block (by decide) HPA.out.it HPA.out.box e.symm); have e2 := cell_blk (i := 2) (v := .slice AI P.items.length cI) (hX1.trans HPA.out.box) rfl; have f2 : w1.frozen? ⟨X, 2, none⟩ = false := free_blk (hX1.trans HPA.out.box); have HBE := Lib.hid hbe; have HOW := Lib.hid hown; have HG := Lib.hid hg; have HV := Lib.hid hv; have HX1 := Lib.hid hX1; clear hX1 hbe hown hg hv c2)
    | fail)
  have hln : n' = (pushedL P.items ⟨-1, ⟨#[]⟩, []⟩).length := Own.len HOW.out (by decide)
  have hat := HPA.out.items (v := .slice A' n' c') HG.out (by rw [← hln]; exact HOW.out) HV.out
  refine bodyPost_end (results_none rfl _ _ _) rfl ⟨rfl, ?_⟩
  rw [HR.out]
  exact .of HH.out ⟨HBE.out.trans (below_box _ X 2 _ HPA.out.hX), (KeepT.own HPA.out.it (.inr (.inr (.inr (.inl rfl)))) HG.out).trans (KeepT.row (HX1.out.trans HPA.out.box) (.inl rfl) (grown_set _ X 2 _)), _, _, _, _, hat⟩
end Go.Proofs.YtegcedboeemedaaGreatDoor

/-
A cell begins in a row (printed by gen/bdmode.py).
-/
namespace Go.Proofs.YtegcedboeemedaaGreatDoor
open Go.RowKit Go.Cl
attribute [local go_sem ↓] Go.wp_at_zero Go.wp_at_succ
section
variable {m : Int} {wt w w' w2 : World} {X base Bp : Nat} {P Q : PS}
set_option maxRecDepth 100000 in
set_option maxHeartbeats 1000000 in
theorem inRow_td (h : BdAt m wt w X base Bp P) (hl : P.Lim 5000000) {t : Tk} {A : Option Addr} {n c : Nat} (a z : Int) (ht : TkAt wt Bp t A n c) (hb : PS.st t (⟨#[32, 116, 100, 32, 116, 104, 32]⟩ : ByteArray) = true) (hi : P.items.length ≤ 1000) :
    Calls Tryz.prog 198 #[.pointer (some ⟨X, 0, none⟩), tkV t A n c a z] w fun e w' => e = .returned (.bool false) ∧ BdTo m wt w w' X base Bp ({ ((P.clear (⟨#[32, 116, 114, 32]⟩ : ByteArray)).start t.name t.attrs).mark with mode := 12 }) := by
  obtain ⟨w1, hw1⟩ : ∃ w1, w1 = w.alloc (.cells (tkC7 t A n c a z) 170) := ⟨_, rfl⟩
  have hb1 : Below w.heap.size w w1 := by rw [hw1]; exact (Below.refl _ w).alloc (Nat.le_refl _) _
  have hk1 : w1.heap[w.heap.size]? = some (.cells (tkC7 t A n c a z) 170 (0, 0)) := by rw [hw1]; exact heap_alloc_new w _
  have T1 := Lib.hid (h.to hb1)
  have K1 := Lib.hid hk1
  have HNM : Hid (t.name.size ≤ 1000000000) := ht.name
  have HTX : Hid (t.text.size ≤ 1000000000) := ht.text
  have HST : Hid (PS.st t (⟨#[32, 116, 100, 32, 116, 104, 32]⟩ : ByteArray) = true) := hb
  have HCL := Lib.hid (fun (v : World) (hv : BdAt m wt v X base Bp P) => clear_at hv (hl.ok (by decide)) (⟨#[32, 116, 114, 32]⟩ : ByteArray) (by decide))
  have HTS := Lib.hid (fun (v : World) (hv : BdAt m wt v X base Bp (P.clear (⟨#[32, 116, 114, 32]⟩ : ByteArray))) => start_at hv ((hl.clear (⟨#[32, 116, 114, 32]⟩ : ByteArray)).more (by decide)) t.name ht.name (hv.tk ht) ht.few)
  have HMK := Lib.hid (fun (v : World) (hv : BdAt m wt v X base Bp ((P.clear (⟨#[32, 116, 114, 32]⟩ : ByteArray)).start t.name t.attrs)) => mark_at hv (by show (P.clear (⟨#[32, 116, 114, 32]⟩ : ByteArray)).items.length ≤ 1000; rw [(PS.less_clear P _).items]; exact hi))
  have a1_0 := cell_blk (i := 0) (v := .int .i64 t.kind) hk1 rfl
  have a1_1 := cell_blk (i := 1) (v := .string t.name) hk1 rfl
  have a1_2 := cell_blk (i := 2) (v := .slice A n c) hk1 rfl
  have a1_3 := cell_blk (i := 3) (v := .string t.text) hk1 rfl
  have a1_4 := cell_blk (i := 4) (v := .bool t.self) hk1 rfl
  have a1_5 := cell_blk (i := 5) (v := .int .i64 a) hk1 rfl
  have a1_6 := cell_blk (i := 6) (v := .int .i64 z) hk1 rfl
  clear h ht hl hb hi hk1 hb1
  go_enter Tryz.func198, Tryz.ntmps198
  go_upto_region 1 with fail
  rw [← hw1]
  clear hw1
  go_upto_region 3 with (first
    | (go_at_call 250; refine (HCL.out _ T2.out.at_).mono ?_; rintro e w3 ⟨rfl, hb⟩; have T3 := Lib.hid (T2.out.trans hb); have hk := hb.other (b := w.heap.size) (K2.out) (by decide); clear a2_0 a2_1 a2_2 a2_3 a2_4 a2_5 a2_6; have a3_0 := cell_blk (i := 0) (v := .int .i64 t.kind) hk rfl; have a3_1 := cell_blk (i := 1) (v := .string t.name) hk rfl; have a3_2 := cell_blk (i := 2) (v := .slice A n c) hk rfl; have a3_3 := cell_blk (i := 3) (v := .string t.text) hk rfl; have a3_4 := cell_blk (i := 4) (v := .bool t.self) hk rfl; have a3_5 := cell_blk (i := 5) (v := .int .i64 a) hk rfl; have a3_6 := cell_blk (i := 6) (v := .int .i64 z) hk rfl; have K3 := Lib.hid hk; clear hk hb)
    | (go_at_call 228; refine (tokStart_any t A n c a z _ m _ HNM.out (by decide) T1.out.at_.len).mono ?_; rintro e w2 ⟨rfl, hb⟩; have T2 := Lib.hid (T1.out.next hb); have hk := (hb.block _ (Array.getElem?_eq_some_iff.1 (K1.out)).1).trans (K1.out); clear a1_0 a1_1 a1_2 a1_3 a1_4 a1_5 a1_6; have a2_0 := cell_blk (i := 0) (v := .int .i64 t.kind) hk rfl; have a2_1 := cell_blk (i := 1) (v := .string t.name) hk rfl; have a2_2 := cell_blk (i := 2) (v := .slice A n c) hk rfl; have a2_3 := cell_blk (i := 3) (v := .string t.text) hk rfl; have a2_4 := cell_blk (i := 4) (v := .bool t.self) hk rfl; have a2_5 := cell_blk (i := 5) (v := .int .i64 a) hk rfl; have a2_6 := cell_blk (i := 6) (v := .int .i64 z) hk rfl; have K2 := Lib.hid hk; clear hk hb; rw [HST.out])
    | fail)
  go_region_held3 (fun w' => w'.cell? ⟨w.heap.size, 1, none⟩ = some (.string t.name) ∧ w'.cell? ⟨w.heap.size, 2, none⟩ = some (.slice A n c)) (first | exact ⟨a3_1, a3_2⟩ | exact ⟨a4_1, a4_2⟩)
    (first
      | (go_at_call 232; refine (HTS.out _ T3.out.drew.at_).mono ?_; rintro e w4 ⟨rfl, hb⟩; have T4 := Lib.hid (T3.out.drew.trans hb); have hk := hb.other (b := w.heap.size) (K3.out) (by decide); skip; have a4_0 := cell_blk (i := 0) (v := .int .i64 t.kind) hk rfl; have a4_1 := cell_blk (i := 1) (v := .string t.name) hk rfl; have a4_2 := cell_blk (i := 2) (v := .slice A n c) hk rfl; have a4_3 := cell_blk (i := 3) (v := .string t.text) hk rfl; have a4_4 := cell_blk (i := 4) (v := .bool t.self) hk rfl; have a4_5 := cell_blk (i := 5) (v := .int .i64 a) hk rfl; have a4_6 := cell_blk (i := 6) (v := .int .i64 z) hk rfl; have K4 := Lib.hid hk; clear hk hb)
      | fail)
  go_wp2_with (first
    | (go_at_call 227; refine (to_at T5.out.at_ 12 false).mono ?_; rintro e w6 ⟨rfl, hb⟩; have T6 := Lib.hid (T5.out.trans hb); have hk := hb.other (b := w.heap.size) (K5.out) (by decide); clear a5_0 a5_1 a5_2 a5_3 a5_4 a5_5 a5_6; have a6_0 := cell_blk (i := 0) (v := .int .i64 t.kind) hk rfl; have a6_1 := cell_blk (i := 1) (v := .string t.name) hk rfl; have a6_2 := cell_blk (i := 2) (v := .slice A n c) hk rfl; have a6_3 := cell_blk (i := 3) (v := .string t.text) hk rfl; have a6_4 := cell_blk (i := 4) (v := .bool t.self) hk rfl; have a6_5 := cell_blk (i := 5) (v := .int .i64 a) hk rfl; have a6_6 := cell_blk (i := 6) (v := .int .i64 z) hk rfl; have K6 := Lib.hid hk; clear hk hb)
    | (go_at_call 252; refine (HMK.out _ T4.out.at_).mono ?_; rintro e w5 ⟨rfl, hb⟩; have T5 := Lib.hid (T4.out.trans hb); have hk := hb.other (b := w.heap.size) (K4.out) (by decide); skip; have a5_0 := cell_blk (i := 0) (v := .int .i64 t.kind) hk rfl; have a5_1 := cell_blk (i := 1) (v := .string t.name) hk rfl; have a5_2 := cell_blk (i := 2) (v := .slice A n c) hk rfl; have a5_3 := cell_blk (i := 3) (v := .string t.text) hk rfl; have a5_4 := cell_blk (i := 4) (v := .bool t.self) hk rfl; have a5_5 := cell_blk (i := 5) (v := .int .i64 a) hk rfl; have a5_6 := cell_blk (i := 6) (v := .int .i64 z) hk rfl; have K5 := Lib.hid hk; clear hk hb)
    | fail)
  go_ret
  exact ⟨rfl, T6.out⟩
end
end Go.Proofs.YtegcedboeemedaaGreatDoor

/-
The mode of a fragment of a row.
-/
namespace Go.Proofs.YtegcedboeemedaaGreatDoor
open Go.RowKit Go.Cl
attribute [local go_sem ↓] Go.wp_at_zero Go.wp_at_succ
section
variable {m : Int} {wt w w' w2 : World} {X base Bp : Nat} {P Q : PS}
theorem one_tr : oneB (⟨#[116, 114]⟩ : ByteArray) (⟨#[32, 116, 100, 32, 116, 104, 32]⟩ : ByteArray) = false := by decide +kernel
set_option maxRecDepth 100000 in
theorem resets_tr (h : BdAt m wt w X base Bp P) : Calls Tryz.prog 122 #[.pointer (some ⟨X, 0, none⟩), .string (⟨#[116, 114]⟩ : ByteArray), .int .i64 0] w fun e w' => e = .returned (.int .i64 11) ∧ w' = w := by
  have HO := Lib.hid (one_any (⟨#[116, 114]⟩ : ByteArray) (⟨#[32, 116, 100, 32, 116, 104, 32]⟩ : ByteArray) m w (by decide) (by decide) h.len)
  rw [one_tr] at HO
  clear h
  have e1 : (((⟨#[116, 114]⟩ : ByteArray)).toList == ([115, 101, 108, 101, 99, 116] : List UInt8)) = false := by rw [ByteArray.toList_eq]; decide
  have e2 : (((⟨#[116, 114]⟩ : ByteArray)).toList == ([116, 114] : List UInt8)) = true := by rw [ByteArray.toList_eq]; decide
  go_enter Tryz.func122, Tryz.ntmps122
  go_wp2_with (go_at_call 160; refine HO.out.mono ?_; rintro e w2 ⟨rfl, hw2⟩; subst hw2)
  go_ret
  exact ⟨rfl, rfl⟩
set_option maxRecDepth 100000 in
set_option maxHeartbeats 1000000 in
theorem reset_tr (h : BdAt m wt w X base Bp P) (hl : P.Lim 9000000) (ho : P.opens.length = 1) (hc : P.context = (⟨#[116, 114]⟩ : ByteArray)) :
    Calls Tryz.prog 85 #[.pointer (some ⟨X, 0, none⟩)] w fun e w' => e = .returned (.tuple #[]) ∧ BdTo m wt w w' X base Bp { P with mode := 11 } := by
  have HS1 := Lib.hid (h.store (i := 4) (v := .int .i64 6) (Q := { P with mode := 6 }) (fun _ _ _ => rfl) rfl rfl rfl)
  have c4 := h.cell 4 (v := .int .i64 P.mode) (fun _ _ _ => rfl)
  have f4 := h.fr 4
  obtain ⟨w1, hw1⟩ : ∃ w1, w1 = w.setCell ⟨X, 4, none⟩ (.int .i64 6) := ⟨_, rfl⟩
  rw [← hw1] at HS1
  obtain ⟨A, c, c1⟩ := HS1.out.at_.c1 (by show P.opens.length ≤ _; omega)
  have c9 := HS1.out.at_.cell 9 (v := .string P.context) (fun _ _ _ => rfl)
  obtain ⟨n, hn⟩ : ∃ n, P.opens[0]? = some n := get_some (by omega)
  have HNM := Lib.hid (fun (v : World) (hv : BdAt m wt v X base Bp { P with mode := 6 }) => (show Calls Tryz.prog 121 #[.pointer (some ⟨X, 0, none⟩), .int .i64 0] v fun e w' => e = .returned (.string (PS.name { P with mode := 6 } n)) ∧ Below v.heap.size v w' from bdname_at (i := 0) hv ((hl.same (Q := { P with mode := 6 }) rfl rfl).ok (by decide)) hn))
  have HCX := Lib.hid hc
  generalize PS.name { P with mode := 6 } n = nm0 at *
  have HRS := Lib.hid (fun (v : World) (hv : BdAt m wt v X base Bp { P with mode := 6 }) => resets_tr hv)
  have HS2 := Lib.hid (fun (v : World) (hv : BdAt m wt v X base Bp { P with mode := 6 }) => hv.store (i := 4) (v := .int .i64 11) (Q := { P with mode := 11 }) (fun _ _ _ => rfl) rfl rfl rfl)
  rw [hc] at c9
  rw [show ({ P with mode := 6 } : PS).opens.length = 1 from ho] at c1
  have HH : Hid (X < w.heap.size) := h.lt
  have hne : (((⟨#[116, 114]⟩ : ByteArray)).toList == ([] : List UInt8)) = false := by rw [ByteArray.toList_eq]; decide
  clear h hl ho hc hn
  go_enter Tryz.func85, Tryz.ntmps85
  go_upto_region 1 with fail
  rw [← hw1]
  clear hw1 c4 f4
  go_wp2_with fail
  go_loopw [2] (fun i wr => i = .int .i64 0 ∧ w1 = wr) (fun _ _ => 0)
  case atStart => exact ⟨rfl, rfl⟩
  case round =>
    obtain ⟨rfl, rfl⟩ := hrel
    go_wp2_with (first
      | (go_at_call 122; refine (HRS.out _ T2.out.at_).mono ?_; rintro e w3 ⟨rfl, hw3⟩; have hw3 := hw3.symm; subst hw3; have d4 := T2.out.at_.cell 4 (v := .int .i64 6) (fun _ _ _ => rfl); have g4 := T2.out.at_.fr 4)
      | (go_at_call 121; refine (HNM.out _ HS1.out.at_).mono ?_; rintro e w2 ⟨rfl, hb⟩; have T2 := Lib.hid (HS1.out.next hb); clear c9; have c9 := T2.out.at_.cell 9 (v := .string P.context) (fun _ _ _ => rfl); rw [HCX.out] at c9; clear hb)
      | fail)
    go_returns
    exact ⟨rfl, T2.out.trans (HS2.out _ T2.out.at_)⟩
end
end Go.Proofs.YtegcedboeemedaaGreatDoor

/-
A fragment of a row: one cell, and a letter in it.
-/
namespace Go.Proofs.YtegcedboeemedaaGreatDoor
open Go.RowKit Go.Cl
open PS (Bare)
namespace PS
def tdT : Tk := ⟨1, (⟨#[116, 100]⟩ : ByteArray), [], ⟨#[]⟩, false⟩
def yT : Tk := tkT (⟨#[121]⟩ : ByteArray)
def f0 : PS := { begun with opens := [], context := (⟨#[116, 114]⟩ : ByteArray) }
def f1 : PS := { f0 with nodes := [nDoc, nHtml []], opens := [1] }
def f2 : PS := { f1 with mode := 11 }
def f3 : PS := { f2 with nodes := [nDoc, nHtml [2], ⟨2, (⟨#[116, 100]⟩ : ByteArray), [], ⟨#[]⟩, 1, []⟩], opens := [1, 2], items := [⟨-1, ⟨#[]⟩, []⟩], mode := 12 }
def f4 : PS := { f3 with nodes := [nDoc, nHtml [2], ⟨2, (⟨#[116, 100]⟩ : ByteArray), [], ⟨#[]⟩, 1, [3]⟩, ⟨3, ⟨#[]⟩, [], (⟨#[121]⟩ : ByteArray), 2, []⟩] }
theorem f01 : f0.element (0, 0) (⟨#[104, 116, 109, 108]⟩ : ByteArray) [] = f1 := rfl
theorem td_in : st tdT (⟨#[32, 116, 100, 32, 116, 104, 32]⟩ : ByteArray) = true := by decide +kernel
theorem f23 : f2.take f2.mode tdT = (false, f3) := by kernel_rfl
theorem f23w : { ((f2.clear (⟨#[32, 116, 114, 32]⟩ : ByteArray)).start tdT.name tdT.attrs).mark with mode := 12 } = f3 := by kernel_rfl
theorem y_bare : Bare yT := ⟨.inl rfl, by decide +kernel⟩
theorem f34 : f3.take f3.mode yT = (false, f4) := by kernel_rfl
theorem f34w : f3.text yT.text = f4 := by kernel_rfl
theorem f44 : f4.take f4.mode overT = (false, f4) := by kernel_rfl
theorem limf0 : f0.Tr := lim0.wf.tr.same rfl
theorem limf1 : f1.Lim 2 := by
  rw [← f01]
  exact lim_first (P := f0) limf0 lim0.wf.zero rfl lim0.nodes lim0.text (show Spot f0 (0, 0) from ⟨⟨by decide, by decide⟩, Nat.zero_le _⟩) _ _
theorem limf2 : f2.Lim 2 := limf1.same rfl rfl
theorem limf3 : f3.Lim 3 := by
  rw [← f23w]
  exact ((limf2.clear _).start _ _).same rfl rfl
theorem limf4 : f4.Lim 10 := by
  rw [← f34w]
  exact (limf3.text_ yT.text).more (by decide)
theorem frag_next : nextF [60, 116, 100, 62, 121] = some (some tdT, true, [121]) := by
  have h1 : tagF [] [62, 121] = some ([], false, [121]) := by rw [tagF_step]; rfl
  have h2 : tagT 1 [116, 100, 62, 121] = some (tdT, [121]) := by
    unfold tagT
    rw [show ([116, 100, 62, 121] : List UInt8).dropWhile tagB = [62, 121] from by decide +kernel, h1]
    kernel_rfl
  unfold nextF
  rw [if_neg (by decide +kernel), if_neg (by decide +kernel), if_pos (by decide +kernel), show ([60, 116, 100, 62, 121] : List UInt8).drop 1 = [116, 100, 62, 121] from rfl, h2]
  rfl
theorem frag_after : afterF (some tdT) [121] = (putT [121] (bs [121]) 1 0, []) := by
  unfold afterF
  rw [if_neg (by decide +kernel), show textF [121] = ([121], []) from by decide +kernel]
  rw [show entT [121] = [121] from by decide +kernel]
  rfl
theorem frag_toks : (readF ((⟨#[60, 116, 100, 62, 121]⟩ : ByteArray)).data.toList).1.map (·.1) = [tdT, yT] := by
  show (readF [60, 116, 100, 62, 121]).1.map (·.1) = _
  unfold readF
  rw [show textF [60, 116, 100, 62, 121] = ([], [60, 116, 100, 62, 121]) from by decide +kernel]
  rw [readM_step (by decide +kernel), frag_next]
  simp only [frag_after, readM_nil]
  rfl
end PS
section
variable {m : Int} {wt : World} {X base Bp : Nat} {A : Option Addr} {n c : Nat} {a z : Int}
theorem tcf2 (ht : TkAt wt Bp PS.tdT A n c) : TakeC m wt X base Bp A n c a z PS.tdT PS.f2 := fun u hu => by
  have h := take11_at hu a z (hc := fun w hw => inRow_td hw (PS.limf2.more (by decide)) a z ht PS.td_in (Nat.zero_le _))
  rw [PS.f23]
  rw [PS.f23w] at h
  exact h
theorem tcf3 (ht : TkAt wt Bp PS.yT A n c) : TakeC m wt X base Bp A n c a z PS.yT PS.f3 := fun u hu => by
  have h := take12_at hu a z (hc := fun w hw => inCell_bare hw (PS.limf3.more (by decide)) a z ht PS.y_bare (fun v hv => inBody_text hv (PS.limf3.more (by decide)) a z ht rfl (by decide) (by kernel_rfl)))
  rw [PS.f34]
  rw [PS.f34w] at h
  exact h
theorem tcf4 : TakeC m wt X base Bp none 0 0 0 0 PS.overT PS.f4 := fun u hu => by
  have h := take12_at hu 0 0 (hc := fun w hw => inCell_bare hw (PS.limf4.more (by decide)) 0 0 tk_over PS.over_bare (fun v hv => inBody_over hv (PS.limf4.more (by decide)) 0 0 tk_over PS.over_bare rfl))
  rw [PS.f44]
  exact h
end
theorem one_is (P : PS) (f : Nat) (t : Tk) (h1 : PS.freshTk t P.fresh = t) (h2 : { P with fresh := false } = P) (h3 : ¬ ((t.kind = 3 ∧ t.text.size = 0) ∨ (t.kind = 5 ∧ P.mode ≠ 0))) : P.one_ f t = PS.oneO f t P := by
  unfold PS.one_
  simp only [h1, h2]
  rw [if_neg h3]
theorem oneO_off (P Q : PS) (f : Nat) (t : Tk) (hp : P.parted t = false) (e : P.take P.mode t = (false, Q)) : PS.oneO (f + 1) t P = some Q := by
  rw [PS.oneO, if_neg (by rw [hp]; simp), e]
  rfl
theorem ft1 : PS.f2.one_ 3 PS.tdT = some PS.f3 := (one_is _ _ _ rfl rfl (by decide)).trans (oneO_off _ _ 2 _ (by decide +kernel) PS.f23)
theorem ft2 : PS.f3.one_ 3 PS.yT = some PS.f4 := (one_is _ _ _ rfl rfl (by decide)).trans (oneO_off _ _ 2 _ (by decide +kernel) PS.f34)
theorem ft3 : PS.f4.one_ 3 PS.overT = some PS.f4 := (one_is _ _ _ rfl rfl (by decide)).trans (oneO_off _ _ 2 _ (by decide +kernel) PS.f44)
theorem frag_ones : PS.onesO 3 [PS.tdT, PS.yT] PS.f2 = some PS.f4 := by
  rw [PS.onesO, ft1]
  show PS.onesO 3 [PS.yT] PS.f3 = _
  rw [PS.onesO, ft2]
  rfl
theorem frag_run : PS.f2.allO 3 [PS.tdT, PS.yT] = some PS.f4 := by
  unfold PS.allO
  rw [frag_ones]
  exact ft3
theorem frag_cond (m : Int) (v : World) (X base B : Nat) : OnesC m v X base B 3 [PS.tdT, PS.yT] PS.f2 ∧ ∀ Q, PS.onesO 3 [PS.tdT, PS.yT] PS.f2 = some Q → Q.fresh = false ∧ OneC (TakeC m v X base B none 0 0 0 0) 3 PS.overT { Q with fresh := false } := by
  refine ⟨⟨rfl, fun A n c a z ht => oneC_off (P := PS.f2) (by decide +kernel) (tcf2 ht) PS.f23, fun Q hQ => ?_⟩, fun Q hQ => ?_⟩
  · rw [ft1] at hQ
    obtain rfl := Option.some.inj hQ
    exact ⟨rfl, fun A n c a z ht => oneC_off (P := PS.f3) (by decide +kernel) (tcf3 ht) PS.f34, fun Q _ => trivial⟩
  · rw [frag_ones] at hQ
    obtain rfl := Option.some.inj hQ
    exact ⟨rfl, oneC_off (P := PS.f4) (by decide +kernel) tcf4 PS.f44⟩
end Go.Proofs.YtegcedboeemedaaGreatDoor

/-
Fragment: of one cell, and a letter in it (printed by gen/bdfragw.py).
-/
namespace Go.Proofs.YtegcedboeemedaaGreatDoor
open Go.RowKit Go.Cl
attribute [local go_sem ↓] Go.wp_at_zero Go.wp_at_succ
theorem frag_clean : (⟨#[60, 116, 100, 62, 121]⟩ : ByteArray) = (⟨(cleanL (signsL 0 ((⟨#[60, 116, 100, 62, 121]⟩ : ByteArray)).data.toList)).1.toArray⟩ : ByteArray) := by decide +kernel
theorem frag_small : ∀ x ∈ (readF ((⟨#[60, 116, 100, 62, 121]⟩ : ByteArray)).data.toList).1, x.1.name.size ≤ 1000000000 ∧ x.1.text.size ≤ 1000000000 ∧ x.1.attrs.length ≤ 1000000000 := fun x hx => by
  have hx1 : x.1 ∈ (readF ((⟨#[60, 116, 100, 62, 121]⟩ : ByteArray)).data.toList).1.map (·.1) := List.mem_map_of_mem hx
  rw [PS.frag_toks] at hx1
  rcases List.mem_cons.1 hx1 with h | h
  · rw [h]; decide
  · rw [List.mem_singleton.1 h]; decide
abbrev fragNs : List Nd := PS.f4.nodes.set 1 { PS.nHtml [2] with name := (⟨#[116, 114]⟩ : ByteArray), attrs := [] }
set_option maxRecDepth 100000 in
set_option maxHeartbeats 4000000 in
theorem fragment_at (m : Int) (w : World) (hm : maxLenAt w m) (hT : FoldTabs w) :
    Calls Tryz.prog 46 #[.string (⟨#[60, 116, 100, 62, 121]⟩ : ByteArray), .string (⟨#[116, 114]⟩ : ByteArray)] w fun e w' => DoneV w.heap.size w' fragNs PS.f4.quirks e ∧ Below w.heap.size w w' := by
  obtain ⟨w1, hw1⟩ : ∃ w1, w1 = w.alloc (.cells #[.slice none 0 0, .bool false] 33) := ⟨_, rfl⟩
  have hb1 : Below w.heap.size w w1 := by rw [hw1]; exact (Below.refl _ w).alloc (Nat.le_refl _) _
  have hk1 : w1.heap[w.heap.size]? = some (.cells #[.slice none 0 0, .bool false] 33 (0, 0)) := by rw [hw1]; exact heap_alloc_new w _
  have hz1 : w1.heap.size = w.heap.size + 1 := by rw [hw1]; exact World.size_alloc w _
  have HNEW := Lib.hid (fun v => newOwn_any v)
  have HB1 := Lib.hid hb1
  have HK1 := Lib.hid hk1
  have HZ1 := Lib.hid hz1
  have HM := Lib.hid hm
  have HT := Lib.hid hT
  have HBEG : Hid (∀ wb w2 w4, Below w1.heap.size w1 wb → Below wb.heap.size wb w2 → w2.heap.size = wb.heap.size + 2 → w2.heap[wb.heap.size + 1]? = some (.cells #[.int .i64 1, .string ⟨#[]⟩, .slice none 0 0, .string ⟨#[]⟩, .int .i64 (-1), .slice none 0 0] 46 (0, 0)) →
      w4 = w2.alloc (.cells (psCells PS.f0 (.slice (some ⟨wb.heap.size + 1, 0, none⟩) 1 1) (.slice none 0 0) (.slice none 0 0)) 88) → BdAt m w4 w4 w2.heap.size wb.heap.size w4.heap.size PS.f0 ∧ Below wb.heap.size wb w4) := by
    rintro wb w2 w4 hbb hb2 hz2 hn2 hw4
    have hb24 : Below w2.heap.size w2 w4 := by rw [hw4]; exact (Below.refl _ _).alloc (Nat.le_refl _) _
    have hb14 : Below wb.heap.size wb w4 := hb2.trans (hb24.mono hb2.size)
    have hx4 : w4.heap[w2.heap.size]? = some (.cells (psCells PS.f0 (.slice (some ⟨wb.heap.size + 1, 0, none⟩) 1 1) (.slice none 0 0) (.slice none 0 0)) 88 (0, 0)) := by rw [hw4]; exact heap_alloc_new w2 _
    have hat := PAt.begun (base := wb.heap.size) hx4 (ed_root ((hb24.block _ (by omega)).trans hn2) (by omega)) (OwnF.nil _ _ _) rfl (fun i p hp => by
      cases i with
      | zero => obtain rfl := Option.some.inj hp; rfl
      | succ i => cases hp) (by omega)
    have hm1 := cell_be (cell_be HM.out HB1.out) hbb
    exact ⟨⟨⟨_, _, _, _, hat⟩, cell_be hm1 hb14, World.block_lt_of_cell? _ _ hm1⟩, hb14⟩
  have HEL := Lib.hid (fun (v : World) (bs X B : Nat) (hv : BdAt m v v X bs B PS.f0) => (show Calls Tryz.prog 84 #[.pointer (some ⟨X, 0, none⟩), .agg #[.int .i64 0, .int .i64 0], .string (⟨#[104, 116, 109, 108]⟩ : ByteArray), .slice none 0 0] v fun e w' => e = .returned (.int .i64 PS.f0.next) ∧ BdTo m v v w' X bs B PS.f1 from by
    have z := element_at hv PS.limf0 PS.lim0.wf.zero (by decide) (Nat.zero_le _) (s := (0, 0)) (show PS.Spot PS.f0 (0, 0) from ⟨⟨by decide, by decide⟩, Nat.zero_le _⟩) (⟨#[104, 116, 109, 108]⟩ : ByteArray) (by decide) (Sl.nil (T := tDA)) (Nat.zero_le _)
    rw [PS.f01] at z
    exact z))
  have HRS := Lib.hid (fun (wt v : World) (bs X B : Nat) (hv : BdAt m wt v X bs B PS.f1) => (show Calls Tryz.prog 85 #[.pointer (some ⟨X, 0, none⟩)] v fun e w' => e = .returned (.tuple #[]) ∧ BdTo m wt v w' X bs B PS.f2 from reset_tr hv (PS.limf1.more (by decide)) rfl rfl))
  have HNA := Lib.hid (fun (v : World) => (show Calls Tryz.prog 83 #[.string (⟨#[116, 114]⟩ : ByteArray)] v fun e w' => e = .returned (.bool true) ∧ Below v.heap.size v w' from by
    have z := name_any (⟨#[116, 114]⟩ : ByteArray) v (by decide)
    rw [show namedR (⟨#[116, 114]⟩ : ByteArray) lettersB = true from by decide +kernel] at z
    exact z))
  have HDONE := Lib.hid (fun (wt v : World) (bs X B : Nat) (hv : BdAt m wt v X bs B PS.f2) (hb : Below w1.heap.size w1 v) => doneC_at hv rfl (⟨#[60, 116, 100, 62, 121]⟩ : ByteArray) (⟨#[60, 116, 100, 62, 121]⟩ : ByteArray) (Lib.hid frag_clean) (by decide) (by decide) (fun u hu => HT.out.next (Nat.le_refl _) (HB1.out.trans ((hb.mono HB1.out.size).trans (hu.mono (Nat.le_trans HB1.out.size hb.size))))) (f := 3) (R := PS.f4) (by rw [PS.frag_toks]; exact frag_run) frag_small (fun u B' hat => by rw [PS.frag_toks]; exact frag_cond m u X bs B') (cx := (⟨#[116, 114]⟩ : ByteArray)) (xn := PS.nHtml [2]) rfl (by decide) (by decide) rfl)
  clear hb1 hk1 hz1 hm hT
  go_enter Tryz.func46, Tryz.ntmps46
  go_upto_region 1 with fail
  rw [← hw1]
  clear hw1
  go_upto_region 3 with (first
    | (go_at_call 83; refine (HNA.out _).mono ?_; rintro e w1b ⟨rfl, hb⟩; have HBA := Lib.hid hb; clear hb)
    | fail)
  go_upto_region 5 with fail
  have hfd := doc_fieldB
  go_upto_region 6 with (first
    | (go_at_call 42; refine (HNEW.out _).mono ?_; rintro e w2 ⟨rfl, hb, hz, hn⟩; have HB2 := Lib.hid hb; have HZ2 := Lib.hid hz; have HN2 := Lib.hid hn; clear hb hz hn)
    | fail)
  obtain ⟨w4, hw4⟩ : ∃ w4, w4 = w2.alloc (.cells (psCells PS.f0 (.slice (some ⟨w1b.heap.size + 1, 0, none⟩) 1 1) (.slice none 0 0) (.slice none 0 0)) 88) := ⟨_, rfl⟩
  have hbg := HBEG.out w1b w2 w4 HBA.out HB2.out HZ2.out HN2.out hw4
  have hw5 : w4 = w2.alloc (.cells #[.slice (some ⟨w1b.heap.size + 1, 0, none⟩) 1 1, .slice none 0 0, .slice none 0 0, .bool false, .int .i64 0, .int .i64 0, .int .i64 (-1), .int .i64 (-1), .bool false, .string (⟨#[116, 114]⟩ : ByteArray), .bool false] 88) := hw4
  rw [← hw5]
  have HAT := Lib.hid hbg.1
  have HB4 := Lib.hid (HBA.out.trans (hbg.2.mono HBA.out.size))
  have HBS := HBA.out.size
  have HBS1 : Hid (w1.heap.size ≤ w1b.heap.size) := HBS
  clear hbg hw4 hw5 HBS HNEW hfd
  go_wp2_with (first
    | (go_at_call 84; refine (HEL.out _ _ _ _ HAT.out).mono ?_; rintro e w5 ⟨rfl, hb⟩; have HT5 := Lib.hid hb; clear hb)
    | (go_at_call 85; refine (HRS.out _ _ _ _ _ HT5.out.at_).mono ?_; rintro e w6 ⟨rfl, hb⟩; have HT6 := Lib.hid hb; have HB6 := Lib.hid (HB4.out.trans ((HT5.out.low.trans hb.low).mono HBS1.out)); clear hb)
    | (go_at_call 43; refine (HDONE.out _ _ _ _ _ HT6.out.at_ HB6.out).mono ?_; rintro e w9 ⟨hd, hb⟩; obtain ⟨A, n, c, b, k, rfl, hcs2⟩ := hd.cases; have HD := Lib.hid hcs2; have hb9 := HB6.out.trans (hb.mono HBS1.out); have HB9 := Lib.hid hb9; have hk5 := (hb9.block w.heap.size (by have := HZ1.out; omega)).trans HK1.out; have K5 := Lib.hid hk5; have x0 := cell_blk (i := 0) (v := .slice none 0 0) hk5 rfl; have x1 := cell_blk (i := 1) (v := .bool false) hk5 rfl; have y0 : w9.frozen? ⟨w.heap.size, 0, none⟩ = false := free_blk hk5; have y1 : w9.frozen? ⟨w.heap.size, 1, none⟩ = false := free_blk hk5; clear hd hb hb9 hcs2 hk5)
    | fail)
  obtain ⟨w7, hw7⟩ : ∃ w7, w7 = (w9.setCell ⟨w.heap.size, 0, none⟩ (.slice A n c)).setCell ⟨w.heap.size, 1, none⟩ (.bool b) := ⟨_, rfl⟩
  rw [← hw7]
  have hk7 := sp_set (u := .slice A n c) (v := .bool b) K5.out
  rw [← hw7] at hk7
  have r0 := cell_blk (i := 0) (v := .slice A n c) hk7 rfl
  have r1 := cell_blk (i := 1) (v := .bool b) hk7 rfl
  have HW7 := Lib.hid hw7
  clear hw7 hk7 x0 x1 y0 y1
  refine bodyPost_ret (v := .tuple #[.agg #[.slice A n c, .bool b], .int .i64 k]) (by simp [results, Tryz.results46, go_sem, r0, r1]) rfl ⟨?_, ?_⟩
  · have hbs := HBS1.out
    have hz := HZ1.out
    rcases HD.out with ⟨h1, rfl, rfl, rfl, hs⟩ | ⟨h1, rfl, rfl, rfl, rfl, rfl⟩
    · refine .inl ⟨h1, A, c, rfl, ?_⟩
      have h7 := DoneV.put (DoneV.put hs (b := w.heap.size) (by omega) 0 (.slice A fragNs.length c)) (b := w.heap.size) (by omega) 1 (.bool PS.f4.quirks)
      rw [HW7.out]
      exact h7.more fun b hb => ⟨by have := hb.1; omega, hb.2⟩
    · exact .inr ⟨h1, rfl⟩
  · rw [HW7.out]
    exact ((HB1.out.trans (HB9.out.mono HB1.out.size)).setCell (p := ⟨w.heap.size, 0, none⟩) (Nat.le_refl _) _).setCell (p := ⟨w.heap.size, 1, none⟩) (Nat.le_refl _) _
end Go.Proofs.YtegcedboeemedaaGreatDoor

/-
buildBegun: one text, one fragment.
-/
namespace Go.Proofs.YtegcedboeemedaaGreatDoor
open Go.RowKit Go.Cl
attribute [local go_sem ↓] Go.wp_at_zero Go.wp_at_succ
theorem x_clean : (⟨#[120]⟩ : ByteArray) = (⟨(cleanL (signsL 0 ((⟨#[120]⟩ : ByteArray)).data.toList)).1.toArray⟩ : ByteArray) := by decide +kernel
abbrev xNs : List Nd := (PS.p7 (⟨#[120]⟩ : ByteArray)).nodes
theorem x_nodes : (plainR ((⟨#[120]⟩ : ByteArray)).data.toList).nodes = xNs := by
  unfold plainR
  rw [if_neg (by decide +kernel), show bs (((⟨#[120]⟩ : ByteArray)).data.toList.dropWhile blankB) = (⟨#[120]⟩ : ByteArray) from by decide +kernel]
theorem x_check : checkD xNs = 0 := by decide +kernel
theorem frag_check : checkD fragNs = 0 := by decide +kernel
theorem xdoc_at (m : Int) (w : World) (hm : maxLenAt w m) (hT : FoldTabs w) :
    Calls Tryz.prog 14 #[.string (⟨#[120]⟩ : ByteArray)] w fun e w' => ∃ A c, e = .returned (.tuple #[.agg #[.slice A 5 c, .bool true], .int .i64 0]) ∧ Sl tNd w' (lt w'.heap.size) A 5 c xNs ∧ Below w.heap.size w w' := by
  refine (docPlain_at m w hm hT (⟨#[120]⟩ : ByteArray) (⟨#[120]⟩ : ByteArray) (Lib.hid x_clean) (by decide) (by decide) (by decide +kernel) (by decide +kernel)).mono ?_
  rw [x_nodes]
  rintro e w' ⟨h1 | h1, hb⟩
  · obtain ⟨_, A, c, rfl, hs⟩ := h1
    exact ⟨A, c, rfl, hs.more fun b hb => hb.2, hb⟩
  · exact absurd x_check h1.1
theorem frag_at (m : Int) (w : World) (hm : maxLenAt w m) (hT : FoldTabs w) :
    Calls Tryz.prog 46 #[.string (⟨#[60, 116, 100, 62, 121]⟩ : ByteArray), .string (⟨#[116, 114]⟩ : ByteArray)] w fun e w' => ∃ A c, e = .returned (.tuple #[.agg #[.slice A 4 c, .bool PS.f4.quirks], .int .i64 0]) ∧ Sl tNd w' (lt w'.heap.size) A 4 c fragNs ∧ Below w.heap.size w w' := by
  refine (fragment_at m w hm hT).mono ?_
  rintro e w' ⟨h1 | h1, hb⟩
  · obtain ⟨_, A, c, rfl, hs⟩ := h1
    exact ⟨A, c, rfl, hs.more fun b hb => hb.2, hb⟩
  · exact absurd frag_check h1.1
set_option maxRecDepth 100000 in
set_option maxHeartbeats 4000000 in
theorem buildBegun_any (m : Int) (w : World) (hm : maxLenAt w m) (hT : FoldTabs w) :
    Calls Tryz.prog 18 #[] w fun e w' => e = .returned (.bool true) ∧ Below w.heap.size w w' := by
  have HDOC := Lib.hid (fun (v : World) (hb : Below w.heap.size w v) => xdoc_at m v (cell_be hm hb) (hT.next (Nat.le_refl _) hb))
  have HFR := Lib.hid (fun (v : World) (hb : Below w.heap.size w v) => frag_at m v (cell_be hm hb) (hT.next (Nat.le_refl _) hb))
  clear hm hT
  go_enter Tryz.func18, Tryz.ntmps18
  go_upto_region 2 with (first
    | (go_at_call 14; refine (HDOC.out _ (Below.refl _ _)).mono ?_; rintro e w1 ⟨A, c, rfl, hs, hb⟩; have HS := Lib.hid hs; have HB1 := Lib.hid hb; clear hs hb)
    | fail)
  obtain ⟨w2, hw2⟩ : ∃ w2, w2 = w1.alloc (.cells #[.slice A 5 c, .bool true] 33) := ⟨_, rfl⟩
  rw [← hw2]
  have hb2 : Below w1.heap.size w1 w2 := by rw [hw2]; exact (Below.refl _ _).alloc (Nat.le_refl _) _
  have hk2 : w2.heap[w1.heap.size]? = some (.cells #[.slice A 5 c, .bool true] 33 (0, 0)) := by rw [hw2]; exact heap_alloc_new w1 _
  have HB2 := Lib.hid (HB1.out.trans (hb2.mono HB1.out.size))
  have HS2 := Lib.hid (HS.out.below hb2 (Nat.le_refl _))
  have HSZ2 := Lib.hid hb2.size
  have HK2 := Lib.hid hk2
  clear hw2 hb2 hk2
  go_upto_region 3 with (first
    | (go_at_call 46; refine (HFR.out _ HB2.out).mono ?_; rintro e w3 ⟨A2, c2, rfl, hs, hb⟩; have HSF := Lib.hid hs; have HBF := Lib.hid hb; clear hs hb)
    | fail)
  obtain ⟨w4, hw4⟩ : ∃ w4, w4 = w3.alloc (.cells #[.slice A2 4 c2, .bool PS.f4.quirks] 33) := ⟨_, rfl⟩
  rw [← hw4]
  have hb4 : Below w3.heap.size w3 w4 := by rw [hw4]; exact (Below.refl _ _).alloc (Nat.le_refl _) _
  have hk4 : w4.heap[w3.heap.size]? = some (.cells #[.slice A2 4 c2, .bool PS.f4.quirks] 33 (0, 0)) := by rw [hw4]; exact heap_alloc_new w3 _
  have hb24 : Below w2.heap.size w2 w4 := HBF.out.trans (hb4.mono HBF.out.size)
  have HB4 := Lib.hid (HB2.out.trans (hb24.mono HB2.out.size))
  have hs4 := HS2.out.below hb24 HSZ2.out
  have hf4 := HSF.out.below hb4 (Nat.le_refl _)
  have hk1 := (hb24.block _ (Array.getElem?_eq_some_iff.1 HK2.out).1).trans HK2.out
  have d0 := cell_blk (i := 0) (v := .slice A 5 c) hk1 rfl
  have g0 := cell_blk (i := 0) (v := .slice A2 4 c2) hk4 rfl
  have hcA := hs4.hc
  have hcF := hf4.hc
  obtain ⟨b1, o1, rfl, hd1⟩ := doc_at hs4 (by decide)
  obtain ⟨b2, o2, rfl, hd2⟩ := doc_at hf4 (by decide)
  obtain ⟨_, _, _, _, _, _, _, _, _, _, j3, _⟩ := hd1.at_ 4 _ rfl
  obtain ⟨_, _, _, _, _, _, _, _, j1, _⟩ := hd2.at_ 1 _ rfl
  obtain ⟨_, _, _, _, _, _, _, _, j2, _⟩ := hd2.at_ 2 _ rfl
  have n4 : w4.cell? ⟨b1, o1 + 24 + 3, none⟩ = some (.string (⟨#[120]⟩ : ByteArray)) := j3
  have n1 : w4.cell? ⟨b2, o2 + 6 + 1, none⟩ = some (.string (⟨#[116, 114]⟩ : ByteArray)) := j1
  have n2 : w4.cell? ⟨b2, o2 + 12 + 1, none⟩ = some (.string (⟨#[116, 100]⟩ : ByteArray)) := j2
  clear j1 j2 j3 hd1 hd2
  clear hw4 hb4 hk4 hb24 hs4 hf4 hk1
  go_wp2_with fail
  go_ret
  exact ⟨rfl, HB4.out⟩
end Go.Proofs.YtegcedboeemedaaGreatDoor

/-
The plain laws of package chars: what is encoded is decoded; when a text is right.
-/
namespace Go.Proofs.YtegcedboeemedaaGreatDoor
open Go.RowKit Go.Cl

theorem mask_one : ∀ b : Fin 256, maskN (b.val : Nat) 1 = (b.val % 32 : Nat) := by decide +kernel
theorem mask_two : ∀ b : Fin 256, maskN (b.val : Nat) 2 = (b.val % 16 : Nat) := by decide +kernel
theorem mask_three : ∀ b : Fin 256, maskN (b.val : Nat) 3 = (b.val % 8 : Nat) := by decide +kernel
theorem step_eq {n b : Int} (h0 : 0 ≤ n) (h1 : n < 33554432) : stepN n b = n * 64 + b % 64 := by
  unfold stepN wrap32
  have e : (n * 64 + 2147483648) % 4294967296 - 2147483648 = n * 64 := by omega
  rw [e]
  exact i32_or6 (n * 64) (b % 64) (by omega) (by omega) (by omega) (by omega) (by omega)
theorem ofNat_toNat {n : Int} (h0 : 0 ≤ n) (h1 : n < 256) : (n.toNat.toUInt8.toNat : Int) = n := by
  have h : n.toNat < 256 := by omega
  simp [Nat.mod_eq_of_lt h]
  omega
theorem tail_zero (l : List UInt8) (lo hi n : Int) : tailR 0 l lo hi n = (n, 0) := by rw [tailR]
theorem tail_cons {b : UInt8} {r : List UInt8} {lo hi n c s : Int} (k : Nat) (e : (b.toNat : Int) = c) (h : ¬ (c < lo ∨ hi < c)) (hs : stepN n c = s) : tailR (k + 1) (b :: r) lo hi n = ((tailR k r 128 191 s).1, (tailR k r 128 191 s).2 + 1) := by
  subst e
  subst hs
  rw [tailR, if_neg h]
theorem oneL_eq {b : UInt8} {c : Int} (r : List UInt8) (k : Nat) {lo hi : Int} (e : (b.toNat : Int) = c) (h : leadR c = ((k : Int), lo, hi)) (hk : 0 < k) : oneL b r = ((tailR k r lo hi (maskN c k)).1, (tailR k r lo hi (maskN c k)).2 + 1) := by
  subst e
  unfold oneL
  rw [h]
  dsimp only
  rw [if_neg (by omega), if_neg (by omega), show ((k : Int)).toNat = k from by omega]
/-- A sign that may be is read as it was written. -/
theorem one_enc {r : Int} (h : Lib.validRune r = true) (t : List UInt8) : oneR (Lib.encodeRune r ++ t) = (r, (Lib.encodeRune r).length) := by
  have hv : (0 ≤ r ∧ r < 55296) ∨ (57343 < r ∧ r ≤ 1114111) := by unfold Lib.validRune at h; exact of_decide_eq_true h
  unfold Lib.encodeRune
  by_cases c1 : r ≤ 127
  · rw [Lib.encodeRuneZ_one (by omega) c1]
    show oneL r.toNat.toUInt8 t = _
    have e0 := ofNat_toNat (n := r) (by omega) (by omega)
    unfold oneL
    rw [e0, show leadR r = (0, 128, 191) from by unfold leadR; rw [if_pos (by omega)]]
    rfl
  by_cases c2 : r ≤ 2047
  · rw [Lib.encodeRuneZ_two (by omega) c2]
    show oneL (192 + r / 64).toNat.toUInt8 ((128 + r % 64).toNat.toUInt8 :: t) = _
    have e0 := ofNat_toNat (n := 192 + r / 64) (by omega) (by omega)
    have e1 := ofNat_toNat (n := 128 + r % 64) (by omega) (by omega)
    have m := mask_one ⟨(192 + r / 64).toNat, by omega⟩
    have hm : maskN (192 + r / 64) 1 = r / 64 := by
      simp only at m
      rw [show ((192 + r / 64).toNat : Int) = 192 + r / 64 from by omega] at m
      rw [m]; omega
    unfold oneL
    rw [e0, show leadR (192 + r / 64) = (1, 128, 191) from by unfold leadR; rw [if_neg (by omega), if_pos (by omega)]]
    simp only [show Int.toNat 1 = 1 from rfl, tailR]
    rw [e1, if_neg (by omega), if_neg (by omega), if_neg (by omega), hm, step_eq (by omega) (by omega)]
    simp only [List.map_cons, List.map_nil, List.length_cons, List.length_nil]
    rw [show r / 64 * 64 + (128 + r % 64) % 64 = r from by omega]
  by_cases c3 : r ≤ 65535
  · rw [Lib.encodeRuneZ_three (by omega)]
    show oneL (224 + r / 4096).toNat.toUInt8 ((128 + r / 64 % 64).toNat.toUInt8 :: (128 + r % 64).toNat.toUInt8 :: t) = _
    have e0 := ofNat_toNat (n := 224 + r / 4096) (by omega) (by omega)
    have e1 := ofNat_toNat (n := 128 + r / 64 % 64) (by omega) (by omega)
    have e2 := ofNat_toNat (n := 128 + r % 64) (by omega) (by omega)
    have m := mask_two ⟨(224 + r / 4096).toNat, by omega⟩
    have hm : maskN (224 + r / 4096) 2 = r / 4096 := by
      simp only at m
      rw [show ((224 + r / 4096).toNat : Int) = 224 + r / 4096 from by omega] at m
      rw [m]; omega
    have k1 : ¬ (128 + r / 64 % 64 < (if 224 + r / 4096 = 224 then 160 else 128) ∨ (if 224 + r / 4096 = 237 then 159 else 191) < 128 + r / 64 % 64) := by
      split <;> split <;> omega
    rw [oneL_eq _ 2 e0 (by unfold leadR; rw [if_neg (by omega), if_neg (by omega), if_pos (by omega)]; rfl) (by decide), show maskN (224 + r / 4096) ((2 : Nat) : Int) = r / 4096 from hm,
      tail_cons 1 e1 k1 (step_eq (by omega) (by omega)), tail_cons 0 e2 (by omega) (step_eq (by omega) (by omega)), tail_zero]
    refine Prod.ext ?_ rfl
    show (r / 4096 * 64 + (128 + r / 64 % 64) % 64) * 64 + (128 + r % 64) % 64 = r
    omega
  · rw [Lib.encodeRuneZ_four (by omega) (by omega)]
    show oneL (240 + r / 262144).toNat.toUInt8 ((128 + r / 4096 % 64).toNat.toUInt8 :: (128 + r / 64 % 64).toNat.toUInt8 :: (128 + r % 64).toNat.toUInt8 :: t) = _
    have e0 := ofNat_toNat (n := 240 + r / 262144) (by omega) (by omega)
    have e1 := ofNat_toNat (n := 128 + r / 4096 % 64) (by omega) (by omega)
    have e2 := ofNat_toNat (n := 128 + r / 64 % 64) (by omega) (by omega)
    have e3 := ofNat_toNat (n := 128 + r % 64) (by omega) (by omega)
    have m := mask_three ⟨(240 + r / 262144).toNat, by omega⟩
    have hm : maskN (240 + r / 262144) 3 = r / 262144 := by
      simp only at m
      rw [show ((240 + r / 262144).toNat : Int) = 240 + r / 262144 from by omega] at m
      rw [m]; omega
    have k1 : ¬ (128 + r / 4096 % 64 < (if 240 + r / 262144 = 240 then 144 else 128) ∨ (if 240 + r / 262144 = 244 then 143 else 191) < 128 + r / 4096 % 64) := by
      split <;> split <;> omega
    rw [oneL_eq _ 3 e0 (by unfold leadR; rw [if_neg (by omega), if_neg (by omega), if_neg (by omega), if_pos (by omega)]; rfl) (by decide), show maskN (240 + r / 262144) ((3 : Nat) : Int) = r / 262144 from hm,
      tail_cons 2 e1 k1 (step_eq (by omega) (by omega)), tail_cons 1 e2 (by omega) (step_eq (by omega) (by omega)), tail_cons 0 e3 (by omega) (step_eq (by omega) (by omega)), tail_zero]
    refine Prod.ext ?_ rfl
    show ((r / 262144 * 64 + (128 + r / 4096 % 64) % 64) * 64 + (128 + r / 64 % 64) % 64) * 64 + (128 + r % 64) % 64 = r
    omega

/-- The sign itself, or the wrong one. -/
def fixR (r : Int) : Int := if Lib.validRune r = true then r else 65533
theorem fix_valid (r : Int) : Lib.validRune (fixR r) = true := by
  unfold fixR
  split
  · assumption
  · decide
theorem enc_fix (r : Int) : Lib.encodeRune (fixR r) = Lib.encodeRune r := by
  unfold fixR
  split
  · rfl
  · rename_i h
    unfold Lib.encodeRune
    have h2 : Lib.validRune r = false := Bool.eq_false_iff.2 h
    unfold Lib.validRune at h2
    have h3 := of_decide_eq_false h2
    rw [Lib.encodeRuneZ_bad (r := r) (by omega)]
    rfl
theorem one_enc' (r : Int) (t : List UInt8) : oneR (Lib.encodeRune r ++ t) = (fixR r, (Lib.encodeRune r).length) := by
  rw [← enc_fix r]
  exact one_enc (fix_valid r) t
/-- The signs of a text, without their places. -/
def runesL (l : List UInt8) : List Int := (signsL 0 l).map fun x => x.1.2
theorem enc_pos (r : Int) : 0 < (Lib.encodeRune r).length := by
  rw [← Lib.runeCells_length]
  exact (Lib.runeCells_le r).1
theorem signs_map (l : List UInt8) : ∀ k, (signsL k l).map (fun x : Sg => x.1.2) = runesL l := by
  unfold runesL
  induction hn : l.length using Nat.strongRecOn generalizing l with
  | _ n ih =>
    intro k
    by_cases h : 0 < l.length
    · have ho := one_le h
      rw [signs_step h, signs_step h, List.map_cons, List.map_cons]
      have hd : (l.drop (oneR l).2).length < n := by rw [List.length_drop]; omega
      rw [ih _ hd _ rfl, ih _ hd _ rfl (0 + (oneR l).2)]
    · rw [signs_end (by omega), signs_end (by omega)]
theorem runes_step {l : List UInt8} (h : 0 < l.length) : runesL l = (oneR l).1 :: runesL (l.drop (oneR l).2) := by
  unfold runesL
  rw [signs_step h, List.map_cons, signs_map _ (0 + (oneR l).2)]
  rfl
/-- What is encoded is decoded, but for what may not be. -/
theorem runes_enc (m : List Int) : runesL (encB m) = m.map fixR := by
  induction m with
  | nil => rfl
  | cons r m ih =>
    have e : encB (r :: m) = Lib.encodeRune r ++ encB m := rfl
    have hp := enc_pos r
    rw [e, runes_step (by rw [List.length_append]; omega), one_enc', List.drop_left, ih]
    rfl
theorem enc_app (a b : List Int) : encB (a ++ b) = encB a ++ encB b := by unfold encB; rw [List.flatMap_append]
/-! ### when a text is right -/
/-! ### Clean -/
theorem clean_eq (l : List Sg) : cleanL l = (((l.map fun x => x.1.2).foldl (fun a r => (a.1 ++ cleanB a.2 r, r)) (([] : List UInt8), (0 : Int)))) := by
  unfold cleanL
  rw [List.foldl_map]
  rfl
/-- What Clean makes of signs, behind what was last. -/
def cleanR : Int → List Int → List Int
  | _, [] => []
  | last, r :: m => (if r = 0 then [65533] else if r = 13 ∨ (r = 10 ∧ last ≠ 13) then [10] else if r ≠ 10 then [fixR r] else []) ++ cleanR r m
theorem clean_fold (m : List Int) : ∀ (a : List UInt8) (last : Int), (m.foldl (fun a r => (a.1 ++ cleanB a.2 r, r)) (a, last)).1 = a ++ encB (cleanR last m) := by
  induction m with
  | nil => intro a last; simp [cleanR, encB]
  | cons r m ih =>
    intro a last
    rw [List.foldl_cons, ih]
    show a ++ cleanB last r ++ _ = _
    rw [List.append_assoc, cleanR, enc_app]
    congr 2
    unfold cleanB
    split
    · show _ = Lib.encodeRune 65533 ++ []
      rw [List.append_nil]
    · split
      · rfl
      · split
        · show _ = Lib.encodeRune (fixR r) ++ []
          rw [List.append_nil, enc_fix]
        · rfl
theorem clean_runes (l : List UInt8) : (cleanL (signsL 0 l)).1 = encB (cleanR 0 (runesL l)) := by
  rw [clean_eq, clean_fold, List.nil_append]
  rfl
/-- Signs of a clean text. -/
def cleanOne (r : Int) : Prop := Lib.validRune r = true ∧ r ≠ 0 ∧ r ≠ 13
theorem cleanR_one (m : List Int) : ∀ last, ∀ x ∈ cleanR last m, cleanOne x := by
  induction m with
  | nil => intro last x hx; cases hx
  | cons r m ih =>
    intro last x hx
    rw [cleanR, List.mem_append] at hx
    rcases hx with hx | hx
    · split at hx
      · simp at hx; subst hx; exact ⟨by decide, by decide, by decide⟩
      · split at hx
        · simp at hx; subst hx; exact ⟨by decide, by decide, by decide⟩
        · split at hx
          · rename_i h1 h2 h3
            simp at hx
            subst hx
            refine ⟨fix_valid r, ?_, ?_⟩
            · unfold fixR; split
              · exact h1
              · decide
            · unfold fixR; split
              · exact fun e => h2 (Or.inl e)
              · decide
          · cases hx
    · exact ih r x hx
/-- A clean text stays. -/
theorem cleanR_same (m : List Int) : ∀ last, last ≠ 13 → (∀ x ∈ m, cleanOne x) → cleanR last m = m := by
  induction m with
  | nil => intro last _ _; rfl
  | cons r m ih =>
    intro last hl h
    obtain ⟨h1, h2, h3⟩ := h r (by simp)
    rw [cleanR, ih r h3 (fun x hx => h x (by simp [hx])), if_neg h2]
    by_cases h10 : r = 10
    · rw [if_pos (Or.inr ⟨h10, hl⟩), h10]; rfl
    · rw [if_neg (by omega), if_pos h10]
      unfold fixR
      rw [if_pos h1]
      rfl
theorem map_fix_same {m : List Int} (h : ∀ x ∈ m, cleanOne x) : m.map fixR = m := by
  conv => rhs; rw [← List.map_id m]
  apply List.map_congr_left
  intro x hx
  unfold fixR
  rw [if_pos (h x hx).1]
  rfl
theorem clean_twice {m : List Int} (h : ∀ x ∈ m, cleanOne x) : (cleanL (signsL 0 (encB m))).1 = encB m := by
  rw [clean_runes, runes_enc, map_fix_same h, cleanR_same m 0 (by decide) h]
end Go.Proofs.YtegcedboeemedaaGreatDoor

/-
A clean text without two signs is clean.
-/
namespace Go.Proofs.YtegcedboeemedaaGreatDoor
open Go.RowKit Go.Cl
/-- What a replacer of the two signs leaves. -/
def keepB (b : UInt8) : Bool := b != 60 && b != 38
def cutL (l : List UInt8) : List UInt8 := l.filter keepB
theorem enc_keep {r : Int} (h : cleanOne r) (h1 : r ≠ 60) (h2 : r ≠ 38) : ∀ b ∈ Lib.encodeRune r, keepB b = true := by
  obtain ⟨hv, h0, h13⟩ := h
  have hv' : (0 ≤ r ∧ r < 55296) ∨ (57343 < r ∧ r ≤ 1114111) := by unfold Lib.validRune at hv; exact of_decide_eq_true hv
  intro b hb
  unfold Lib.encodeRune at hb
  obtain ⟨x, hx, rfl⟩ := List.mem_map.1 hb
  have hr := Lib.encodeRuneZ_byte r x hx
  have hn : x ≠ 60 ∧ x ≠ 38 := by
    by_cases c1 : r ≤ 127
    · rw [Lib.encodeRuneZ_one (by omega) c1] at hx
      simp at hx; omega
    by_cases c2 : r ≤ 2047
    · rw [Lib.encodeRuneZ_two (by omega) c2] at hx
      simp at hx; omega
    by_cases c3 : r ≤ 65535
    · rw [Lib.encodeRuneZ_three (by omega)] at hx
      simp at hx; omega
    · rw [Lib.encodeRuneZ_four (by omega) (by omega)] at hx
      simp at hx; omega
  have e := ofNat_toNat hr.1 hr.2
  unfold keepB
  have a1 : x.toNat.toUInt8 ≠ 60 := by intro h; rw [h] at e; simp at e; omega
  have a2 : x.toNat.toUInt8 ≠ 38 := by intro h; rw [h] at e; simp at e; omega
  simp [a1, a2]
theorem cutB_one {r : Int} (h : cleanOne r) : cutL (Lib.encodeRune r) = if r = 60 ∨ r = 38 then [] else Lib.encodeRune r := by
  by_cases h1 : r = 60
  · subst h1; decide +kernel
  by_cases h2 : r = 38
  · subst h2; decide +kernel
  rw [if_neg (by omega)]
  exact List.filter_eq_self.2 (enc_keep h h1 h2)
theorem cut_enc {m : List Int} (h : ∀ x ∈ m, cleanOne x) : cutL (encB m) = encB (m.filter fun r => !(r == 60 || r == 38)) := by
  induction m with
  | nil => rfl
  | cons r m ih =>
    have e : encB (r :: m) = Lib.encodeRune r ++ encB m := rfl
    have h1 := cutB_one (h r (List.mem_cons_self ..))
    have h2 := ih fun x hx => h x (List.mem_cons_of_mem _ hx)
    unfold cutL at h1 h2 ⊢
    rw [e, List.filter_append, h1, h2]
    by_cases hr : r = 60 ∨ r = 38
    · rw [if_pos hr, List.filter_cons_of_neg (by rcases hr with rfl | rfl <;> decide)]
      rfl
    · rw [if_neg hr, List.filter_cons_of_pos (by simpa using hr)]
      rfl
/-- What is left of a clean text is clean. -/
theorem cut_clean (l : List UInt8) : (cleanL (signsL 0 (cutL (cleanL (signsL 0 l)).1))).1 = cutL (cleanL (signsL 0 l)).1 := by
  have h := cleanR_one (runesL l) 0
  rw [clean_runes l, cut_enc h]
  exact clean_twice fun x hx => h x (List.mem_filter.1 hx).1
theorem cut_no (l : List UInt8) : (∀ b ∈ cutL l, b ≠ 60) ∧ ∀ b ∈ cutL l, b ≠ 38 := by
  constructor <;> intro b hb <;> have h := (List.mem_filter.1 hb).2 <;> unfold keepB at h <;> simp at h
  · exact h.1
  · exact h.2
theorem cut_len (l : List UInt8) : (cutL l).length ≤ l.length := List.length_filter_le _ _
end Go.Proofs.YtegcedboeemedaaGreatDoor

/-
cmp.Compare and slices.Compare over ints.
-/
namespace Go.Proofs.YtegcedboeemedaaGreatDoor
open Go.RowKit Go.Cl
attribute [local go_sem ↓] Go.wp_at_zero Go.wp_at_succ

def cmpI (a b : Int) : Int := if a < b then -1 else if b < a then 1 else 0
def cmpL : List Int → List Int → Int
  | [], [] => 0
  | [], _ :: _ => -1
  | _ :: _, [] => 1
  | a :: r, b :: s => if cmpI a b ≠ 0 then cmpI a b else cmpL r s
end Go.Proofs.YtegcedboeemedaaGreatDoor

/-
Points of a document: their room, their paths; the walks of span's ranger: room, path.
-/
namespace Go.Proofs.YtegcedboeemedaaGreatDoor
open Go.RowKit Go.Cl
attribute [local go_sem ↓] Go.wp_at_zero Go.wp_at_succ

/-- From a node up, kid by kid. -/
def stepsF (l : List Nd) : Nat → Int → List Int
  | 0, _ => []
  | f + 1, z => if z ≤ 0 then [] else (2 * Lib.idxOf (kidsD l (parD l z)) z + 1) :: stepsF l f (parD l z)
def stepsR (l : List Nd) (z : Int) : List Int := stepsF l (depZ l z) z
theorem Tree.steps_up {l : List Nd} (T : Tree l) {m : Nat} (hm : m < l.length) (h0 : 0 < m) : stepsR l m = (2 * Lib.idxOf (kidsD l (parD l m)) m + 1) :: stepsR l (parD l m) := by
  unfold stepsR
  rw [← T.dep_par hm, stepsF, if_neg (by omega)]
end Go.Proofs.YtegcedboeemedaaGreatDoor

/-
The walks of span's ranger: point, order.
-/
namespace Go.Proofs.YtegcedboeemedaaGreatDoor
open Go.RowKit Go.Cl
attribute [local go_sem ↓] Go.wp_at_zero Go.wp_at_succ

end Go.Proofs.YtegcedboeemedaaGreatDoor

/-
The walk of span's ranger: order.
-/
namespace Go.Proofs.YtegcedboeemedaaGreatDoor
open Go.RowKit Go.Cl
attribute [local go_sem ↓] Go.wp_at_zero Go.wp_at_succ

end Go.Proofs.YtegcedboeemedaaGreatDoor

/-
The walks of package span: points, Less.
-/
namespace Go.Proofs.YtegcedboeemedaaGreatDoor
open Go.RowKit Go.Cl
attribute [local go_sem ↓] Go.wp_at_zero Go.wp_at_succ

section
variable {w : World} {B : Nat} {A : Option Addr} {k c : Nat} {q : Bool} {l : List Nd} {hg hr : Nat} {u u' : World}
end
end Go.Proofs.YtegcedboeemedaaGreatDoor

/-
The walk of package span: Less.
-/
namespace Go.Proofs.YtegcedboeemedaaGreatDoor
open Go.RowKit Go.Cl
attribute [local go_sem ↓] Go.wp_at_zero Go.wp_at_succ

end Go.Proofs.YtegcedboeemedaaGreatDoor

/-
The order of points: a total one.
-/
namespace Go.Proofs.YtegcedboeemedaaGreatDoor
open Go.RowKit Go.Cl

theorem cmpI_self (a : Int) : cmpI a a = 0 := by
  unfold cmpI
  rw [if_neg (by omega), if_neg (by omega)]
theorem cmpI_neg {a b : Int} : cmpI a b < 0 ↔ a < b := by
  unfold cmpI
  by_cases h1 : a < b
  · rw [if_pos h1]; exact ⟨fun _ => h1, fun _ => by decide⟩
  · rw [if_neg h1]
    by_cases h2 : b < a
    · rw [if_pos h2]; exact ⟨fun h => absurd h (by decide), fun h => absurd h h1⟩
    · rw [if_neg h2]; exact ⟨fun h => absurd h (by decide), fun h => absurd h h1⟩
theorem cmpL_self : ∀ xs : List Int, cmpL xs xs = 0
  | [] => rfl
  | a :: r => by rw [cmpL, cmpI_self, if_neg (by simp)]; exact cmpL_self r
end Go.Proofs.YtegcedboeemedaaGreatDoor

/-
The walk of span's span.
-/
namespace Go.Proofs.YtegcedboeemedaaGreatDoor
open Go.RowKit Go.Cl
attribute [local go_sem ↓] Go.wp_at_zero Go.wp_at_succ

end Go.Proofs.YtegcedboeemedaaGreatDoor

/-
Ranges stay ranges, whatever is edited: the plain law. No program in sight.
-/
namespace Go.Proofs.YtegcedboeemedaaGreatDoor
open Go.RowKit Go.Cl

/-- Kid by kid, from the root down. -/
def downP (l : List Nd) (n : Nat) : List Int := (stepsR l n).reverse
theorem Tree.down_step {l : List Nd} (T : Tree l) {m p : Nat} (hm : m < l.length) (e : parD l m = (p : Int)) : downP l m = downP l p ++ [2 * Lib.idxOf (kidsD l p) m + 1] := by
  have h0 : 0 < m := by
    rcases Nat.eq_zero_or_pos m with h0 | h0
    · subst h0
      have := T.root
      rw [show ((0 : Nat) : Int) = 0 from rfl] at e
      omega
    · exact h0
  unfold downP
  rw [T.steps_up hm h0, e, List.reverse_cons]
/-! ### where a point goes -/
/-! ### what changes no tree -/
/-! ### a way down, turned behind one node -/
end Go.Proofs.YtegcedboeemedaaGreatDoor

/-
The texts of ranges, one behind the other: the plain law. No program in sight.
-/
namespace Go.Proofs.YtegcedboeemedaaGreatDoor
open Go.RowKit Go.Cl

theorem cmpL_pre : ∀ s a b : List Int, cmpL (s ++ a) (s ++ b) = cmpL a b
  | [], _, _ => rfl
  | x :: s, a, b => by
    rw [List.cons_append, List.cons_append, cmpL, cmpI_self, if_neg (by simp)]
    exact cmpL_pre s a b
def downZ (l : List Nd) (z : Int) : List Int := (stepsR l z).reverse
theorem downZ_nat (l : List Nd) (n : Nat) : downZ l n = downP l n := rfl
/-- The order rises. -/
theorem Tree.pre_sorted {l : List Nd} (T : Tree l) (f : Nat) : ∀ m : Nat, m < l.length → upN l m + f = 41 → (preR l m).Pairwise (fun x y => cmpL (downZ l x) (downZ l y) < 0) ∧ ∀ x ∈ preR l m, ∃ r, downZ l x = downZ l m ++ r := by
  induction f with
  | zero =>
    intro m hm hf
    have := (T.deep m hm).1
    omega
  | succ f ih =>
    intro m hm hf
    have hk : ∀ k ∈ kidsD l m, ∃ n : Nat, k = (n : Int) ∧ n < l.length ∧ parD l n = (m : Int) ∧ upN l n + f = 41 := fun k hk => by
      obtain ⟨n, e, hn, hp⟩ := T.kid hm hk
      exact ⟨n, e, hn, hp, by have := (T.up_par hn hp).2; omega⟩
    have hkd : ∀ (i : Nat) k, (kidsD l m)[i]? = some k → ∀ x ∈ preR l k, ∃ r, downZ l x = downZ l m ++ (2 * (i : Int) + 1) :: r := fun i k hi x hx => by
      obtain ⟨n, rfl, hn, hp, hu⟩ := hk k (List.mem_of_getElem? hi)
      obtain ⟨r, hr⟩ := (ih n hn hu).2 x hx
      refine ⟨r, ?_⟩
      rw [hr, downZ_nat, T.down_step hn hp, idx_uniq (T.nodup hm) hi, List.append_assoc]
      rfl
    rw [T.pre_step hm]
    refine ⟨List.pairwise_cons.2 ⟨fun y hy => ?_, List.pairwise_flatMap.2 ⟨fun k hkm => ?_, ?_⟩⟩, fun x hx => ?_⟩
    · obtain ⟨k, hkm, hy⟩ := List.mem_flatMap.1 hy
      obtain ⟨i, hi⟩ := List.mem_iff_getElem?.1 hkm
      obtain ⟨r, hr⟩ := hkd i k hi y hy
      rw [hr]
      have := cmpL_pre (downZ l m) [] ((2 * (i : Int) + 1) :: r)
      rw [List.append_nil] at this
      rw [this]
      show (-1 : Int) < 0
      decide
    · obtain ⟨n, rfl, hn, hp, hu⟩ := hk k hkm
      exact (ih n hn hu).1
    · refine List.pairwise_iff_getElem.2 fun i j hi hj hij x hx y hy => ?_
      obtain ⟨r, hr⟩ := hkd i _ (List.getElem?_eq_getElem hi) x hx
      obtain ⟨s, hs⟩ := hkd j _ (List.getElem?_eq_getElem hj) y hy
      rw [hr, hs, cmpL_pre, cmpL]
      have h1 : cmpI (2 * (i : Int) + 1) (2 * (j : Int) + 1) < 0 := cmpI_neg.2 (by omega)
      rw [if_pos (by omega)]
      exact h1
    · rcases List.mem_cons.1 hx with rfl | hx
      · exact ⟨[], (List.append_nil _).symm⟩
      · obtain ⟨k, hkm, hx⟩ := List.mem_flatMap.1 hx
        obtain ⟨i, hi⟩ := List.mem_iff_getElem?.1 hkm
        obtain ⟨r, hr⟩ := hkd i k hi x hx
        exact ⟨_, hr⟩
theorem Tree.pre_few {l : List Nd} (T : Tree l) {m : Nat} (hm : m < l.length) : (preR l m).length ≤ l.length := by
  obtain ⟨h1, _⟩ := T.pre_sorted (41 - upN l m) m hm (by have := (T.deep m hm).1; omega)
  have h2 := (T.pre_chain (41 - upN l m) m hm (by have := (T.deep m hm).1; omega)).2
  refine few_nats l.length _ (fun i j x hij hi hj => ?_) (fun x hx => by
    obtain ⟨n, e, hn, _⟩ := h2 x hx
    exact ⟨n, e, hn⟩)
  obtain ⟨hi1, hi2⟩ := List.getElem?_eq_some_iff.1 hi
  obtain ⟨hj1, hj2⟩ := List.getElem?_eq_some_iff.1 hj
  have := List.pairwise_iff_getElem.1 h1 i j hi1 hj1 hij
  rw [hi2, hj2, cmpL_self] at this
  exact absurd this (by decide)
/-! ### texts -/
def kindD (l : List Nd) (n : Int) : Int := (l[n.toNat]?.map Nd.kind).getD 0
def textD (l : List Nd) (n : Int) : ByteArray := (l[n.toNat]?.map Nd.text).getD ⟨#[]⟩
theorem kindD_at {l : List Nd} {m : Nat} {x : Nd} (h : l[m]? = some x) : kindD l m = x.kind := by
  unfold kindD; rw [Int.toNat_natCast, h]; rfl
theorem textD_at {l : List Nd} {m : Nat} {x : Nd} (h : l[m]? = some x) : textD l m = x.text := by
  unfold textD; rw [Int.toNat_natCast, h]; rfl
def wholeK (l : List Nd) (n : Int) : ByteArray := if kindD l n = 3 then textD l n else ⟨#[]⟩
def joinB (f : Int → ByteArray) (ns : List Int) : ByteArray := ns.foldl (fun s n => s ++ f n) ⟨#[]⟩
end Go.Proofs.YtegcedboeemedaaGreatDoor

/-
The walks of package dom: ask.
-/
namespace Go.Proofs.YtegcedboeemedaaGreatDoor
open Go.RowKit Go.Cl
attribute [local go_sem ↓] Go.wp_at_zero Go.wp_at_succ

/-- What ask says. -/
def askS (l : List Nd) (m : Int) : Int := if checkD l ≠ 0 then checkD l else if m < 0 ∨ (l.length : Int) ≤ m then 1 else 0
set_option maxRecDepth 100000 in
set_option maxHeartbeats 4000000 in
theorem ask_any (A : Option Addr) (n c : Nat) (l : List Nd) (q : Bool) (m : Int) (w : World) (B : Nat) (hl : Sl tNd w (lt B) A n c l) (hB : B ≤ w.heap.size) :
    Calls Tryz.prog 53 #[.agg #[.slice A n c, .bool q], .int .i64 m] w fun e w' => e = .returned (.int .i64 (askS l m)) ∧ Below w.heap.size w w' := by
  obtain ⟨w0, hw0⟩ : ∃ w0, w0 = w.alloc (.cells #[.slice A n c, .bool q] 33) := ⟨_, rfl⟩
  have hbx : w0.heap[w.heap.size]? = some (.cells #[.slice A n c, .bool q] 33 (0, 0)) := by rw [hw0]; exact heap_alloc_new w _
  have b0 : w0.cell? ⟨w.heap.size, 0, none⟩ = some (.slice A n c) := cell_blk hbx rfl
  have b1 : w0.cell? ⟨w.heap.size, 1, none⟩ = some (.bool q) := cell_blk hbx rfl
  have hb0 : Below w.heap.size w w0 := by rw [hw0]; exact (Below.refl _ _).alloc (Nat.le_refl _) _
  have HB0 := Lib.hid hb0
  have HBX := Lib.hid hbx
  have HN := Lib.hid hl.hn
  have HCH := Lib.hid (check_dom A n c l q w0 B (hl.below hb0 hB) (Nat.le_trans hB hb0.size))
  clear hb0 hbx hl
  go_enter Tryz.func53, Tryz.ntmps53
  go_upto_region 1 with fail
  rw [← hw0]
  clear hw0
  go_upto_region 2 with (go_at_call 20; refine HCH.out.mono ?_; rintro e w1 ⟨rfl, hb1⟩)
  have HB1 := Lib.hid (HB0.out.trans (hb1.mono HB0.out.size))
  have hbx1 := (hb1.block _ (Array.getElem?_eq_some_iff.1 HBX.out).1).trans HBX.out
  have y0 : w1.cell? ⟨w.heap.size, 0, none⟩ = some (.slice A n c) := cell_blk hbx1 rfl
  have y1 : w1.cell? ⟨w.heap.size, 1, none⟩ = some (.bool q) := cell_blk hbx1 rfl
  clear hb1 hbx1 b0 b1
  by_cases hce : checkD l = 0
  · by_cases hm : m < 0
    · have HR := Lib.hid (show askS l m = 1 from by unfold askS; rw [if_neg (by rw [hce]; simp), if_pos (Or.inl hm)])
      rw [hce]
      go_wp2_with fail
      go_ret
      exact ⟨by rw [HR.out]; rfl, HB1.out⟩
    · by_cases hm2 : (n : Int) ≤ m
      · have HR := Lib.hid (show askS l m = 1 from by unfold askS; rw [if_neg (by rw [hce]; simp), if_pos (Or.inr (by have := HN.out; omega))])
        rw [hce]
        go_wp2_with fail
        go_ret
        exact ⟨by rw [HR.out]; rfl, HB1.out⟩
      · have HR := Lib.hid (show askS l m = 0 from by unfold askS; rw [if_neg (by rw [hce]; simp), if_neg (by have := HN.out; omega)])
        rw [hce]
        go_wp2_with fail
        go_ret
        exact ⟨by rw [HR.out]; rfl, HB1.out⟩
  · have HR := Lib.hid (show askS l m = checkD l from by unfold askS; rw [if_pos hce])
    have hce1 : (checkD l == 0) = false := by simpa using hce
    generalize checkD l = e0 at *
    clear hce
    go_wp2_with fail
    go_ret
    exact ⟨by rw [HR.out]; rfl, HB1.out⟩
end Go.Proofs.YtegcedboeemedaaGreatDoor

/-
The walks of package dom: walk, Order.
-/
namespace Go.Proofs.YtegcedboeemedaaGreatDoor
open Go.RowKit Go.Cl
attribute [local go_sem ↓] Go.wp_at_zero Go.wp_at_succ

/-- The boxes of documents lie as they lay. -/
structure Boxes (w w' : World) : Prop where
  same : ∀ (k : Nat) (cs : Array Value) (fr : Nat × Nat), w.heap[k]? = some (.cells cs 33 fr) → w'.heap[k]? = some (.cells cs 33 fr)
theorem Boxes.refl (w : World) : Boxes w w := ⟨fun _ _ _ h => h⟩
theorem Boxes.trans {a b c : World} (h : Boxes a b) (k : Boxes b c) : Boxes a c := ⟨fun i cs fr hi => k.same i cs fr (h.same i cs fr hi)⟩
theorem Boxes.alloc (w : World) (o : Obj) : Boxes w (w.alloc o) := ⟨fun k _ _ hk => (Lib.alloc_old w o k (Array.getElem?_eq_some_iff.1 hk).1).trans hk⟩
theorem Boxes.own {w w' : World} {B n : Nat} {v : Value} {xs : List Int} (h : OwnF (tInt .i64) w B 3 v n xs) (hg : w.grownBy w' v.ownBlock) : Boxes w w' := by
  obtain ⟨cells, h, _⟩ := h
  refine ⟨fun k cs fr hk => (hg.block k (Array.getElem?_eq_some_iff.1 hk).1 ?_).trans hk⟩
  rcases h.2 with ⟨rfl, _⟩ | ⟨g, cap, cur, rfl, _, hc, _⟩
  · simp [Value.ownBlock]
  · intro e
    simp only [Value.ownBlock, Option.some.injEq] at e
    subst e
    rw [hc] at hk
    cases hk

theorem fm_len {f : Int → List Int} {xs : List Int} {j : Nat} {x : Int} (hx : xs[j]? = some x) : ((xs.take j).flatMap f).length + (f x).length ≤ (xs.flatMap f).length := by
  have hj := (List.getElem?_eq_some_iff.1 hx)
  have e : xs.flatMap f = (xs.take j).flatMap f ++ (f x ++ (xs.drop (j + 1)).flatMap f) := by
    conv => lhs; rw [← List.take_append_drop j xs, List.drop_eq_getElem_cons hj.1, hj.2]
    rw [List.flatMap_append, List.flatMap_cons]
  rw [e, List.length_append, List.length_append]
  omega
theorem fm_take {f : Int → List Int} {xs : List Int} {j : Nat} {x : Int} (hx : xs[j]? = some x) : (xs.take (j + 1)).flatMap f = (xs.take j).flatMap f ++ f x := by
  rw [List.take_add_one, hx, List.flatMap_append]
  simp

set_option maxRecDepth 100000 in
set_option maxHeartbeats 4000000 in
theorem pre_any (l : List Nd) (T : Tree l) (b o n c : Nat) (q : Bool) (_ : n ≤ c) (f : Nat) : ∀ (m : Nat) (xs : List Int) (v : Value) (w : World) (base : Nat), m < l.length → upN l m + f = 41 → OwnF (tInt .i64) w base 3 v xs.length xs → DocAt w base b o n l → base ≤ w.heap.size → xs.length + (preR l m).length ≤ 200 →
    Calls Tryz.prog 45 #[.agg #[.slice (some ⟨b, o, none⟩) n c, .bool q], .int .i64 (m : Int), v] w fun e w' => ∃ v', e = .returned v' ∧ OwnF (tInt .i64) w' base 3 v' (xs ++ preR l m).length (xs ++ preR l m) ∧ Below base w w' ∧ Boxes w w' := by
  induction f with
  | zero =>
    intro m xs v w base hm hf
    have := (T.deep m hm).1
    omega
  | succ f ih =>
    intro m xs v w base hm hf hown hd hB hlen
    have IH := Lib.hid ih
    have HPS := Lib.hid (T.pre_step hm)
    have HT := Lib.hid T
    have HLEN : Hid (xs.length + (((m : Int) :: (kidsD l m).flatMap (preR l)).length) ≤ 200) := by rw [← HPS.out]; exact hlen
    have HUP : Hid (∀ k ∈ kidsD l m, ∃ p : Nat, k = (p : Int) ∧ p < l.length ∧ upN l p + f = 41) := fun k hk => by
      obtain ⟨p, e, hp, hpar⟩ := T.kid hm hk
      exact ⟨p, e, hp, by have := (T.up_par hp hpar).2; omega⟩
    clear ih T
    obtain ⟨A2, c2, rfl⟩ := Own.form hown
    have HN := Lib.hid hd.hn
    have hx200 : xs.length ≤ 199 := by have := HLEN.out; rw [List.length_cons] at this; omega
    obtain ⟨w0, hw0⟩ : ∃ w0, w0 = w.alloc (.cells #[.slice (some ⟨b, o, none⟩) n c, .bool q] 33) := ⟨_, rfl⟩
    have hbx : w0.heap[w.heap.size]? = some (.cells #[.slice (some ⟨b, o, none⟩) n c, .bool q] 33 (0, 0)) := by rw [hw0]; exact heap_alloc_new w _
    have b0 : w0.cell? ⟨w.heap.size, 0, none⟩ = some (.slice (some ⟨b, o, none⟩) n c) := cell_blk hbx rfl
    have b1 : w0.cell? ⟨w.heap.size, 1, none⟩ = some (.bool q) := cell_blk hbx rfl
    have hb0 : Below base w w0 := by rw [hw0]; exact (Below.refl _ _).alloc hB _
    have hk0 : Boxes w w0 := by rw [hw0]; exact Boxes.alloc w _
    have ho0 : OwnF (tInt .i64) w0 base 3 (.slice A2 xs.length c2) xs.length xs := by rw [hw0]; exact OwnF.al hown _
    have HB0 := Lib.hid hb0
    have HK0 := Lib.hid hk0
    have HBX := Lib.hid hbx
    have HD0 := Lib.hid (hd.below hb0 (Nat.le_refl _))
    have hz0 : base ≤ w0.heap.size := Nat.le_trans hB hb0.size
    have HF : Hid (Lit.wf (.int .i64 (m : Int)) = true) := WalkArith.wf_i64 (by have := HT.out.small; omega)
    have hm200 : m < n := by have := HN.out; omega
    have hn200 : n ≤ 200 := by have := HN.out; have := HT.out.small; omega
    clear hb0 hk0 hbx hown hd hlen
    go_enter Tryz.func45, Tryz.ntmps45
    go_upto_region 1 with fail
    rw [← hw0]
    clear hw0
    go_upto_region 2 with (at_builtin; refine wpList_ap1 _ rfl (.tmp 9) (.tmp 11) 38 rfl elemI (v := .slice A2 xs.length c2) (D := fun _ => False) rfl (OwnF.al ho0 _) (fun _ h => h.elim) (y := (m : Int)) (cs := [.int .i64 (m : Int)]) rfl ⟨rfl, HF.out⟩ (cell_new w0 _ _) (by omega) (by omega) (by rw [World.size_alloc]; omega) ?_; intro v1 w1 hown1 hg1 hbl1 _)
    have hk1 : Boxes w0 w1 := (Boxes.alloc w0 _).trans (Boxes.own (OwnF.al ho0 _) hg1)
    have hb1 : Below base w0 w1 := ((Below.refl _ _).alloc hz0 _).trans hbl1
    have HK1 := Lib.hid (HK0.out.trans hk1)
    have HB1 := Lib.hid (HB0.out.trans hb1)
    have HBX1 := Lib.hid (hk1.same _ _ _ HBX.out)
    have y0 : w1.cell? ⟨w.heap.size, 0, none⟩ = some (.slice (some ⟨b, o, none⟩) n c) := cell_blk HBX1.out rfl
    have y1 : w1.cell? ⟨w.heap.size, 1, none⟩ = some (.bool q) := cell_blk HBX1.out rfl
    have HD1 := Lib.hid (HD0.out.below hb1 (Nat.le_refl _))
    have hz1 : base ≤ w1.heap.size := Nat.le_trans hz0 hb1.size
    obtain ⟨nd, hnd⟩ := get_some (l := l) hm
    obtain ⟨Aa, na, ca, Ak, nk, ck, hnat, _, _, _, _, _, c5⟩ := HD1.out.at_ m nd hnd
    have hks := hnat.kids
    rw [← kidsD_at hnd] at hks
    have hnk := hks.small
    have HKN := Lib.hid hks.hn
    have hck := hks.hc
    have HKS := Lib.hid hks
    have i1 : (0 : Int) ≤ (m : Int) := by omega
    have i2 : (m : Int) < (n : Int) := by omega
    have HO1 : Hid (OwnF (tInt .i64) w1 base 3 v1 (xs ++ [(m : Int)]).length (xs ++ [(m : Int)])) := by
      rw [List.length_append]
      exact hown1
    clear hown1 hg1 hbl1 hk1 hb1 hnat hks ho0 b0 b1 hnd
    generalize kidsD l m = ks at *
    go_wp2_with fail
    go_loopw [20, 2] (fun s u wr => ∃ (j : Nat) (ys : List Int), j ≤ nk ∧ s = .int .i64 (j : Int) ∧ Below base w1 wr ∧ Boxes w1 wr ∧ OwnF (tInt .i64) wr base 3 u ys.length ys ∧ Hid (ys = xs ++ (m : Int) :: (ks.take j).flatMap (preR l))) (fun s _ _ => nk - (intOf s).toNat)
    case atStart => exact ⟨0, _, Nat.zero_le _, rfl, Below.refl _ _, Boxes.refl _, HO1.out, Lib.hid rfl⟩
    case round =>
      obtain ⟨j, ys, hj, rfl, hb, hk, hown, HY⟩ := hrel
      have HBR := Lib.hid hb
      have HKR := Lib.hid hk
      obtain ⟨A3, c3, rfl⟩ := Own.form hown
      by_cases hlt : j < nk
      · obtain ⟨x, hx⟩ : ∃ x, ks[j]? = some x := get_some (by have := HKN.out; omega)
        obtain ⟨k, rfl, hkl, hup⟩ := HUP.out x (List.mem_of_getElem? hx)
        obtain ⟨gk, ok, rfl, _, cx, _⟩ := (HKS.out.below hb (Nat.le_refl _)).int hx
        have hyl : ys.length + (preR l (k : Int)).length ≤ 200 := by
          have h1 := HLEN.out
          have h2 := fm_len (f := preR l) hx
          have h3 := congrArg List.length HY.out
          rw [List.length_append, List.length_cons] at h3
          rw [List.length_cons] at h1
          omega
        have HC := Lib.hid (IH.out k ys _ wr base hkl hup hown (HD1.out.below hb (Nat.le_refl _)) (Nat.le_trans hz1 hb.size) hyl)
        have HY2 : Hid (ys ++ preR l (k : Int) = xs ++ (m : Int) :: (ks.take (j + 1)).flatMap (preR l)) := by
          show _ = _
          rw [fm_take hx, show ys = _ from HY.out, List.append_assoc]
          rfl
        have hbx2 := HKR.out.same _ _ _ HBX1.out
        have z0 : wr.cell? ⟨w.heap.size, 0, none⟩ = some (.slice (some ⟨b, o, none⟩) n c) := cell_blk hbx2 rfl
        have z1 : wr.cell? ⟨w.heap.size, 1, none⟩ = some (.bool q) := cell_blk hbx2 rfl
        clear hb hk hown hyl hx hbx2 hup
        generalize ys.length = ny at *
        go_wp2_with (go_at_call 45; refine HC.out.mono ?_; rintro e w2 ⟨v2, rfl, hown2, hb2, hk2⟩)
        go_roundw
        case rel => exact ⟨j + 1, _, by omega, by go_num, HBR.out.trans hb2, HKR.out.trans hk2, hown2, HY2⟩
        case measure => simp [intOf]; omega
      · have HYE : Hid (ys = xs ++ preR l m) := by
          show _ = _
          rw [show preR l m = _ from HPS.out, show ys = _ from HY.out, List.take_of_length_le (by have := HKN.out; omega)]
        go_wp2_with fail
        go_ret
        exact ⟨_, rfl, by rw [← show ys = _ from HYE.out]; exact hown, HB1.out.trans hb, HK1.out.trans hk⟩
end Go.Proofs.YtegcedboeemedaaGreatDoor

/-
The walks of package dom: Path.
-/
namespace Go.Proofs.YtegcedboeemedaaGreatDoor
open Go.RowKit Go.Cl
attribute [local go_sem ↓] Go.wp_at_zero Go.wp_at_succ

end Go.Proofs.YtegcedboeemedaaGreatDoor

/-
The walk of dom's TextOf (printed by gen/bdtextof.py).
-/
namespace Go.Proofs.YtegcedboeemedaaGreatDoor
open Go.RowKit Go.Cl
attribute [local go_sem ↓] Go.wp_at_zero Go.wp_at_succ
theorem join_step {f : Int → ByteArray} {ns : List Int} {i : Nat} {n : Int} (h : ns[i]? = some n) : joinB f (ns.take (i + 1)) = joinB f (ns.take i) ++ f n := by
  unfold joinB
  rw [take_snoc h, List.foldl_append]
  rfl

theorem join_size {f : Int → ByteArray} (hf : ∀ n, (f n).size ≤ 400) : ∀ ns : List Int, (joinB f ns).size ≤ 400 * ns.length := by
  have key : ∀ (ns : List Int) (s : ByteArray), (ns.foldl (fun s n => s ++ f n) s).size ≤ s.size + 400 * ns.length := by
    intro ns
    induction ns with
    | nil => intro s; simp
    | cons n r ih =>
      intro s
      have h1 := ih (s ++ f n)
      have h2 := hf n
      rw [ByteArray.size_append] at h1
      rw [List.foldl_cons, List.length_cons]
      omega
  intro ns
  have := key ns ⟨#[]⟩
  have e : (⟨#[]⟩ : ByteArray).size = 0 := rfl
  rw [e] at this
  unfold joinB
  omega

theorem Good.text_small {l : List Nd} (G : Good l) (n : Int) : (textD l n).size ≤ 400 := by
  unfold textD
  cases hx : l[n.toNat]? with
  | none => show (⟨#[]⟩ : ByteArray).size ≤ 400; decide
  | some x => exact ((nodeE_iff x).1 (G.each x (List.mem_of_getElem? hx))).2.2.2.1

theorem Good.whole_small {l : List Nd} (G : Good l) (n : Int) : (wholeK l n).size ≤ 400 := by
  have h := G.text_small n
  have e : (⟨#[]⟩ : ByteArray).size = 0 := rfl
  unfold wholeK
  split
  · exact h
  · rw [e]; omega

/-- What TextOf says. -/
def txtOf (l : List Nd) (n : Int) : ByteArray × Int := if askS l n ≠ 0 then (⟨#[]⟩, askS l n) else if kindD l n = 4 then (textD l n, 0) else (joinB (wholeK l) (preR l n), 0)
theorem ask_zero {l : List Nd} {z : Int} (h : askS l z = 0) : checkD l = 0 ∧ ∃ m : Nat, z = (m : Int) ∧ m < l.length := by
  unfold askS at h
  by_cases hc : checkD l = 0
  · rw [if_neg (by simpa using hc)] at h
    by_cases h1 : z < 0 ∨ (l.length : Int) ≤ z
    · rw [if_pos h1] at h; cases h
    · exact ⟨hc, z.toNat, by omega, by omega⟩
  · rw [if_pos hc] at h; exact absurd h hc
set_option maxRecDepth 100000 in
set_option maxHeartbeats 8000000 in
theorem textOf_any (A : Option Addr) (n c : Nat) (l : List Nd) (q : Bool) (z : Int) (w : World) (B : Nat) (hl : Sl tNd w (lt B) A n c l) (hB : B ≤ w.heap.size) :
    Calls Tryz.prog 25 #[.agg #[.slice A n c, .bool q], .int .i64 z] w fun e' w' => e' = .returned (.tuple #[.string (txtOf l z).1, .int .i64 (txtOf l z).2]) ∧ Below w.heap.size w w' := by
  obtain ⟨w0, hw0⟩ : ∃ w0, w0 = w.alloc (.cells #[.slice A n c, .bool q] 33) := ⟨_, rfl⟩
  have hb0 : Below w.heap.size w w0 := by rw [hw0]; exact (Below.refl _ _).alloc (Nat.le_refl _) _
  have hx1 : w0.heap[w.heap.size]? = some (.cells #[.slice A n c, .bool q] 33 (0, 0)) := by rw [hw0]; exact heap_alloc_new w _
  have HAS := Lib.hid (ask_any A n c l q z w0 B (hl.below hb0 hB) (Nat.le_trans hB hb0.size))
  have HB0 := Lib.hid hb0
  have HX1 := Lib.hid hx1
  have HL := Lib.hid hl
  have HBW : Hid (B ≤ w.heap.size) := hB
  have d0 := cell_blk (i := 0) hx1 rfl
  have d1 := cell_blk (i := 1) hx1 rfl
  clear hb0 hx1 hl hB
  go_enter Tryz.func25, Tryz.ntmps25
  go_upto_region 1 with fail
  rw [← hw0]
  clear hw0
  go_upto_region 2 with (go_at_call 53; refine HAS.out.mono ?_; rintro e' w1 ⟨rfl, hb1⟩)
  have HB1 := Lib.hid (HB0.out.trans (hb1.mono HB0.out.size))
  have hx2 := (hb1.block _ (Array.getElem?_eq_some_iff.1 HX1.out).1).trans HX1.out
  have HX2 := Lib.hid hx2
  clear hb1 d0 d1 HAS HB0 HX1 hx2
  by_cases ha : askS l z = 0
  · obtain ⟨hck, m, rfl, hml⟩ := ask_zero ha
    have G := good_of hck
    have T := tree_of hck
    obtain ⟨y, hy⟩ := get_some hml
    have hl1 := HL.out.below HB1.out HBW.out
    have hmn : m < n := by have := HL.out.hn; omega
    have hcap := HL.out.hc
    obtain ⟨bb, o, rfl, hd⟩ := doc_at hl1 (by omega)
    obtain ⟨_, _, _, _, _, _, _, k0, _, _, k3, _⟩ := hd.at_ m y hy
    have HTX := Lib.hid (textD_at hy)
    have HKD := Lib.hid (kindD_at hy)
    have d0 := cell_blk (i := 0) HX2.out rfl
    have d1 := cell_blk (i := 1) HX2.out rfl
    have i1 : (0 : Int) ≤ (m : Int) := by omega
    have i2 : (m : Int) < (n : Int) := by omega
    have HT1 := Lib.hid (show txtOf l m = if kindD l m = 4 then (textD l m, 0) else (joinB (wholeK l) (preR l m), 0) from if_neg (by simpa using ha))
    rw [ha]
    have HG := Lib.hid G
    have HTR := Lib.hid T
    have HML := Lib.hid hml
    have HD := Lib.hid hd
    clear ha hck G T hy hl1 hml hd
    by_cases hk : y.kind = 4
    · have HR := Lib.hid (HT1.out.trans (if_pos (HKD.out.trans hk)))
      have k4 : (y.kind == 4) = true := by simpa using hk
      clear hk
      go_wp2_with fail
      refine bodyPost_ret (v := .tuple #[.string y.text, .int .i64 0]) (by simp [results, Tryz.results25, go_sem]) rfl ⟨by rw [HR.out, HTX.out], HB1.out⟩
    · have HR1 := Lib.hid (HT1.out.trans (if_neg (fun h => hk (HKD.out.symm.trans h))))
      have k4 : (y.kind == 4) = false := beq_eq_false_iff_ne.2 hk
      have hfew : (preR l m).length ≤ 200 := Nat.le_trans (HTR.out.pre_few HML.out) HTR.out.small
      have HP := Lib.hid (pre_any l HTR.out bb o n c q hcap (41 - upN l (m : Nat)) m [] (.slice none 0 0) w1 w1.heap.size HML.out (by have := (HTR.out.deep m HML.out).1; omega) (OwnF.nil _ _ _) (HD.out.more (Nat.le_trans HBW.out HB1.out.size)) (Nat.le_refl _) (by show 0 + (preR l m).length ≤ 200; omega))
      have HIN : Hid (∀ x ∈ preR l m, ∃ k : Nat, x = (k : Int) ∧ k < l.length) := fun x hx => by
        obtain ⟨k, e, hk, _⟩ := (HTR.out.pre_chain (41 - upN l m) m HML.out (by have := (HTR.out.deep m HML.out).1; omega)).2 x hx
        exact ⟨k, e, hk⟩
      clear hk HT1
      go_upto_region 6 with fail
      rw [List.nil_append] at HP
      generalize preR l m = ns at *
      go_upto_region 8 with (go_at_call 45; refine HP.out.mono ?_; rintro e' w3 ⟨v3, rfl, hown, hb3, _⟩; obtain ⟨A8, c8, rfl⟩ := Own.form hown)
      have hs8 : Sl (tInt .i64) w3 (lt w3.heap.size) A8 ns.length c8 ns := by
        obtain ⟨A9, c9, e9, hs⟩ := OwnF.sl hown (by decide) (by show ns.length * 8 ≤ _; omega)
        simp only [Value.slice.injEq, true_and] at e9
        obtain ⟨rfl, rfl⟩ := e9
        exact hs
      have HS8 := Lib.hid hs8
      have hcap8 := hs8.hc
      have HX3 := Lib.hid ((hb3.block _ (Array.getElem?_eq_some_iff.1 HX2.out).1).trans HX2.out)
      have HB3 := Lib.hid (HB1.out.trans (hb3.mono HB1.out.size))
      have HD3 := Lib.hid (HD.out.below hb3 (Nat.le_trans HBW.out HB1.out.size))
      have HJS := Lib.hid (join_size (f := wholeK l) HG.out.whole_small)
      clear hb3 hown hs8 d0 d1 k0 k3 HP
      go_loopw [33, 7] (fun s o wr => ∃ i : Nat, i ≤ ns.length ∧ s = .int .i64 (i : Int) ∧ o = .string (joinB (wholeK l) (ns.take i)) ∧ Hid (wr = w3)) (fun s _ _ => ns.length - (intOf s).toNat)
      case atStart => exact ⟨0, Nat.zero_le _, rfl, rfl, Lib.hid rfl⟩
      case round =>
        obtain ⟨i, hi, rfl, rfl, HBR⟩ := hrel
        obtain rfl := HBR.out
        by_cases hlt : i < ns.length
        · obtain ⟨x, hx⟩ := get_some hlt
          obtain ⟨k, hm, hkl⟩ := HIN.out x (List.mem_of_getElem? hx)
          subst hm
          obtain ⟨u, hu⟩ := get_some hkl
          obtain ⟨b8, o8, e8, _, hcell, _⟩ := HS8.out.int hx
          subst e8
          obtain ⟨_, _, _, _, _, _, _, k0, _, _, k3, _⟩ := HD3.out.at_ k u hu
          have HKU := Lib.hid (kindD_at hu)
          have HTU := Lib.hid (textD_at hu)
          have hjs := HJS.out (ns.take i)
          rw [List.length_take] at hjs
          have HJ1 := Lib.hid (join_step (f := wholeK l) hx)
          have hps := HG.out.text_small (k : Int)
          rw [HTU.out] at hps
          have d0 := cell_blk (i := 0) HX3.out rfl
          have d1 := cell_blk (i := 1) HX3.out rfl
          have i3 : (0 : Int) ≤ (k : Int) := by omega
          have i4 : (k : Int) < (n : Int) := by have := HL.out.hn; omega
          have i5 : (0 : Int) ≤ (i : Int) := by omega
          have i6 : (i : Int) < (ns.length : Int) := by omega
          generalize joinB (wholeK l) (ns.take i) = acc at *
          have hacc : acc.size ≤ 80000 := by omega
          clear hjs hx hu hkl
          by_cases hk : u.kind = 3
          · have HPK := Lib.hid (show wholeK l k = u.text from (if_pos (HKU.out.trans hk)).trans HTU.out)
            rw [HPK.out] at HJ1
            have k3' : (u.kind == 3) = true := by simpa using hk
            clear hk
            go_wp2_with fail
            go_roundw
            case rel => exact ⟨i + 1, by omega, by go_num, by rw [HJ1.out], Lib.hid trivial⟩
            case measure => simp [intOf]; omega
          · have HPK := Lib.hid (show wholeK l k = ⟨#[]⟩ from if_neg (fun h => hk (HKU.out.symm.trans h)))
            rw [HPK.out] at HJ1
            have HJ2 := Lib.hid (HJ1.out.trans ByteArray.append_empty)
            have k3' : (u.kind == 3) = false := beq_eq_false_iff_ne.2 hk
            clear hk
            go_wp2_with fail
            go_roundw
            case rel => exact ⟨i + 1, by omega, by go_num, by rw [HJ2.out], Lib.hid trivial⟩
            case measure => simp [intOf]; omega
        · have e : ns.take i = ns := List.take_of_length_le (by omega)
          rw [e]
          generalize joinB (wholeK l) ns = acc at *
          clear e
          go_wp2_with fail
          refine bodyPost_ret (v := .tuple #[.string acc, .int .i64 0]) (by simp [results, Tryz.results25, go_sem]) rfl ⟨by rw [HR1.out], HB3.out⟩
  · have HR := Lib.hid (show txtOf l z = (⟨#[]⟩, askS l z) from if_pos ha)
    have j1 : (askS l z != 0) = true := by simpa using ha
    generalize askS l z = er at *
    clear ha
    go_wp2_with fail
    refine bodyPost_ret (v := .tuple #[.string ⟨#[]⟩, .int .i64 er]) (by simp [results, Tryz.results25, go_sem]) rfl ⟨by rw [HR.out], HB1.out⟩
end Go.Proofs.YtegcedboeemedaaGreatDoor

/-
A plain text's document: it is right, and its text is the text.
-/
namespace Go.Proofs.YtegcedboeemedaaGreatDoor
open Go.RowKit Go.Cl
theorem text_node {s : ByteArray} (h : s.size ≤ 400) : nodeE (PS.nText s) = 0 := by
  unfold nodeE
  rw [if_neg (by show ¬ ((3 : Int) < 1 ∨ 5 < (3 : Int) ∨ _); simp [PS.nText, bareB, parentB]), if_neg (by show ¬ ((3 : Int) = 2 ∧ _); simp), if_neg (by show ¬ (attrsE [] ≠ 0); decide +kernel), if_neg (by show ¬ (400 < s.size ∨ 400 < (⟨#[]⟩ : ByteArray).size); have : (⟨#[]⟩ : ByteArray).size = 0 := rfl; omega)]
theorem first_plain {s : ByteArray} (h : s.size ≤ 400) : firstE 0 (PS.p7 s).nodes = 0 := by
  have h0 : nodeE PS.nDoc = 0 := by decide +kernel
  have h1 : nodeE (PS.nHtml [2, 3]) = 0 := by decide +kernel
  have h2 : nodeE PS.nHead = 0 := by decide +kernel
  have h3 : nodeE (PS.nBody [4]) = 0 := by decide +kernel
  show firstE 0 [PS.nDoc, PS.nHtml [2, 3], PS.nHead, PS.nBody [4], PS.nText s] = 0
  simp only [firstE, h0, h1, h2, h3, text_node h]
  kernel_rfl
theorem kids_plain (s : ByteArray) : kidsE (PS.p7 s).nodes = 0 := by kernel_rfl
theorem last_plain (s : ByteArray) : lastE (PS.p7 s).nodes (List.range (PS.p7 s).nodes.length) = 0 := by kernel_rfl
theorem check7 {s : ByteArray} (h : s.size ≤ 400) : checkD (PS.p7 s).nodes = 0 := by
  unfold checkD
  rw [if_neg (by show ¬ (200 < 5); decide), if_neg (by show ¬ (5 = 0); decide), if_neg (by rw [first_plain h]; decide), if_neg (by rw [kids_plain]; decide), last_plain]
theorem check6 : checkD PS.p6.nodes = 0 := by decide +kernel
theorem text7 {s : ByteArray} (h : s.size ≤ 400) : txtOf (PS.p7 s).nodes 0 = (s, 0) := by
  have h1 : askS (PS.p7 s).nodes 0 = 0 := by
    unfold askS
    rw [if_neg (by rw [check7 h]; decide), if_neg (by show ¬ ((0 : Int) < 0 ∨ (5 : Int) ≤ 0); decide)]
  unfold txtOf
  rw [if_neg (by rw [h1]; decide), if_neg (by show ¬ ((1 : Int) = 4); decide), show preR (PS.p7 s).nodes 0 = [0, 1, 2, 3, 4] from by kernel_rfl]
  have e4 : wholeK (PS.p7 s).nodes 4 = s := rfl
  have e : ∀ k : Int, k ∈ [(0 : Int), 1, 2, 3] → wholeK (PS.p7 s).nodes k = ⟨#[]⟩ := by
    intro k hk
    simp at hk
    rcases hk with rfl | rfl | rfl | rfl <;> rfl
  unfold joinB
  simp only [List.foldl_cons, List.foldl_nil, e4, e 0 (by simp), e 1 (by simp), e 2 (by simp), e 3 (by simp)]
  refine Prod.ext (ByteArray.ext ?_) rfl
  simp
theorem text6 : txtOf PS.p6.nodes 0 = (⟨#[]⟩, 0) := by decide +kernel
/-- What the law says of a document of a plain text. -/
theorem plain_tree (l : List UInt8) (h : l.length ≤ 400) : checkD (plainR l).nodes = 0 ∧ txtOf (plainR l).nodes 0 = (bs (l.dropWhile blankB), 0) ∧ (plainR l).nodes.length ≤ 5 := by
  have hd : (l.dropWhile blankB).length ≤ l.length := (List.dropWhile_sublist _).length_le
  unfold plainR
  split
  · rename_i h0
    rw [h0]
    exact ⟨check6, text6, by decide⟩
  · have h1 : (bs (l.dropWhile blankB)).size ≤ 400 := by show (l.dropWhile blankB).toArray.size ≤ 400; simp; omega
    exact ⟨check7 h1, text7 h1, Nat.le_refl 5⟩
end Go.Proofs.YtegcedboeemedaaGreatDoor

/-
A replacer's sync.Once: what it defers, its lock, its slow road, Do, for one goroutine (after the kit's worked LazyParts, LazySlow, LazyWalks, turned to a function by its contract).
-/
namespace Go.Proofs.YtegcedboeemedaaGreatDoor
open Go.RowKit Go.Cl

theorem rp_disable (w : World) : (callFunc 206 #[]).run Tryz.prog w = .ok (.value (.tuple #[])) w := run_call_mark0 Tryz.func206 (by kernel_rfl) (by kernel_rfl) (by kernel_rfl) .disable (by kernel_rfl) w
theorem rp_enable (w : World) : (callFunc 208 #[]).run Tryz.prog w = .ok (.value (.tuple #[])) w := run_call_mark0 Tryz.func208 (by kernel_rfl) (by kernel_rfl) (by kernel_rfl) .enable (by kernel_rfl) w
theorem rp_acquire (a : Addr) (w : World) : (callFunc 209 #[.pointer (some a)]).run Tryz.prog w = .ok (.value (.tuple #[])) w := run_call_marked Tryz.func209 (by kernel_rfl) (by kernel_rfl) (by kernel_rfl) .acquire (by kernel_rfl) a w
theorem rp_merge (a : Addr) (w : World) : (callFunc 211 #[.pointer (some a)]).run Tryz.prog w = .ok (.value (.tuple #[])) w := run_call_marked Tryz.func211 (by kernel_rfl) (by kernel_rfl) (by kernel_rfl) .releaseMerge (by kernel_rfl) a w

/-- Bool.Store(true), deferred: the cell holds 1. -/
theorem rp_store (a : Addr) (x : Value) (u : FrameMode) (w : World) (hc : w.cell? a = some x) (hz : w.frozen? a = false) :
    CallsD Tryz.prog 130 #[.pointer (some a), .bool true] u w fun e u' w' => u' = u ∧ (e = .returned (.tuple #[]) ∧ w' = w.drew.setCell a (.int .u32 1)) := by
  have hc' : w.drew.cell? a = some x := by go_simp
  have hz' : w.drew.frozen? a = false := by go_simp
  have hst := run_call_store (P := Tryz.prog) Tryz.func165 (by kernel_rfl) (by kernel_rfl) (by kernel_rfl) (by kernel_rfl) (k := .u32) (y := 1) hc' hz'
  go_enter_d Tryz.func130, Tryz.ntmps130
  go_wp2
  go_region_calls
  all_goals (go_end0; exact ⟨rfl, rfl⟩)
set_option maxRecDepth 100000 in
set_option maxHeartbeats 1600000 in
/-- Mutex.Unlock, deferred, the lock held and nobody waiting. -/
theorem rp_unlock (a : Addr) (u : FrameMode) (w : World) (hc : w.cell? a = some (.int .i32 1)) (hz : w.frozen? a = false) :
    CallsD Tryz.prog 129 #[.pointer (some a)] u w fun e u' w' => u' = u ∧ (e = .returned (.tuple #[]) ∧ w' = w.setCell a (.int .i32 0)) := by
  have hd := rp_disable
  have he := rp_enable
  have hr := rp_merge
  have hadd := run_call_add (P := Tryz.prog) Tryz.func212 (by kernel_rfl) (by kernel_rfl) (by kernel_rfl) .i32 (by kernel_rfl) (y := -1) (s := 0) hc hz (by simp [go_sem]; rfl)
  have hcv := run_convert_to_unsafe (P := Tryz.prog) (src := 248) (dst := 163) Tryz.underlying248 Tryz.underlying163 (by kernel_rfl) hc
  go_enter_d Tryz.func129, Tryz.ntmps129
  go_wp2
  all_goals (try go_end0)
  all_goals (try go_wp2)
  all_goals (try go_end0)
  all_goals exact ⟨rfl, rfl⟩
set_option maxRecDepth 100000 in
set_option maxHeartbeats 1600000 in
/-- Mutex.Lock, the lock free. -/
theorem rp_lock (a : Addr) (w : World) (hc : w.cell? a = some (.int .i32 0)) (hz : w.frozen? a = false) :
    Calls Tryz.prog 128 #[.pointer (some a)] w fun e w' => e = .returned (.tuple #[]) ∧ w' = w.setCell a (.int .i32 1) := by
  have hd := rp_disable
  have he := rp_enable
  have ha := rp_acquire
  have hcas := run_call_cas_hit (P := Tryz.prog) Tryz.func207 (by kernel_rfl) (by kernel_rfl) (by kernel_rfl) .i32 (by kernel_rfl) (y := 1) hc hz
  have hc' : (w.setCell a (.int .i32 1)).cell? a = some (.int .i32 1) := World.cell?_setCell_same w a _ hc
  have hcv := run_convert_to_unsafe (P := Tryz.prog) (src := 248) (dst := 163) Tryz.underlying248 Tryz.underlying163 (by kernel_rfl) hc'
  go_enter Tryz.func128, Tryz.ntmps128
  go_wp2
  first | go_end0 | (simp only [Exit.inBlock, Exit.then]; refine bodyPost_ret (results_none rfl _ _ _) rfl ?_) | refine bodyPost_ret (results_none rfl _ _ _) rfl ?_
  all_goals (try go_wp2)
  all_goals (try go_end0)
  all_goals exact ⟨rfl, rfl⟩
set_option maxRecDepth 100000 in
set_option maxHeartbeats 1600000 in
/-- doSlow: not yet done, the lock free; the function's contract is given. -/
theorem rp_slow (b : Nat) (Q : World → Prop) (w : World)
    (h0 : w.cell? ⟨b, 0, none⟩ = some (.int .u32 0)) (h1 : w.cell? ⟨b, 1, none⟩ = some (.int .i32 0)) (f1 : w.frozen? ⟨b, 1, none⟩ = false)
    (HC : Calls Tryz.prog 52 #[.pointer (some ⟨b, 0, none⟩)] (w.setCell ⟨b, 1, none⟩ (.int .i32 1)) fun e v => e = .returned (.tuple #[]) ∧ Q v)
    (hQ : ∀ v, Q v → (v.cell? ⟨b, 0, none⟩ = some (.int .u32 0) ∧ v.cell? ⟨b, 1, none⟩ = some (.int .i32 1)) ∧ v.frozen? ⟨b, 0, none⟩ = false ∧ v.frozen? ⟨b, 1, none⟩ = false) :
    Calls Tryz.prog 90 #[.pointer (some ⟨b, 0, none⟩), .func (.func 52) #[.pointer (some ⟨b, 0, none⟩)] #[]] w fun e w' => e = .returned (.tuple #[]) ∧
      ∃ v, Q v ∧ w' = (v.drew.setCell ⟨b, 0, none⟩ (.int .u32 1)).setCell ⟨b, 1, none⟩ (.int .i32 0) := by
  have hl := run_call_load (P := Tryz.prog) Tryz.func127 (by kernel_rfl) (by kernel_rfl) (by kernel_rfl) .u32 (by kernel_rfl) (w := w.setCell ⟨b, 1, none⟩ (.int .i32 1)) (a := ⟨b, 0, none⟩) (x := 0) ((World.cell?_setCell_other _ ⟨b, 1, none⟩ ⟨b, 0, none⟩ _ (by simp)).trans h0)
  have hnot : ∀ (x : Bool) (w : World), (Op.unary .not (.bool x)).run Tryz.prog w = .ok (.bool (!x)) w := fun _ _ => rfl
  have HCH := Lib.hid HC
  clear HC
  go_enter_defers Tryz.func90, Tryz.ntmps90
  go_wp2_with (first
    | (go_at_call 128; refine (rp_lock ⟨b, 1, none⟩ _ (by go_simp) (by go_simp)).mono ?_; rintro e w' ⟨rfl, rfl⟩)
    | (go_at_call 52; refine HCH.out.mono ?_; rintro e v ⟨rfl, hv⟩)
    | (go_at_call 89; go_in))
  try go_wp2
  obtain ⟨⟨q0, q1⟩, z0, z1⟩ := hQ v hv
  refine leaves_cons (f := 130) (args := #[.pointer (some ⟨b, 0, none⟩), .bool true]) (by simp) (by simp [go_sem]) ?_
  refine (rp_store ⟨b, 0, none⟩ (.int .u32 0) .returning _ q0 z0).mono ?_
  rintro e u' w'' ⟨rfl, rfl, rfl⟩
  refine leaves_cons (f := 129) (args := #[.pointer (some ⟨b, 1, none⟩)]) (by simp [settle]) (by simp [go_sem]) ?_
  refine (rp_unlock ⟨b, 1, none⟩ _ _ ?_ (by simp [z1])).mono ?_
  · exact (World.cell?_setCell_other _ ⟨b, 0, none⟩ ⟨b, 1, none⟩ _ (by simp)).trans q1
  rintro e u' w'' ⟨rfl, rfl, rfl⟩
  simp [Leaves, settle, results, Tryz.results90]
  exact ⟨v, hv, rfl⟩
set_option maxRecDepth 100000 in
set_option maxHeartbeats 1600000 in
/-- Do: not yet done, the lock free. -/
theorem rp_do (b : Nat) (Q : World → Prop) (w : World)
    (h0 : w.cell? ⟨b, 0, none⟩ = some (.int .u32 0)) (h1 : w.cell? ⟨b, 1, none⟩ = some (.int .i32 0)) (f1 : w.frozen? ⟨b, 1, none⟩ = false)
    (HC : Calls Tryz.prog 52 #[.pointer (some ⟨b, 0, none⟩)] (w.setCell ⟨b, 1, none⟩ (.int .i32 1)) fun e v => e = .returned (.tuple #[]) ∧ Q v)
    (hQ : ∀ v, Q v → (v.cell? ⟨b, 0, none⟩ = some (.int .u32 0) ∧ v.cell? ⟨b, 1, none⟩ = some (.int .i32 1)) ∧ v.frozen? ⟨b, 0, none⟩ = false ∧ v.frozen? ⟨b, 1, none⟩ = false) :
    Calls Tryz.prog 51 #[.pointer (some ⟨b, 0, none⟩), .func (.func 52) #[.pointer (some ⟨b, 0, none⟩)] #[]] w fun e w' => e = .returned (.tuple #[]) ∧
      ∃ v, Q v ∧ w' = (v.drew.setCell ⟨b, 0, none⟩ (.int .u32 1)).setCell ⟨b, 1, none⟩ (.int .i32 0) := by
  have HSL := Lib.hid (rp_slow b Q w h0 h1 f1 HC hQ)
  have hl := run_call_load (P := Tryz.prog) Tryz.func127 (by kernel_rfl) (by kernel_rfl) (by kernel_rfl) .u32 (by kernel_rfl) h0
  have hnot : ∀ (x : Bool) (w : World), (Op.unary .not (.bool x)).run Tryz.prog w = .ok (.bool (!x)) w := fun _ _ => rfl
  clear HC hQ
  go_enter Tryz.func51, Tryz.ntmps51
  go_wp2_with (first | (go_at_call 90; refine HSL.out.mono ?_; rintro e w' ⟨rfl, hv⟩) | (go_at_call 89; go_in))
  all_goals (try go_end0)
  all_goals exact ⟨rfl, hv⟩
end Go.Proofs.YtegcedboeemedaaGreatDoor

/-
strings.NewReplacer: the pairs are kept as a list of its own.
-/
namespace Go.Proofs.YtegcedboeemedaaGreatDoor
open Go.RowKit Go.Cl
attribute [local go_sem ↓] Go.wp_at_zero Go.wp_at_succ
theorem rp_same {w w' : World} {b i : Nat} {v : Value} (hb : w'.heap[b]? = w.heap[b]?) (h : w.cell? ⟨b, i, none⟩ = some v) : w'.cell? ⟨b, i, none⟩ = some v := (World.cell?_of_block (a := ⟨b, i, none⟩) hb).trans h
theorem elemSt : ElemOf Tryz.prog 50 9 1 16 := mkElem Tryz.underlying50 (by kernel_rfl) (z := .string ⟨#[]⟩) rfl (by decide)
set_option maxRecDepth 100000 in
theorem newReplacer_any (w : World) (A : Option Addr) (c : Nat) (l : List ByteArray) (hl : Sl tStr w (lt w.heap.size) A 4 c l) :
    Calls Tryz.prog 23 #[.slice A 4 c] w fun e w' => ∃ w2 A2 c2, Below w.heap.size w w2 ∧ Sl tStr w2 (lt w2.heap.size) A2 4 c2 l ∧ (∃ g, A2 = some ⟨g, 0, none⟩) ∧ e = .returned (.pointer (some ⟨w2.heap.size, 0, none⟩)) ∧ w' = w2.alloc (.cells #[.int .u32 0, .int .i32 0, .int .u32 0, .nilIface, .slice A2 4 c2] 110) := by
  have hnil : OwnS w w.heap.size 9 (.slice none 0 0) 0 [] := Cl.Own.nil w w.heap.size 9 _
  go_enter Tryz.func23, Tryz.ntmps23
  go_wp2_with (at_builtin; (refine wpList_aps _ rfl (.const (.slice none 0 0)) (.tmp 8) 50 rfl elemSt (v := .slice none 0 0) rfl hnil rfl hl (by omega) (by omega) (Nat.le_refl _) ?_); intro v1 w1 hown1 hgr1 hbl1 _; obtain ⟨A2, c2, rfl, hs⟩ := OwnS.sl hown1 (by decide))
  go_ret
  refine ⟨w1, A2, c2, hbl1, hs, ?_, rfl, rfl⟩
  obtain ⟨cells, h1, _⟩ := hown1
  rcases h1.2 with ⟨e1, _⟩ | ⟨g, cap, cur, e1, _⟩
  · injection e1 with _ e2 _
    cases e2
  · injection e1 with e1 _ _
    exact ⟨g, e1⟩
end Go.Proofs.YtegcedboeemedaaGreatDoor

/-
(*strings.Replacer).build of two signs that go.
-/
namespace Go.Proofs.YtegcedboeemedaaGreatDoor
open Go.RowKit Go.Cl
attribute [local go_sem ↓] Go.wp_at_zero Go.wp_at_succ
noncomputable abbrev ZC : Array Value := Tryz.zeroCells193
/-- The table's cells as they are laid. -/
noncomputable abbrev zcAt (n : Nat) : List Value := ZC.toList.set 256 (.slice (some ⟨n, 0, none⟩) 0 2)
abbrev W2 (W : World) : World := W.alloc (.cells #[.string ⟨#[]⟩, .string ⟨#[]⟩] 9)
theorem rb_store (W : World) (n : Nat) : (storeCells ⟨W.heap.size + 1, 0, none⟩ (ZC.toList.set 256 (.slice (some ⟨n, 0, none⟩) 0 2))).run Tryz.prog ((W.alloc (.cells #[.string ⟨#[]⟩, .string ⟨#[]⟩] 9)).alloc (.cells ZC 193)) = .ok () ((W2 W).alloc (.cells (zcAt n).toArray 193)) := by
  have h := run_storeCells_new (P := Tryz.prog) (W2 W) 193 ZC (zcAt n).toArray (by kernel_rfl) (by kernel_rfl) (by kernel_rfl)
  rw [World.size_alloc] at h
  exact h
/-- The table under way: what lies at the two signs, which signs are listed. -/
structure RB (w v : World) (Y : Nat) (u38 u60 : Value) (A : Option Addr) (c : Nat) (L : List ByteArray) : Prop where
  low : Below w.heap.size w v
  cells : ∃ cs : List Value, v.heap[Y]? = some (.cells cs.toArray 193 (0, 0)) ∧ cs[38]? = some u38 ∧ cs[60]? = some u60 ∧ cs[256]? = some (.slice A L.length c) ∧ ∀ k, k < 256 → k ≠ 38 → k ≠ 60 → cs[k]? = some (.slice none 0 0)
  own : OwnS v w.heap.size 9 (.slice A L.length c) L.length L
theorem rb_one (w : World) (c : UInt8) : (convert 62 9 (.slice (some ⟨w.heap.size, 0, none⟩) 1 1)).run Tryz.prog (w.alloc (.cells #[.int .u8 (c.toNat : Int)] 5)) = .ok (.string ⟨#[c]⟩) (w.alloc (.cells #[.int .u8 (c.toNat : Int)] 5)) :=
  run_convert_bytes_back (w.alloc (.cells #[.int .u8 (c.toNat : Int)] 5)) _ _ 5 ⟨w.heap.size, 0, none⟩ 1 [c] Tryz.underlying62 Tryz.underlying5 Tryz.underlying9 fun j hj => by
    obtain rfl : j = 0 := by simpa using hj
    exact cell_new w [.int .u8 (c.toNat : Int)] 5 0 _ rfl
theorem rb_38 (w : World) : (convert 62 9 (.slice (some ⟨w.heap.size, 0, none⟩) 1 1)).run Tryz.prog (w.alloc (.cells #[.int .u8 38] 5)) = .ok (.string ⟨#[38]⟩) (w.alloc (.cells #[.int .u8 38] 5)) := rb_one w 38
theorem rb_60 (w : World) : (convert 62 9 (.slice (some ⟨w.heap.size, 0, none⟩) 1 1)).run Tryz.prog (w.alloc (.cells #[.int .u8 60] 5)) = .ok (.string ⟨#[60]⟩) (w.alloc (.cells #[.int .u8 60] 5)) := rb_one w 60
theorem rb_sl (w : World) (o : Obj) (x : ByteArray) (h : x.size ≤ 1000) : Sl tStr ((w.alloc o).alloc (.cells #[.string x] 9)) (lt (w.heap.size + 2)) (some ⟨w.heap.size + 1, 0, none⟩) 1 1 [x] := by
  have := Sl.fresh (T := tStr) (w := w.alloc o) (B := (w.alloc o).heap.size) (n := 1) 9 (row_strs [x] (by intro y hy; rw [List.mem_singleton.1 hy]; omega)) (Nat.le_refl _) rfl (by decide)
  rw [World.size_alloc] at this
  exact this
theorem rb_nil : ∀ W : World, (binOp .eql 62 (.slice none 0 0) (.slice none 0 0)).run Tryz.prog W = .ok (.bool true) W := fun _ => by kernel_rfl
/-- One round's stores. -/
theorem RB.put {w w1 v1 v2 : World} {Y : Nat} {A1 : Option Addr} {c1 : Nat} {L : List ByteArray} {cs : List Value} (hb : Below w.heap.size w w1) (hY : w.heap.size ≤ Y) (hk : w1.heap[Y]? = some (.cells cs.toArray 193 (0, 0))) (ho : OwnS w1 w.heap.size 9 (.slice A1 L.length c1) L.length L)
    (h1 : v1 = w1.setCell ⟨Y, 256, none⟩ (.slice A1 L.length c1)) (h2 : Below v1.heap.size v1 v2) (i : Nat) (x : Value) : Below w.heap.size w (v2.setCell ⟨Y, i, none⟩ x) ∧ (v2.setCell ⟨Y, i, none⟩ x).heap[Y]? = some (.cells ((cs.set 256 (.slice A1 L.length c1)).set i x).toArray 193 (0, 0)) ∧ OwnS (v2.setCell ⟨Y, i, none⟩ x) w.heap.size 9 (.slice A1 L.length c1) L.length L := by
  have hz1 : w1.heap.size = v1.heap.size := by rw [h1]; simp
  have hk1 : v1.heap[Y]? = some (.cells (cs.set 256 (.slice A1 L.length c1)).toArray 193 (0, 0)) := by rw [h1, set_blk hk]; simp
  have hb1 : Below w.heap.size w v1 := by rw [h1]; exact hb.setCell (p := ⟨Y, 256, none⟩) hY _
  have hk2 := (h2.block Y (Array.getElem?_eq_some_iff.1 hk1).1).trans hk1
  have hb2 : Below w.heap.size w v2 := hb1.trans (h2.mono hb1.size)
  have o1 : OwnF tStr v1 w.heap.size 9 (.slice A1 L.length c1) L.length L := by
    rw [h1]
    exact ownF_kept ho (grown_set w1 Y 256 _) (.inr (own_ne_block (by decide) ho hk))
  have o2 : OwnF tStr v2 w.heap.size 9 (.slice A1 L.length c1) L.length L := OwnF.below o1 h2 (Nat.le_refl _)
  refine ⟨hb2.setCell (p := ⟨Y, i, none⟩) hY _, by rw [set_blk hk2]; simp, ?_⟩
  exact ownF_kept o2 (grown_set v2 Y i x) (.inr (own_ne_block (by decide) o2 hk2))
theorem zc_is : ZC.toList = List.replicate 257 (.slice none 0 0) := by kernel_rfl
theorem zc_rest (n k : Nat) (h : k < 256) : (zcAt n)[k]? = some (.slice none 0 0) := by
  show (ZC.toList.set 256 _)[k]? = _
  rw [List.getElem?_set_ne (by omega), zc_is, List.getElem?_replicate, if_pos (by omega)]
def stB (j : Nat) (u38 u60 : Value) (L : List ByteArray) : Prop :=
  (j = 0 ∧ u38 = .slice none 0 0 ∧ u60 = .slice none 0 0 ∧ L = []) ∨ (j = 1 ∧ (∃ p k, u38 = .slice (some p) 0 k) ∧ u60 = .slice none 0 0 ∧ L = [(⟨#[38]⟩ : ByteArray)]) ∨ (j = 2 ∧ (∃ p k, u38 = .slice (some p) 0 k) ∧ (∃ p k, u60 = .slice (some p) 0 k) ∧ L = [(⟨#[38]⟩ : ByteArray), (⟨#[60]⟩ : ByteArray)])
set_option maxRecDepth 100000 in
set_option maxHeartbeats 4000000 in
theorem replBuild_any (w : World) (b g c : Nat) (h4 : w.cell? ⟨b, 4, none⟩ = some (.slice (some ⟨g, 0, none⟩) 4 c))
    (s0 : w.cell? ⟨g, 0, none⟩ = some (.string (⟨#[60]⟩ : ByteArray))) (s1 : w.cell? ⟨g, 1, none⟩ = some (.string ⟨#[]⟩)) (s2 : w.cell? ⟨g, 2, none⟩ = some (.string (⟨#[38]⟩ : ByteArray))) (s3 : w.cell? ⟨g, 3, none⟩ = some (.string ⟨#[]⟩)) :
    Calls Tryz.prog 91 #[.pointer (some ⟨b, 0, none⟩)] w fun e w' => ∃ Y A c p1 k1 p2 k2, e = .returned (.iface 194 (.pointer (some ⟨Y, 0, none⟩))) ∧ w.heap.size ≤ Y ∧ RB w w' Y (.slice (some p1) 0 k1) (.slice (some p2) 0 k2) A c [(⟨#[38]⟩ : ByteArray), (⟨#[60]⟩ : ByteArray)] := by
  have hmk : ∀ W : World, (Instr.makeSlice 50 (.int .i64 0) (.int .i64 2)).run Tryz.prog W = .ok (.slice (some ⟨W.heap.size, 0, none⟩) 0 2) (W.alloc (.cells #[.string ⟨#[]⟩, .string ⟨#[]⟩] 9)) := fun W => by kernel_rfl
  have hst := rb_store
  go_enter Tryz.func91, Tryz.ntmps91
  go_upto_region 6 with fail
  go_loopw [5, 4] (fun s o wr => ∃ i : Nat, i ≤ 2 ∧ s = .int .i64 ((2 * i : Nat) : Int) ∧ o = .bool (i == 0) ∧ Hid (wr = w)) (fun s _ _ => 4 - (intOf s).toNat)
  case atStart => exact ⟨0, Nat.zero_le _, rfl, rfl, Lib.hid rfl⟩
  case round =>
    obtain ⟨i, hi, rfl, rfl, HBR⟩ := hrel
    obtain rfl := HBR.out
    have hcs : i = 0 ∨ i = 1 ∨ i = 2 := by omega
    rcases hcs with rfl | rfl | rfl
    · go_wp2_with fail
      go_roundw
      case rel => exact ⟨1, by omega, rfl, rfl, Lib.hid trivial⟩
      case measure => simp [intOf]
    · go_wp2_with fail
      go_roundw
      case rel => exact ⟨2, by omega, rfl, rfl, Lib.hid trivial⟩
      case measure => simp [intOf]
    · go_upto_region 27 with fail
      obtain ⟨v0, hv0⟩ : ∃ v0, v0 = (W2 wr).alloc (.cells (zcAt wr.heap.size).toArray 193) := ⟨_, rfl⟩
      rw [← hv0]
      obtain ⟨Y, hY⟩ : ∃ Y, Y = wr.heap.size + 1 := ⟨_, rfl⟩
      rw [← hY]
      have hb0 : Below wr.heap.size wr v0 := by rw [hv0]; exact ((Below.refl _ _).alloc (Nat.le_refl _) _).alloc (by show wr.heap.size ≤ _; rw [World.size_alloc]; omega) _
      have hk0 : v0.heap[Y]? = some (.cells (zcAt wr.heap.size).toArray 193 (0, 0)) := by
        rw [hY, hv0]
        have := heap_alloc_new (W2 wr) (.cells (zcAt wr.heap.size).toArray 193)
        rw [World.size_alloc] at this
        exact this
      have hh0 : v0.heap[wr.heap.size]? = some (.cells #[.string ⟨#[]⟩, .string ⟨#[]⟩] 9 (0, 0)) := by
        rw [hv0]
        exact (((Below.refl (W2 wr).heap.size (W2 wr)).alloc (Nat.le_refl _) _).block _ (by rw [World.size_alloc]; omega)).trans (heap_alloc_new wr _)
      have HRB : Hid (RB wr v0 Y (.slice none 0 0) (.slice none 0 0) (some ⟨wr.heap.size, 0, none⟩) 2 []) := Lib.hid ⟨hb0, ⟨_, hk0, zc_rest _ 38 (by decide), zc_rest _ 60 (by decide), by kernel_rfl, fun k h _ _ => zc_rest _ k h⟩, ⟨[], ⟨rfl, .inr ⟨wr.heap.size, 2, _, rfl, Nat.le_refl _, hh0, Nat.zero_le _, by decide, rfl, rfl⟩⟩, Row.nil⟩⟩
      clear hv0 hk0 hb0 hh0 hmk hst
      have HY : Hid (Y = wr.heap.size + 1) := Lib.hid hY
      clear hY
      obtain ⟨w0, rfl⟩ : ∃ w0, w0 = wr := ⟨_, rfl⟩
      go_upto_region 28 with fail
      go_loopw [12] (fun s wr => ∃ (j : Nat) (u38 u60 : Value) (A : Option Addr) (c : Nat) (L : List ByteArray), s = .int .i64 (2 - 2 * (j : Int)) ∧ Hid (RB w0 wr Y u38 u60 A c L) ∧ Hid (stB j u38 u60 L)) (fun s _ => (intOf s + 2).toNat)
      case atStart => exact ⟨0, _, _, _, _, _, rfl, HRB, Lib.hid (.inl ⟨rfl, rfl, rfl, rfl⟩)⟩
      case round =>
        obtain ⟨j, u38, u60, A, c2, L, rfl, HRW, HST⟩ := hrel
        obtain ⟨cs, hk, e38, e60, e256, er⟩ := HRW.out.cells
        have q0 := cell_be s0 HRW.out.low
        have q1 := cell_be s1 HRW.out.low
        have q2 := cell_be s2 HRW.out.low
        have q3 := cell_be s3 HRW.out.low
        have t38 := cell_blk (i := 38) (v := u38) hk (by simpa using e38)
        have t60 := cell_blk (i := 60) (v := u60) hk (by simpa using e60)
        have t256 := cell_blk (i := 256) (v := .slice A L.length c2) hk (by simpa using e256)
        have HK := Lib.hid hk
        have b38 : (((⟨#[38]⟩ : ByteArray) : ByteArray)[0]'(by decide)).toNat = 38 := by decide +kernel
        have b60 : (((⟨#[60]⟩ : ByteArray) : ByteArray)[0]'(by decide)).toNat = 60 := by decide +kernel
        have z38 : wr.frozen? ⟨Y, 38, none⟩ = false := free_blk hk
        have z60 : wr.frozen? ⟨Y, 60, none⟩ = false := free_blk hk
        have z256 : wr.frozen? ⟨Y, 256, none⟩ = false := free_blk hk
        have HE := Lib.hid (And.intro e38 (And.intro e60 (And.intro e256 er)))
        clear hk e38 e60 e256 er
        rcases HST.out with ⟨rfl, rfl, rfl, rfl⟩ | ⟨rfl, ⟨p1, k1, rfl⟩, rfl, rfl⟩ | ⟨rfl, ⟨p1, k1, rfl⟩, ⟨p2, k2, rfl⟩, rfl⟩
        · have hnl := rb_nil
          have hc38 := rb_38
          go_upto_region 33 with fail
          go_upto_region 34 with ((at_builtin; refine wpList_aps _ rfl (.tmp 119) (.tmp 123) 50 rfl elemSt (v := .slice A 0 c2) rfl ((HRW.out.own.al _).al _) rfl (rb_sl wr _ (⟨#[38]⟩ : ByteArray) (by decide)) (by decide) (by decide) (by have := HRW.out.low.size; simp only [World.size_alloc]; omega) ?_; intro v1 w1 hown1 hgr1 hbl1 _; obtain ⟨A1, c1, rfl, hs1⟩ := OwnS.sl hown1 (by decide); have hyl := (Array.getElem?_eq_some_iff.1 HK.out).1; have hk1 := (hgr1.block Y (by rw [World.size_alloc, World.size_alloc]; omega) (fun e => own_ne_block (by decide) HRW.out.own HK.out e.symm)).trans (((((Below.refl wr.heap.size wr).alloc (Nat.le_refl _) _).alloc (by rw [World.size_alloc]; omega) _).block Y hyl).trans HK.out); have y256 := rp_same (hk1.trans HK.out.symm) t256; have y38 := rp_same (hk1.trans HK.out.symm) t38; have f256 : w1.frozen? ⟨Y, 256, none⟩ = false := free_blk hk1; have f38 : w1.frozen? ⟨Y, 38, none⟩ = false := free_blk hk1; have HK1 := Lib.hid hk1; have HOWN := Lib.hid hown1; have HBL := Lib.hid hbl1; clear hk1 hown1 hgr1 hbl1 hs1 t38 t60 t256 z38 z60 z256))
          obtain ⟨v1, hv1⟩ : ∃ v1, v1 = w1.setCell ⟨Y, 256, none⟩ (.slice A1 1 c1) := ⟨_, rfl⟩
          rw [← hv1]
          have hk2 : v1.heap[Y]? = some (.cells (cs.set 256 (.slice A1 1 c1)).toArray 193 (0, 0)) := by rw [hv1, set_blk HK1.out]; simp
          have HCV := Lib.run_convert_string_bytes (P := Tryz.prog) v1 _ _ 5 ⟨#[]⟩ Tryz.underlying9 Tryz.underlying62 Tryz.underlying5
          have hb2 := Joins.below_bytesWorld v1.heap.size v1 5 ⟨#[]⟩ (Nat.le_refl _)
          obtain ⟨v2, hv2⟩ : ∃ v2, v2 = Lib.bytesWorld v1 5 ⟨#[]⟩ := ⟨_, rfl⟩
          rw [← hv2] at HCV hb2
          have hk3 := (hb2.block Y (Array.getElem?_eq_some_iff.1 hk2).1).trans hk2
          have x38 := cell_blk (i := 38) (v := .slice none 0 0) hk3 (by simpa using HE.out.1)
          have g38 : v2.frozen? ⟨Y, 38, none⟩ = false := free_blk hk3
          have HK3 := Lib.hid hk3
          have HB2 := Lib.hid hb2
          have HV1 := Lib.hid hv1
          clear hk2 hb2 hk3 hv1 hv2 y256 y38 f256 f38
          go_wp2_with fail
          have hz := HRW.out.low.size
          have hbw : Below w0.heap.size w0 w1 := HRW.out.low.trans ((((Below.refl w0.heap.size wr).alloc hz _).alloc (by rw [World.size_alloc]; omega) _).trans HBL.out)
          obtain ⟨p1, p2, p3⟩ := RB.put (L := [(⟨#[38]⟩ : ByteArray)]) hbw (by have := HY.out; omega) HK1.out HOWN.out HV1.out HB2.out 38 (.slice (some ⟨v1.heap.size, 0, none⟩) 0 (grownCap v1 0 0 5))
          obtain ⟨e38, e60, e256, er⟩ := HE.out
          have l38 := (List.getElem?_eq_some_iff.1 e256).1
          refine ⟨⟨1, .slice (some ⟨v1.heap.size, 0, none⟩) 0 (grownCap v1 0 0 5), .slice none 0 0, A1, c1, [(⟨#[38]⟩ : ByteArray)], rfl, Lib.hid ⟨p1, ⟨_, p2, ?_, ?_, ?_, ?_⟩, p3⟩, Lib.hid (.inr (.inl ⟨rfl, ⟨_, _, rfl⟩, rfl, rfl⟩))⟩, by simp [intOf]⟩
          · rw [List.getElem?_set_self (by rw [List.length_set]; omega)]
          · rw [List.getElem?_set_ne (by decide), List.getElem?_set_ne (by decide)]; exact e60
          · rw [List.getElem?_set_ne (by decide), List.getElem?_set_self l38]
          · intro k h1 h2 h3
            rw [List.getElem?_set_ne (by omega), List.getElem?_set_ne (by omega)]
            exact er k h1 h2 h3
        · have hnl := rb_nil
          have hc60 := rb_60
          go_upto_region 33 with fail
          go_upto_region 34 with ((at_builtin; refine wpList_aps _ rfl (.tmp 119) (.tmp 123) 50 rfl elemSt (v := .slice A 1 c2) rfl ((HRW.out.own.al _).al _) rfl (rb_sl wr _ (⟨#[60]⟩ : ByteArray) (by decide)) (by decide) (by decide) (by have := HRW.out.low.size; simp only [World.size_alloc]; omega) ?_; intro v1 w1 hown1 hgr1 hbl1 _; obtain ⟨A1, c1, rfl, hs1⟩ := OwnS.sl hown1 (by decide); have hyl := (Array.getElem?_eq_some_iff.1 HK.out).1; have hk1 := (hgr1.block Y (by rw [World.size_alloc, World.size_alloc]; omega) (fun e => own_ne_block (by decide) HRW.out.own HK.out e.symm)).trans (((((Below.refl wr.heap.size wr).alloc (Nat.le_refl _) _).alloc (by rw [World.size_alloc]; omega) _).block Y hyl).trans HK.out); have y256 := rp_same (hk1.trans HK.out.symm) t256; have y60 := rp_same (hk1.trans HK.out.symm) t60; have f256 : w1.frozen? ⟨Y, 256, none⟩ = false := free_blk hk1; have f60 : w1.frozen? ⟨Y, 60, none⟩ = false := free_blk hk1; have HK1 := Lib.hid hk1; have HOWN := Lib.hid hown1; have HBL := Lib.hid hbl1; clear hk1 hown1 hgr1 hbl1 hs1 t38 t60 t256 z38 z60 z256))
          obtain ⟨v1, hv1⟩ : ∃ v1, v1 = w1.setCell ⟨Y, 256, none⟩ (.slice A1 2 c1) := ⟨_, rfl⟩
          rw [← hv1]
          have hk2 : v1.heap[Y]? = some (.cells (cs.set 256 (.slice A1 2 c1)).toArray 193 (0, 0)) := by rw [hv1, set_blk HK1.out]; simp
          have HCV := Lib.run_convert_string_bytes (P := Tryz.prog) v1 _ _ 5 ⟨#[]⟩ Tryz.underlying9 Tryz.underlying62 Tryz.underlying5
          have hb2 := Joins.below_bytesWorld v1.heap.size v1 5 ⟨#[]⟩ (Nat.le_refl _)
          obtain ⟨v2, hv2⟩ : ∃ v2, v2 = Lib.bytesWorld v1 5 ⟨#[]⟩ := ⟨_, rfl⟩
          rw [← hv2] at HCV hb2
          have hk3 := (hb2.block Y (Array.getElem?_eq_some_iff.1 hk2).1).trans hk2
          have x60 := cell_blk (i := 60) (v := .slice none 0 0) hk3 (by simpa using HE.out.2.1)
          have g60 : v2.frozen? ⟨Y, 60, none⟩ = false := free_blk hk3
          have HK3 := Lib.hid hk3
          have HB2 := Lib.hid hb2
          have HV1 := Lib.hid hv1
          clear hk2 hb2 hk3 hv1 hv2 y256 y60 f256 f60
          go_wp2_with fail
          have hz := HRW.out.low.size
          have hbw : Below w0.heap.size w0 w1 := HRW.out.low.trans ((((Below.refl w0.heap.size wr).alloc hz _).alloc (by rw [World.size_alloc]; omega) _).trans HBL.out)
          obtain ⟨r1, r2, r3⟩ := RB.put (L := [(⟨#[38]⟩ : ByteArray), (⟨#[60]⟩ : ByteArray)]) hbw (by have := HY.out; omega) HK1.out HOWN.out HV1.out HB2.out 60 (.slice (some ⟨v1.heap.size, 0, none⟩) 0 (grownCap v1 0 0 5))
          obtain ⟨e38, e60, e256, er⟩ := HE.out
          have l38 := (List.getElem?_eq_some_iff.1 e256).1
          refine ⟨⟨2, .slice (some p1) 0 k1, .slice (some ⟨v1.heap.size, 0, none⟩) 0 (grownCap v1 0 0 5), A1, c1, [(⟨#[38]⟩ : ByteArray), (⟨#[60]⟩ : ByteArray)], rfl, Lib.hid ⟨r1, ⟨_, r2, ?_, ?_, ?_, ?_⟩, r3⟩, Lib.hid (.inr (.inr ⟨rfl, ⟨_, _, rfl⟩, ⟨_, _, rfl⟩, rfl⟩))⟩, by simp [intOf]⟩
          · rw [List.getElem?_set_ne (by decide), List.getElem?_set_ne (by decide)]; exact e38
          · rw [List.getElem?_set_self (by rw [List.length_set]; omega)]
          · rw [List.getElem?_set_ne (by decide), List.getElem?_set_self l38]
          · intro k h1 h2 h3
            rw [List.getElem?_set_ne (by omega), List.getElem?_set_ne (by omega)]
            exact er k h1 h2 h3
        · clear t38 t60 t256 z38 z60 z256
          go_wp2_with fail
          go_ret
          exact ⟨Y, A, c2, p1, k1, p2, k2, rfl, by have := HY.out; omega, HRW.out⟩
end Go.Proofs.YtegcedboeemedaaGreatDoor

/-
What a replacer of two signs that go counts, and leaves. No program in sight.
-/
namespace Go.Proofs.YtegcedboeemedaaGreatDoor
open Go.RowKit Go.Cl
/-- How many of the two signs stand there. -/
def goneN (l : List UInt8) : Nat := (l.filter fun b => !keepB b).length
theorem gone_cut : ∀ l : List UInt8, (cutL l).length + goneN l = l.length := by
  intro l
  unfold cutL goneN
  induction l with
  | nil => rfl
  | cons b t ih =>
    cases h : keepB b <;> simp [h] <;> omega
theorem gone_le (l : List UInt8) : goneN l ≤ l.length := List.length_filter_le _ _
theorem gone_none {l : List UInt8} (h : goneN l = 0) : cutL l = l := by
  unfold cutL
  refine List.filter_eq_self.2 fun b hb => ?_
  cases hk : keepB b with
  | true => rfl
  | false =>
    have : b ∈ l.filter fun b => !keepB b := List.mem_filter.2 ⟨hb, by rw [hk]; rfl⟩
    have h0 := List.length_eq_zero_iff.1 h
    rw [h0] at this
    cases this
theorem take_next {l : List UInt8} {k : Nat} {b : UInt8} (hb : l[k]? = some b) : l.take (k + 1) = l.take k ++ [b] := by
  rw [List.take_add_one, hb]
  rfl
theorem cut_next {l : List UInt8} {k : Nat} {b : UInt8} (hb : l[k]? = some b) : cutL (l.take (k + 1)) = cutL (l.take k) ++ if keepB b then [b] else [] := by
  rw [take_next hb]
  unfold cutL
  rw [List.filter_append]
  cases h : keepB b <;> simp [h]
theorem gone_next {l : List UInt8} {k : Nat} {b : UInt8} (hb : l[k]? = some b) : goneN (l.take (k + 1)) = goneN (l.take k) + if keepB b then 0 else 1 := by
  rw [take_next hb]
  unfold goneN
  rw [List.filter_append]
  cases h : keepB b <;> simp [h]
theorem cut_take_le (l : List UInt8) (k : Nat) : (cutL (l.take k)).length ≤ (cutL l).length := by
  have h : l = l.take k ++ l.drop k := (List.take_append_drop k l).symm
  have : cutL l = cutL (l.take k) ++ cutL (l.drop k) := by
    unfold cutL
    rw [← List.filter_append, List.take_append_drop]
  rw [this, List.length_append]
  omega
theorem cut_take_lt {l : List UInt8} {k : Nat} {b : UInt8} (hb : l[k]? = some b) (h : keepB b = true) : (cutL (l.take k)).length < (cutL l).length := by
  have h1 := cut_take_le l (k + 1)
  rw [cut_next hb, if_pos h, List.length_append] at h1
  simp at h1
  omega
theorem gone_count (l : List UInt8) : goneN l = Lib.countByte l 38 + Lib.countByte l 60 := by
  unfold goneN Lib.countByte
  induction l with
  | nil => rfl
  | cons b t ih =>
    rw [List.count_cons, List.count_cons]
    by_cases h1 : b = 38
    · subst h1
      rw [List.filter_cons_of_pos (by decide), List.length_cons, ih]
      simp
      omega
    by_cases h2 : b = 60
    · subst h2
      rw [List.filter_cons_of_pos (by decide), List.length_cons, ih]
      simp
      omega
    rw [List.filter_cons_of_neg (by unfold keepB; simp [h1, h2]), ih]
    simp [h1, h2]
end Go.Proofs.YtegcedboeemedaaGreatDoor

/-
(*strings.byteStringReplacer).Replace: two signs go.
-/
namespace Go.Proofs.YtegcedboeemedaaGreatDoor
open Go.RowKit Go.Cl
attribute [local go_sem ↓] Go.wp_at_zero Go.wp_at_succ
/-- What lies in the table at a sign. -/
def rbV (u38 u60 : Value) (b : UInt8) : Value := if b = 38 then u38 else if b = 60 then u60 else .slice none 0 0
/-- The table whole, behind a block. -/
structure RT (b : Nat) (v : World) (Y : Nat) : Prop where
  low : b < Y
  all : ∃ (cs : List Value) (p1 p2 : Addr) (k1 k2 : Nat) (A : Option Addr) (c : Nat), v.heap[Y]? = some (.cells cs.toArray 193 (0, 0)) ∧ (∀ x : UInt8, cs[x.toNat]? = some (rbV (.slice (some p1) 0 k1) (.slice (some p2) 0 k2) x)) ∧ cs[256]? = some (.slice A 2 c) ∧ Sl tStr v (fun k => b < k ∧ k < v.heap.size) A 2 c [(⟨#[38]⟩ : ByteArray), (⟨#[60]⟩ : ByteArray)]
theorem RT.keep {b : Nat} {v v' : World} {Y : Nat} (h : RT b v Y) (hs : v.heap.size ≤ v'.heap.size) (hb : ∀ k, b < k → k < v.heap.size → v'.heap[k]? = v.heap[k]?) : RT b v' Y := by
  obtain ⟨cs, p1, p2, k1, k2, A, c, hk, h1, h2, h3⟩ := h.all
  refine ⟨h.low, cs, p1, p2, k1, k2, A, c, (hb Y h.low (Array.getElem?_eq_some_iff.1 hk).1).trans hk, h1, h2, (h3.keep fun p hp => World.cell?_of_block (hb p.block hp.1 hp.2)).more fun k hk => ⟨hk.1, by omega⟩⟩
theorem RT.of {w v : World} {b Y : Nat} {p1 p2 : Addr} {k1 k2 : Nat} {A : Option Addr} {c : Nat} (h : RB w v Y (.slice (some p1) 0 k1) (.slice (some p2) 0 k2) A c [(⟨#[38]⟩ : ByteArray), (⟨#[60]⟩ : ByteArray)]) (hY : w.heap.size ≤ Y) (hb : b < w.heap.size) : RT b v Y := by
  obtain ⟨cs, hk, e38, e60, e256, er⟩ := h.cells
  refine ⟨by omega, cs, p1, p2, k1, k2, A, c, hk, fun x => ?_, e256, ?_⟩
  · unfold rbV
    by_cases h1 : x = 38
    · rw [if_pos h1, h1]; exact e38
    rw [if_neg h1]
    by_cases h2 : x = 60
    · rw [if_pos h2, h2]; exact e60
    rw [if_neg h2]
    exact er _ x.toNat_lt (fun e => h1 (by have := congrArg Nat.toUInt8 e; simpa using this)) (fun e => h2 (by have := congrArg Nat.toUInt8 e; simpa using this))
  · exact (Own.sl h.own (by decide) (by decide)).more fun k hk => hk.elim False.elim fun hk => ⟨by have := hk.1; omega, hk.2⟩
theorem rb_keep {b : UInt8} : keepB b = true ↔ b ≠ 38 ∧ b ≠ 60 := by
  unfold keepB
  simp
  exact And.comm
theorem make_u8 (w : World) (n : Nat) (hn : n ≤ 1000000) : (Instr.makeSlice 62 (.int .i64 (n : Int)) (.int .i64 (n : Int))).run Tryz.prog w = .ok (.slice (some ⟨w.heap.size, 0, none⟩) n n) (w.alloc (.cells (List.replicate n (Value.int .u8 0)).toArray 5)) := by
  obtain ⟨i0, hi, hz0, hz1, hz2⟩ := info_parts (show (Tryz.prog.info? 5).map (fun i => (i.zero, i.size, i.bytes)) = some (some (.int .u8 0), 1, 1) from by kernel_rfl)
  have h := run_makeSlice (P := Tryz.prog) w 62 5 i0 (.int .u8 0) Tryz.underlying62 hi hz0 .i64 .i64 (n : Int) (n : Int) (by omega) (Int.le_refl _) (by rw [hz1]; simp; omega) (by rw [hz2]; omega) (by omega)
  rw [h, hz1]
  have e : madeCells (Value.int .u8 0).cells (((n : Int)).toNat * 1) = (List.replicate n (Value.int .u8 0)).toArray := by
    apply Array.toList_inj.1
    rw [show (Value.int .u8 0).cells = #[Value.int .u8 0] from rfl, toList_madeCells_one]
    simp
  rw [e]
  rfl
set_option maxRecDepth 100000 in
set_option maxHeartbeats 1000000 in
theorem buildOnce_any (w : World) (b g c : Nat) (hk : w.heap[b]? = some (.cells #[.int .u32 0, .int .i32 1, .int .u32 0, .nilIface, .slice (some ⟨g, 0, none⟩) 4 c] 110 (0, 0)))
    (s0 : w.cell? ⟨g, 0, none⟩ = some (.string (⟨#[60]⟩ : ByteArray))) (s1 : w.cell? ⟨g, 1, none⟩ = some (.string ⟨#[]⟩)) (s2 : w.cell? ⟨g, 2, none⟩ = some (.string (⟨#[38]⟩ : ByteArray))) (s3 : w.cell? ⟨g, 3, none⟩ = some (.string ⟨#[]⟩)) :
    Calls Tryz.prog 52 #[.pointer (some ⟨b, 0, none⟩)] w fun e v => e = .returned (.tuple #[]) ∧ ∃ Y, Below b w v ∧ RT b v Y ∧ v.heap[b]? = some (.cells #[.int .u32 0, .int .i32 1, .int .u32 0, .iface 194 (.pointer (some ⟨Y, 0, none⟩)), .slice none 0 0] 110 (0, 0)) := by
  have hlt := (Array.getElem?_eq_some_iff.1 hk).1
  have HB := Lib.hid (replBuild_any w b g c (cell_blk hk rfl) s0 s1 s2 s3)
  have HK := Lib.hid hk
  clear hk s0 s1 s2 s3
  go_enter Tryz.func52, Tryz.ntmps52
  go_wp2_with (first
    | (go_at_call 91; refine HB.out.mono ?_; rintro e w1 ⟨Y, A, c', p1, k1, p2, k2, rfl, hY, hRB⟩; have hk1 := (hRB.low.block b hlt).trans HK.out; have c3 := cell_blk (i := 3) (v := .nilIface) hk1 rfl; have c4 := cell_blk (i := 4) (v := .slice (some ⟨g, 0, none⟩) 4 c) hk1 rfl; have f3 : w1.frozen? ⟨b, 3, none⟩ = false := free_blk hk1; have f4 : w1.frozen? ⟨b, 4, none⟩ = false := free_blk hk1; have HK1 := Lib.hid hk1; have HRB := Lib.hid hRB; have HY := Lib.hid hY; clear hk1 hRB hY)
    | fail)
  have hk2 := set_blk (i := 3) HK1.out (.iface 194 (.pointer (some ⟨Y, 0, none⟩)))
  have hk3 := set_blk (i := 4) hk2 (.slice none 0 0)
  refine bodyPost_end (results_none rfl _ _ _) rfl ⟨rfl, Y, ?_, ?_, hk3⟩
  · exact ((HRB.out.low.mono (Nat.le_of_lt hlt)).setCell (p := ⟨b, 3, none⟩) (Nat.le_refl b) _).setCell (p := ⟨b, 4, none⟩) (Nat.le_refl b) _
  · refine (RT.of HRB.out HY.out hlt).keep (by simp) fun k h1 h2 => ?_
    exact (Below.heap_setCell _ _ _ _ (by show k ≠ b; omega)).trans (Below.heap_setCell _ _ _ _ (by show k ≠ b; omega))
theorem rb_nn : ∀ W : World, (binOp .neq 62 (.slice none 0 0) (.slice none 0 0)).run Tryz.prog W = .ok (.bool false) W := fun _ => by kernel_rfl
theorem rb_np (p : Addr) (c : Nat) : ∀ W : World, (binOp .neq 62 (.slice (some p) 0 c) (.slice none 0 0)).run Tryz.prog W = .ok (.bool true) W := fun _ => by kernel_rfl
theorem rb_less (a b : Int) (h0 : 0 ≤ b) (hb : b ≤ a) (ha : a ≤ 100000) : wrap64 (a + wrap64 (-b)) = a - b := by
  unfold wrap64
  omega
theorem rb_one_less (a : Int) (h0 : 0 ≤ a) (ha : a ≤ 100000) : wrap64 (a + -1) = a - 1 := by
  unfold wrap64
  omega
theorem rp_method (Y : Nat) : ∀ (k : Nat) (W : World), (method (k + 1) 194 (.pointer (some ⟨Y, 0, none⟩)) "Replace").run Tryz.prog W = .ok (360, .pointer (some ⟨Y, 0, none⟩)) W := fun _ _ => by kernel_rfl
/-- How many have gone behind so many listed signs. -/
def rbN (l : List UInt8) : Nat → Nat
  | 0 => 0
  | 1 => Lib.countByte l 38
  | _ => Lib.countByte l 38 + Lib.countByte l 60
set_option maxRecDepth 100000 in
set_option maxHeartbeats 4000000 in
theorem bsr_any (b : Nat) (w : World) (Y : Nat) (hR : RT b w Y) (s : ByteArray) (hs : s.size ≤ 100000) :
    Calls Tryz.prog 360 #[.pointer (some ⟨Y, 0, none⟩), .string s] w fun e w' => e = .returned (.string (bs (cutL s.data.toList))) ∧ Below w.heap.size w w' := by
  obtain ⟨cs, p1, p2, k1, k2, A, c, hk, hall, h256, hsl⟩ := hR.all
  obtain ⟨g, o, rfl, _, s00, _⟩ := hsl.str (i := 0) (x := (⟨#[38]⟩ : ByteArray)) rfl
  have s0 : w.cell? ⟨g, o, none⟩ = some (.string (⟨#[38]⟩ : ByteArray)) := by simpa using s00
  clear s00
  obtain ⟨g', o', e4, _, s1, _⟩ := hsl.str (i := 1) (x := (⟨#[60]⟩ : ByteArray)) rfl
  injection e4 with e4
  injection e4 with e4 e5
  subst e4 e5
  have HAT := Lib.hid (fun x : UInt8 => cell_blk (i := x.toNat) (v := rbV (.slice (some p1) 0 k1) (.slice (some p2) 0 k2) x) hk (by simpa using hall x))
  have t256 : w.cell? ⟨Y, 256, none⟩ = some (.slice (some ⟨g, o, none⟩) 2 c) := cell_blk hk (by simpa using h256)
  have t38 : w.cell? ⟨Y, 38, none⟩ = some (.slice (some p1) 0 k1) := HAT.out 38
  have t60 : w.cell? ⟨Y, 60, none⟩ = some (.slice (some p2) 0 k2) := HAT.out 60
  have hln : s.data.toList.length = s.size := by simp
  have b38 : (((⟨#[38]⟩ : ByteArray) : ByteArray)[0]'(by decide)).toNat = 38 := by decide +kernel
  have b60 : (((⟨#[60]⟩ : ByteArray) : ByteArray)[0]'(by decide)).toNat = 60 := by decide +kernel
  clear hR hsl hk hall h256
  go_enter Tryz.func360, Tryz.ntmps360
  go_upto_if 26 with fail
  go_cut [5, 6] from 16 (fun n5 a6 wx => n5 = .int .i64 ((cutL s.data.toList).length : Int) ∧ a6 = .bool (!(goneN s.data.toList == 0)) ∧ ∃ q, wx = w.drewN q)
  case first =>
    have HGC := Lib.hid (gone_count s.data.toList)
    have HCC := Lib.hid (gone_cut s.data.toList)
    by_cases h16 : (16 : Int) ≤ (s.size : Int)
    · have HC0 := Lib.hid (Tryz.strings_Count_one s 38)
      have HC1 := Lib.hid (Tryz.strings_Count_one s 60)
      have HRB : Hid (rbN s.data.toList 1 = Lib.countByte s.data.toList 38 ∧ rbN s.data.toList 2 = Lib.countByte s.data.toList 38 + Lib.countByte s.data.toList 60 ∧ rbN s.data.toList 0 = 0) := ⟨rfl, rfl, rfl⟩
      have HBD : Hid (Lib.countByte s.data.toList 38 + Lib.countByte s.data.toList 60 ≤ s.size) := by have h1 := HGC.out; have h2 := HCC.out; show _ ≤ _; omega
      generalize Lib.countByte s.data.toList 38 = n0 at *
      generalize Lib.countByte s.data.toList 60 = n1 at *
      generalize rbN s.data.toList = rb at *
      go_wp2_with fail
      go_loopw [5, 6, 32] (fun n5 a6 i wx => ∃ k : Nat, k ≤ 2 ∧ i = .int .i64 (k : Int) ∧ n5 = .int .i64 ((s.size : Int) - (rb k : Int)) ∧ a6 = .bool (!(rb k == 0)) ∧ ∃ q, wx = w.drewN q) (fun _ _ i _ => 2 - (intOf i).toNat)
      case atStart => exact ⟨0, by decide, rfl, by rw [HRB.out.2.2]; simp, by rw [HRB.out.2.2]; rfl, 0, rfl⟩
      case round =>
        obtain ⟨k, hk, rfl, rfl, rfl, q, rfl⟩ := hrel
        have hkk : k = 0 ∨ k = 1 ∨ k = 2 := by omega
        rcases hkk with rfl | rfl | rfl
        · rw [HRB.out.2.2]
          by_cases hz : n0 = 0
          · subst hz
            go_wp2_with (go_at_call 185; refine (HC0.out _).mono ?_; rintro e w1 ⟨rfl, rfl⟩)
            go_roundw
            case rel => exact ⟨1, by decide, rfl, by rw [HRB.out.1]; simp, by rw [HRB.out.1]; rfl, ⟨_, rfl⟩⟩
            case measure => simp [intOf]
          · have z0 : ((n0 : Int) == 0) = false := beq_eq_false_iff_ne.2 (by omega)
            have z1 : ¬ (n0 : Int) = 0 := by omega
            have HZ := Lib.hid hz
            clear hz
            go_upto_region 9 with (go_at_call 185; refine (HC0.out _).mono ?_; rintro e w1 ⟨rfl, rfl⟩)
            go_quiet (fail)
            go_wp2_with fail
            go_roundw
            case rel => exact ⟨1, by decide, rfl, by rw [HRB.out.1]; have := HBD.out; rw [rb_less _ _ (by omega) (by omega) (by omega)], by rw [HRB.out.1]; have := HZ.out; simp; omega, ⟨_, rfl⟩⟩
            case measure => simp [intOf]
        · rw [HRB.out.1]
          by_cases hz : n1 = 0
          · subst hz
            go_wp2_with (go_at_call 185; refine (HC1.out _).mono ?_; rintro e w1 ⟨rfl, rfl⟩)
            go_roundw
            case rel => exact ⟨2, by decide, rfl, by rw [HRB.out.2.1]; rw [Nat.add_zero], by rw [HRB.out.2.1]; rw [Nat.add_zero], ⟨_, rfl⟩⟩
            case measure => simp [intOf]
          · have z0 : ((n1 : Int) == 0) = false := beq_eq_false_iff_ne.2 (by omega)
            have z1 : ¬ (n1 : Int) = 0 := by omega
            have HZ := Lib.hid hz
            clear hz
            go_upto_region 9 with (go_at_call 185; refine (HC1.out _).mono ?_; rintro e w1 ⟨rfl, rfl⟩)
            go_quiet (fail)
            go_wp2_with fail
            go_roundw
            case rel => exact ⟨2, by decide, rfl, by rw [HRB.out.2.1]; have := HBD.out; rw [rb_less _ _ (by omega) (by omega) (by omega)]; congr 1; push_cast; omega, by rw [HRB.out.2.1]; have := HZ.out; simp; omega, ⟨_, rfl⟩⟩
            case measure => simp [intOf]
        · rw [HRB.out.2.1]
          go_wp2_with fail
          go_meet
          case rel => exact ⟨by have h1 := HGC.out; have h2 := HCC.out; congr 1; omega, by rw [HGC.out], ⟨_, rfl⟩⟩
    · go_wp2_with fail
      go_loopw [5, 6, 10] (fun n5 a6 i wx => ∃ k : Nat, k ≤ s.size ∧ i = .int .i64 (k : Int) ∧ n5 = .int .i64 ((s.size : Int) - (goneN (s.data.toList.take k) : Int)) ∧ a6 = .bool (!(goneN (s.data.toList.take k) == 0)) ∧ ∃ q, wx = w.drewN q) (fun _ _ i _ => s.size - (intOf i).toNat)
      case atStart => exact ⟨0, Nat.zero_le _, rfl, by simp [goneN], by simp [goneN], 0, rfl⟩
      case round =>
        obtain ⟨k, hk, rfl, rfl, rfl, q, rfl⟩ := hrel
        by_cases hlt : k < s.size
        · have hx := byte_at' hlt
          generalize hxe : s[k] = x at hx
          have HGN := Lib.hid (gone_next hx)
          have HGL := Lib.hid (gone_le (s.data.toList.take k))
          have hk2 : (k : Int) < (s.size : Int) := by omega
          have hxl := x.toNat_lt
          have HTK : Hid ((s.data.toList.take k).length = k) := by show _ = _; rw [List.length_take]; omega
          by_cases h1 : keepB x = false
          · have htx : ∃ p c, w.cell? ⟨Y, x.toNat, none⟩ = some (.slice (some p) 0 c) := by
              have := HAT.out x
              unfold rbV at this
              by_cases e1 : x = 38
              · rw [if_pos e1] at this; exact ⟨_, _, this⟩
              · rw [if_neg e1, if_pos (by unfold keepB at h1; simp at h1; exact Classical.not_not.1 fun e2 => e1 (h1 e2))] at this
                exact ⟨_, _, this⟩
            obtain ⟨p, c2, tx⟩ := htx
            have hnp := rb_np p c2
            have HGN2 := Lib.hid (HGN.out.trans (by rw [h1]; rfl : _ = goneN (s.data.toList.take k) + 1))
            clear hx HAT t38 t60 HGN h1
            generalize goneN (s.data.toList.take k) = gk at *
            go_wp2_with fail
            go_roundw
            case rel => exact ⟨k + 1, by omega, by go_num, by rw [HGN2.out]; have h3 := HGL.out; rw [HTK.out] at h3; rw [rb_one_less _ (by omega) (by omega)]; congr 1; push_cast; omega, by rw [HGN2.out]; simp, _, rfl⟩
            case measure => simp [intOf]; omega
          · have h2 : keepB x = true := by simpa using h1
            have tx : w.cell? ⟨Y, x.toNat, none⟩ = some (.slice none 0 0) := by
              have := HAT.out x
              obtain ⟨e1, e2⟩ := rb_keep.1 h2
              unfold rbV at this
              rwa [if_neg e1, if_neg e2] at this
            have HGN2 := Lib.hid (HGN.out.trans (by rw [h2]; rfl : _ = goneN (s.data.toList.take k)))
            have hnn := rb_nn
            clear hx HAT t38 t60 HGN h1 h2
            generalize goneN (s.data.toList.take k) = gk at *
            go_wp2_with fail
            go_roundw
            case rel => exact ⟨k + 1, by omega, by go_num, by rw [HGN2.out], by rw [HGN2.out], _, rfl⟩
            case measure => simp [intOf]; omega
        · obtain rfl : k = s.size := by omega
          rw [List.take_of_length_le (by omega)]
          go_wp2_with fail
          go_meet
          case rel => exact ⟨by have h2 := HCC.out; congr 1; omega, rfl, ⟨_, rfl⟩⟩
  case rest =>
    obtain ⟨rfl, rfl, q, rfl⟩ := hcut
    by_cases hz : goneN s.data.toList = 0
    · have HE := Lib.hid (gone_none hz)
      rw [hz]
      go_wp2_with fail
      go_ret
      refine ⟨?_, below_dN (Below.refl _ _) q⟩
      rw [HE.out]
      rfl
    · have hz2 : (!(goneN s.data.toList == 0)) = true := by simpa using hz
      have HCL : Hid ((cutL s.data.toList).length ≤ s.size) := by have := cut_len s.data.toList; show _ ≤ _; omega
      rw [hz2]
      obtain ⟨n, hn⟩ : ∃ n, n = (cutL s.data.toList).length := ⟨_, rfl⟩
      rw [← hn] at HCL ⊢
      have hmk := make_u8 (w.drewN q) n (by have := HCL.out; omega)
      have HN := Lib.hid hn
      clear hn hz hz2
      go_upto_region 22 with fail
      obtain ⟨w1, hw1⟩ : ∃ w1, w1 = (w.drewN q).alloc (.cells (Array.replicate n (Value.int .u8 0)) 5) := ⟨_, rfl⟩
      rw [← hw1]
      have hb1 : Below w.heap.size w w1 := by rw [hw1]; exact (below_dN (Below.refl _ _) q).alloc (Nat.le_refl _) _
      have hk1 : w1.heap[w.heap.size]? = some (.cells (((cutL (s.data.toList.take 0)).map fun b => Value.int .u8 (b.toNat : Int)) ++ List.replicate (n - (cutL (s.data.toList.take 0)).length) (Value.int .u8 0)).toArray 5 (0, 0)) := by
        rw [hw1]
        refine (heap_alloc_new (w.drewN q) _).trans ?_
        simp [cutL]
      have H1 : Hid (Below w.heap.size w w1 ∧ w1.heap[w.heap.size]? = some (.cells (((cutL (s.data.toList.take 0)).map fun b => Value.int .u8 (b.toNat : Int)) ++ List.replicate (n - (cutL (s.data.toList.take 0)).length) (Value.int .u8 0)).toArray 5 (0, 0))) := ⟨hb1, hk1⟩
      obtain ⟨N, hN⟩ : ∃ N, N = w.heap.size := ⟨_, rfl⟩
      have HNS := Lib.hid hN
      rw [← hN] at H1 ⊢
      clear hw1 hb1 hk1 hN hmk
      go_wp2_with fail
      go_loopw [13, 14] (fun j i wx => ∃ k : Nat, k ≤ s.size ∧ i = .int .i64 (k : Int) ∧ j = .int .i64 ((cutL (s.data.toList.take k)).length : Int) ∧ Hid (Below N w wx ∧ wx.heap[N]? = some (.cells (((cutL (s.data.toList.take k)).map fun b => Value.int .u8 (b.toNat : Int)) ++ List.replicate (n - (cutL (s.data.toList.take k)).length) (Value.int .u8 0)).toArray 5 (0, 0)))) (fun _ i _ => s.size - (intOf i).toNat)
      case atStart => exact ⟨0, Nat.zero_le _, rfl, rfl, H1⟩
      case round =>
        obtain ⟨k, hk, rfl, rfl, HW⟩ := hrel
        by_cases hlt : k < s.size
        · have hx := byte_at' hlt
          generalize hxe : s[k] = x at hx
          have HCN := Lib.hid (cut_next hx)
          have HCT := Lib.hid (cut_take_le s.data.toList k)
          have HCT2 := Lib.hid (cut_take_lt hx)
          rw [← HN.out] at HCT HCT2
          have hk2 : (k : Int) < (s.size : Int) := by omega
          have hxl := x.toNat_lt
          obtain ⟨w0, rfl⟩ : ∃ w0 : World, w0 = wr := ⟨_, rfl⟩
          have hbw := HW.out.1
          have hbw2 : Below w.heap.size w w0 := by rw [← HNS.out]; exact hbw
          have hxi : (x.toNat : Int) < 256 := by omega
          have hxi0 : (0 : Int) ≤ (x.toNat : Int) := by omega
          have hj0 : (0 : Int) ≤ ((cutL (s.data.toList.take k)).length : Int) := by omega
          have hjn : ((cutL (s.data.toList.take k)).length : Int) ≤ (n : Int) := by have := HCT.out; omega
          by_cases h1 : keepB x = false
          · have htx : ∃ p c, w.cell? ⟨Y, x.toNat, none⟩ = some (.slice (some p) 0 c) := by
              have := HAT.out x
              unfold rbV at this
              by_cases e1 : x = 38
              · rw [if_pos e1] at this; exact ⟨_, _, this⟩
              · rw [if_neg e1, if_pos (by unfold keepB at h1; simp at h1; exact Classical.not_not.1 fun e2 => e1 (h1 e2))] at this
                exact ⟨_, _, this⟩
            obtain ⟨p, c2, tx0⟩ := htx
            have tx := cell_be tx0 hbw2
            have hnp := rb_np p c2
            have hcp := fun (W : World) (d : Option Addr) (dl dc : Nat) => run_copy_none (P := Tryz.prog) W 62 62 3 5 d (some p) dl dc 0 c2 Tryz.underlying62 (by kernel_rfl) (by simp)
            have HCN2 := Lib.hid (HCN.out.trans (by rw [h1]; simp : _ = cutL (s.data.toList.take k)))
            clear hx tx0 HAT t38 t60 HCN h1 hbw hbw2 HCT2 t256 s0 s1
            generalize cutL (s.data.toList.take k) = ck at *
            go_upto_region 28 with fail
            go_region_held3 (fun w' => w'.cell? ⟨Y, x.toNat, none⟩ = some (.slice (some p) 0 c2)) (exact tx)
              (fail)
            go_wp2_with fail
            go_roundw
            case rel => exact ⟨k + 1, by omega, by go_num, by rw [HCN2.out, IntWalk.i64_left, IntWalk.wrap64_in _ ⟨by omega, by have := HCT.out; have h7 := HCL.out; omega⟩], by rw [HCN2.out]; exact ⟨below_dN HW.out.1 _, HW.out.2⟩⟩
            case measure => simp [intOf]; omega
          · have h2 : keepB x = true := by simpa using h1
            have tx0 : w.cell? ⟨Y, x.toNat, none⟩ = some (.slice none 0 0) := by
              have := HAT.out x
              obtain ⟨e1, e2⟩ := rb_keep.1 h2
              unfold rbV at this
              rwa [if_neg e1, if_neg e2] at this
            have tx := cell_be tx0 hbw2
            have hnn := rb_nn
            have HCN2 := Lib.hid (HCN.out.trans (by rw [h2]; simp : _ = cutL (s.data.toList.take k) ++ [x]))
            have hlt2 : ((cutL (s.data.toList.take k)).length : Int) < (n : Int) := by have := HCT2.out h2; omega
            have hrow : ∃ u, w0.cell? ⟨N, (cutL (s.data.toList.take k)).length, none⟩ = some u := by
              refine ⟨.int .u8 0, cell_blk HW.out.2 ?_⟩
              rw [List.getElem?_toArray, List.getElem?_append_right (by simp)]
              rw [List.getElem?_replicate, if_pos (by simp; omega)]
            obtain ⟨u0, cj⟩ := hrow
            have fj : w0.frozen? ⟨N, (cutL (s.data.toList.take k)).length, none⟩ = false := free_blk HW.out.2
            have HSB := Lib.hid (set_blk (i := (cutL (s.data.toList.take k)).length) HW.out.2 (.int .u8 (x.toNat : Int)))
            clear hx tx0 HAT t38 t60 HCN h1 h2 hbw hbw2 HCT2 t256 s0 s1
            generalize cutL (s.data.toList.take k) = ck at *
            go_wp2_with fail
            go_roundw
            case rel =>
              refine ⟨k + 1, by omega, by go_num, by rw [HCN2.out]; have := HCT.out; have h7 := HCL.out; rw [List.length_append]; simp only [List.length_cons, List.length_nil]; rw [IntWalk.wrap64_in _ ⟨by omega, by omega⟩]; congr 1, ?_⟩
              rw [HCN2.out]
              refine ⟨HW.out.1.setCell (p := ⟨N, ck.length, none⟩) (Nat.le_refl N) _, HSB.out.trans ?_⟩
              congr 2
              apply Array.toList_inj.1
              have := HCT.out
              obtain ⟨r, hr⟩ : ∃ r, n - ck.length = r + 1 := ⟨n - ck.length - 1, by omega⟩
              rw [hr, show n - (ck ++ [x]).length = r from by simp; omega]
              simp [List.replicate_succ]
            case measure => simp [intOf]; omega
        · obtain rfl : k = s.size := by omega
          rw [List.take_of_length_le (by omega)] at HW ⊢
          have hcv : (convert 62 9 (.slice (some ⟨N, 0, none⟩) n n)).run Tryz.prog wr = .ok (.string (bs (cutL s.data.toList))) wr := by
            have h0 := run_convert_bytes_back (P := Tryz.prog) wr _ _ 5 ⟨N, 0, none⟩ n (cutL s.data.toList) Tryz.underlying62 Tryz.underlying5 Tryz.underlying9 fun j hj => by
              have hb := HW.out.2
              rw [HN.out, Nat.sub_self] at hb
              simp only [List.replicate_zero, List.append_nil] at hb
              have h1 := cell_blk (i := j) (v := .int .u8 ((cutL s.data.toList)[j].toNat : Int)) hb (by simp [hj])
              rw [Addr.add_lit]
              simpa using h1
            rw [← HN.out] at h0
            exact h0
          go_wp2_with fail
          go_ret
          exact ⟨rfl, by rw [← HNS.out]; exact HW.out.1⟩
set_option maxRecDepth 100000 in
set_option maxHeartbeats 1000000 in
theorem repl_any (w : World) (b g c : Nat) (hk : w.heap[b]? = some (.cells #[.int .u32 0, .int .i32 0, .int .u32 0, .nilIface, .slice (some ⟨g, 0, none⟩) 4 c] 110 (0, 0))) (hg : g ≠ b)
    (s0 : w.cell? ⟨g, 0, none⟩ = some (.string (⟨#[60]⟩ : ByteArray))) (s1 : w.cell? ⟨g, 1, none⟩ = some (.string ⟨#[]⟩)) (s2 : w.cell? ⟨g, 2, none⟩ = some (.string (⟨#[38]⟩ : ByteArray))) (s3 : w.cell? ⟨g, 3, none⟩ = some (.string ⟨#[]⟩)) (s : ByteArray) (hs : s.size ≤ 100000) :
    Calls Tryz.prog 24 #[.pointer (some ⟨b, 0, none⟩), .string s] w fun e w' => e = .returned (.string (bs (cutL s.data.toList))) ∧ Below b w w' := by
  have hne : ∀ i v, (⟨b, 1, none⟩ : Addr) ≠ ⟨g, i, none⟩ ∧ v = v := fun i (v : Nat) => ⟨fun e => hg (congrArg Addr.block e).symm, rfl⟩
  have hc : ∀ i x, w.cell? ⟨g, i, none⟩ = some x → (w.setCell ⟨b, 1, none⟩ (.int .i32 1)).cell? ⟨g, i, none⟩ = some x := fun i x h => (World.cell?_setCell_other _ _ _ _ (hne i 0).1).trans h
  have hbo := buildOnce_any (w.setCell ⟨b, 1, none⟩ (.int .i32 1)) b g c (set_blk hk _) (hc _ _ s0) (hc _ _ s1) (hc _ _ s2) (hc _ _ s3)
  have HDO := Lib.hid (rp_do b (fun v => ∃ Y, Below b (w.setCell ⟨b, 1, none⟩ (.int .i32 1)) v ∧ RT b v Y ∧ v.heap[b]? = some (.cells #[.int .u32 0, .int .i32 1, .int .u32 0, .iface 194 (.pointer (some ⟨Y, 0, none⟩)), .slice none 0 0] 110 (0, 0))) w (cell_blk hk rfl) (cell_blk hk rfl) (free_blk hk) hbo
    (fun v ⟨Y, _, _, h⟩ => ⟨⟨cell_blk h rfl, cell_blk h rfl⟩, free_blk h, free_blk h⟩))
  clear hbo hc hne s0 s1 s2 s3 hk
  go_enter Tryz.func24, Tryz.ntmps24
  go_upto_region 2 with (first
    | (go_at_call 51; refine HDO.out.mono ?_; rintro e w1 ⟨rfl, v, ⟨Y, hb, hrt, hkb⟩, rfl⟩)
    | fail)
  have hk1 : ((v.setCell ⟨b, 0, none⟩ (.int .u32 1)).setCell ⟨b, 1, none⟩ (.int .i32 0)).drew.heap[b]? = _ := set_blk (i := 1) (set_blk (i := 0) hkb (.int .u32 1)) (.int .i32 0)
  have hrt1 : RT b ((v.setCell ⟨b, 0, none⟩ (.int .u32 1)).setCell ⟨b, 1, none⟩ (.int .i32 0)).drew Y := hrt.keep (by simp) fun k h1 h2 => (Below.heap_setCell _ _ _ _ (by show k ≠ b; omega)).trans (Below.heap_setCell _ _ _ _ (by show k ≠ b; omega))
  have hb1 : Below b w ((v.setCell ⟨b, 0, none⟩ (.int .u32 1)).setCell ⟨b, 1, none⟩ (.int .i32 0)).drew := ((((((Below.refl b w).setCell (p := ⟨b, 1, none⟩) (Nat.le_refl b) _).trans hb).setCell (p := ⟨b, 0, none⟩) (Nat.le_refl b) _).setCell (p := ⟨b, 1, none⟩) (Nat.le_refl b) _)).drew
  obtain ⟨w2, hw2⟩ : ∃ w2, w2 = ((v.setCell ⟨b, 0, none⟩ (.int .u32 1)).setCell ⟨b, 1, none⟩ (.int .i32 0)).drew := ⟨_, rfl⟩
  rw [← hw2] at hk1 hrt1 hb1 ⊢
  have c3 := cell_blk (i := 3) (v := .iface 194 (.pointer (some ⟨Y, 0, none⟩))) hk1 rfl
  have hlt : b < w2.heap.size := (Array.getElem?_eq_some_iff.1 hk1).1
  have HS := Lib.hid (bsr_any b w2 Y hrt1 s hs)
  have hme := rp_method Y
  have HB1 := Lib.hid hb1
  clear hk1 hrt1 hb1 hw2 hkb hrt hb
  go_wp2_with (go_at_call 360; refine HS.out.mono ?_; rintro e w3 ⟨rfl, hb3⟩)
  go_ret
  exact ⟨rfl, HB1.out.trans (hb3.mono (Nat.le_of_lt hlt))⟩
end Go.Proofs.YtegcedboeemedaaGreatDoor

/-
A TEXT WITHOUT MARKUP IS THE BODY'S TEXT: the walk of BuildPlain.
-/
namespace Go.Proofs.YtegcedboeemedaaGreatDoor
open Go.RowKit Go.Cl
attribute [local go_sem ↓] Go.wp_at_zero Go.wp_at_succ
theorem bp_signs_len (l : List UInt8) : ∀ k, (signsL k l).length ≤ l.length := by
  induction hn : l.length using Nat.strongRecOn generalizing l with
  | _ n ih =>
    intro k
    by_cases h : 0 < l.length
    · have ho := one_le h
      have hd : (l.drop (oneR l).2).length < n := by rw [List.length_drop]; omega
      have := ih _ hd _ rfl (k + (oneR l).2)
      rw [signs_step h, List.length_cons]
      rw [List.length_drop] at this
      omega
    · rw [signs_end (by omega)]
      exact Nat.zero_le _
abbrev rpL : List ByteArray := [(⟨#[60]⟩ : ByteArray), ⟨#[]⟩, (⟨#[38]⟩ : ByteArray), ⟨#[]⟩]
theorem rp_list (w : World) : Sl tStr (w.alloc (.cells #[.string (⟨#[60]⟩ : ByteArray), .string ⟨#[]⟩, .string (⟨#[38]⟩ : ByteArray), .string ⟨#[]⟩] 9)) (lt (w.alloc (.cells #[.string (⟨#[60]⟩ : ByteArray), .string ⟨#[]⟩, .string (⟨#[38]⟩ : ByteArray), .string ⟨#[]⟩] 9)).heap.size) (some ⟨w.heap.size, 0, none⟩) 4 4 rpL := by
  rw [World.size_alloc]
  exact Sl.fresh (T := tStr) (w := w) (B := w.heap.size) (n := 4) 9 (row_strs rpL (by intro y hy; simp [rpL] at hy; rcases hy with rfl | rfl | rfl | rfl <;> decide)) (Nat.le_refl _) rfl (by decide)
/-- A replacer as it was made. -/
structure RpAt (w v : World) (b g c : Nat) : Prop where
  low : Below w.heap.size w v
  le : w.heap.size ≤ b
  blk : v.heap[b]? = some (.cells #[.int .u32 0, .int .i32 0, .int .u32 0, .nilIface, .slice (some ⟨g, 0, none⟩) 4 c] 110 (0, 0))
  ne : g ≠ b
  s0 : v.cell? ⟨g, 0, none⟩ = some (.string (⟨#[60]⟩ : ByteArray))
  s1 : v.cell? ⟨g, 1, none⟩ = some (.string ⟨#[]⟩)
  s2 : v.cell? ⟨g, 2, none⟩ = some (.string (⟨#[38]⟩ : ByteArray))
  s3 : v.cell? ⟨g, 3, none⟩ = some (.string ⟨#[]⟩)
theorem RpAt.next {w v v' : World} {b g c : Nat} (h : RpAt w v b g c) (hb : Below v.heap.size v v') : RpAt w v' b g c :=
  ⟨h.low.trans (hb.mono h.low.size), h.le, (hb.block b (Array.getElem?_eq_some_iff.1 h.blk).1).trans h.blk, h.ne, cell_be h.s0 hb, cell_be h.s1 hb, cell_be h.s2 hb, cell_be h.s3 hb⟩
theorem newRp_any (w : World) :
    Calls Tryz.prog 23 #[.slice (some ⟨w.heap.size, 0, none⟩) 4 4] (w.alloc (.cells #[.string (⟨#[60]⟩ : ByteArray), .string ⟨#[]⟩, .string (⟨#[38]⟩ : ByteArray), .string ⟨#[]⟩] 9)) fun e w' => ∃ b g c, e = .returned (.pointer (some ⟨b, 0, none⟩)) ∧ RpAt w w' b g c := by
  refine (newReplacer_any _ _ _ _ (rp_list w)).mono ?_
  rintro e w' ⟨w2, A2, c2, hb, hsl, ⟨g, rfl⟩, rfl, rfl⟩
  have hs : ∀ (i : Nat) x, rpL[i]? = some x → w2.cell? ⟨g, i, none⟩ = some (.string x) ∧ g < w2.heap.size := fun i x hx => by
    obtain ⟨b, o, e, hD, hc, _⟩ := hsl.str hx
    injection e with e
    injection e with e1 e2
    subst e1 e2
    exact ⟨by simpa using hc, hD⟩
  have hz : w.heap.size ≤ w2.heap.size := by have := hb.size; rw [World.size_alloc] at this; omega
  have hb0 : Below w.heap.size w w2 := ((Below.refl _ w).alloc (Nat.le_refl _) _).trans (hb.mono (by rw [World.size_alloc]; omega))
  exact ⟨w2.heap.size, g, c2, rfl, hb0.alloc hz _, hz, heap_alloc_new w2 _, by have := (hs 0 _ rfl).2; omega, cell_al (hs 0 _ rfl).1 _, cell_al (hs 1 _ rfl).1 _, cell_al (hs 2 _ rfl).1 _, cell_al (hs 3 _ rfl).1 _⟩
theorem RpAt.replace {w v : World} {b g c : Nat} (h : RpAt w v b g c) (s : ByteArray) (hs : s.size ≤ 100000) :
    Calls Tryz.prog 24 #[.pointer (some ⟨b, 0, none⟩), .string s] v fun e w' => e = .returned (.string (bs (cutL s.data.toList))) ∧ Below w.heap.size w w' := by
  refine (repl_any v b g c h.blk h.ne h.s0 h.s1 h.s2 h.s3 s hs).mono ?_
  rintro e w' ⟨rfl, hb⟩
  exact ⟨rfl, h.low.trans (hb.mono h.le)⟩
theorem blank_trim (l : List UInt8) : Lib.trimLeftS l [32, 9, 10, 12, 13] = l.dropWhile blankB := trim_blank l
set_option maxRecDepth 100000 in
set_option maxHeartbeats 4000000 in
theorem buildPlain_walk (b0 : ByteArray) (W : World) (m : Int) (hm : maxLenAt W m) (hT : FoldTabs W) :
    Calls Tryz.prog 6 #[.string b0] W fun e w' => e = .returned (.bool true) ∧ Below W.heap.size W w' := by
  have HSO := Lib.hid (fun u : World => tkSome_any b0 200 u (by decide))
  have HBG := Lib.hid (fun (v : World) (hb : Below W.heap.size W v) => buildBegun_any m v (cell_be hm hb) (hT.next (Nat.le_refl _) hb))
  have HM := Lib.hid hm
  have HT := Lib.hid hT
  clear hm hT
  go_enter Tryz.func6, Tryz.ntmps6
  go_upto_region 2 with (first
    | (go_at_call 23; refine (newRp_any W).mono ?_; rintro e w1 ⟨b, g, c, rfl, hrp⟩; have HRP := Lib.hid hrp; clear hrp)
    | (go_at_call 19; refine (HSO.out _).mono ?_; rintro e w1' ⟨⟨t, rfl, ht⟩, hw1⟩; subst hw1)
    | (go_at_call 11; refine (clean_any t _ (by omega)).mono ?_; rintro e w2 ⟨rfl, hb2⟩; have HRP2 := Lib.hid (HRP.out.next hb2); clear hb2)
    | (go_at_call 24; refine (HRP2.out.replace _ (by have h1 := clean_le (signsL 0 t.data.toList); have h2 := bp_signs_len t.data.toList 0; have h3 : (ByteArray.mk (cleanL (signsL 0 t.data.toList)).1.toArray).size = (cleanL (signsL 0 t.data.toList)).1.length := rfl; have h4 : t.data.toList.length = t.size := (by simp); omega)).mono ?_; rintro e w3 ⟨rfl, hb3⟩; have HB3 := Lib.hid hb3; clear hb3)
    | fail)
  have HLE : Hid ((cutL (cleanL (signsL 0 t.data.toList)).1).length ≤ 800) := by
    have h0 := cut_len (cleanL (signsL 0 t.data.toList)).1
    have h1 := clean_le (signsL 0 t.data.toList)
    have h2 := bp_signs_len t.data.toList 0
    have h4 : t.data.toList.length = t.size := by simp
    show _ ≤ _
    omega
  have HCU := Lib.hid (cut_clean t.data.toList)
  have HNO := Lib.hid (cut_no (cleanL (signsL 0 t.data.toList)).1)
  generalize cutL (cleanL (signsL 0 t.data.toList)).1 = L at *
  have hbl : (bs L).data.toList = L := bs_list L
  have hbz : (bs L).size = L.length := rfl
  have HDOC := Lib.hid (docPlain_at m w3 (cell_be HM.out HB3.out) (HT.out.next (Nat.le_refl _) HB3.out) (bs L) (bs L) (Lib.hid (by rw [hbl, HCU.out]; rfl)) (by rw [hbz]; have := HLE.out; omega) (by rw [hbz]; have := HLE.out; omega) (by rw [hbl]; exact HNO.out.1) (by rw [hbl]; exact HNO.out.2))
  rw [hbl] at HDOC
  by_cases h400 : L.length ≤ 400
  · obtain ⟨hck, htx, h5⟩ := plain_tree L h400
    have HD2 : Hid (Calls Tryz.prog 14 #[.string (bs L)] w3 fun e w' => ∃ A c, e = .returned (.tuple #[.agg #[.slice A (plainR L).nodes.length c, .bool true], .int .i64 0]) ∧ Sl tNd w' (lt w'.heap.size) A (plainR L).nodes.length c (plainR L).nodes ∧ Below w3.heap.size w3 w') := HDOC.out.mono (by
      rintro e w' ⟨h1 | h1, hb⟩
      · obtain ⟨_, A, c, rfl, hs⟩ := h1
        exact ⟨A, c, rfl, hs.more fun b hb => hb.2, hb⟩
      · exact absurd hck h1.1)
    have HTX := Lib.hid htx
    have HTO := Lib.hid (textOf_any (l := (plainR L).nodes) (z := 0))
    rw [HTX.out] at HTO
    clear HDOC hck htx
    generalize (plainR L).nodes = ns at *
    have hn5 : (ns.length : Int) ≤ 5 := by omega
    go_upto_region 3 with (first
      | (go_at_call 14; refine HD2.out.mono ?_; rintro e w4 ⟨A, c5, rfl, hs, hb⟩; have HS := Lib.hid hs; have HB4 := Lib.hid (HB3.out.trans (hb.mono HB3.out.size)); clear hs hb)
      | fail)
    obtain ⟨w5, hw5⟩ : ∃ w5, w5 = w4.alloc (.cells #[.slice A ns.length c5, .bool true] 33) := ⟨_, rfl⟩
    rw [← hw5]
    have hb5 : Below w4.heap.size w4 w5 := by rw [hw5]; exact (Below.refl _ _).alloc (Nat.le_refl _) _
    have hk5 : w5.heap[w4.heap.size]? = some (.cells #[.slice A ns.length c5, .bool true] 33 (0, 0)) := by rw [hw5]; exact heap_alloc_new w4 _
    have HB5 := Lib.hid (HB4.out.trans (hb5.mono HB4.out.size))
    have HTO2 := Lib.hid (HTO.out A ns.length c5 true w5 w4.heap.size (HS.out.below hb5 (Nat.le_refl _)) hb5.size)
    have d0 := cell_blk (i := 0) (v := .slice A ns.length c5) hk5 rfl
    have d1 := cell_blk (i := 1) (v := .bool true) hk5 rfl
    clear hw5 hb5 hk5
    have HTR := Lib.hid (fun u : World => (show Calls Tryz.prog 26 #[.string (bs L), .string ⟨#[32, 9, 10, 12, 13]⟩] u fun e w' => e = .returned (.string (bs (L.dropWhile blankB))) ∧ Below u.heap.size u w' from by
      rw [← blank_trim L]
      exact Any.strings_TrimLeft_laid Tryz.laysTrimL (by kernel_rfl) (bs L) ⟨#[32, 9, 10, 12, 13]⟩ u (by decide) (ascii_of_all (by decide))))
    have hl4 : ¬ (400 : Int) < (L.length : Int) := by omega
    have hl4b : decide ((400 : Int) < (L.length : Int)) = false := decide_eq_false hl4
    have hss : ((bs (L.dropWhile blankB)).toList == (bs (L.dropWhile blankB)).toList) = true := by simp
    generalize bs (L.dropWhile blankB) = tr at *
    go_upto_region 6 with (first
      | (go_at_call 25; refine HTO2.out.mono ?_; rintro e w6 ⟨rfl, hb⟩; have HB6 := Lib.hid (HB5.out.trans (hb.mono HB5.out.size)); replace d0 := cell_be d0 hb; clear hb d1)
      | fail)
    go_wp2_with (first
      | (go_at_call 18; refine (HBG.out _ HB6.out).mono ?_; rintro e w7 ⟨rfl, hb⟩; have HB7 := Lib.hid (HB6.out.trans (hb.mono HB6.out.size)); replace d0 := cell_be d0 hb; clear hb)
      | (go_at_call 26; refine (HTR.out _).mono ?_; rintro e w8 ⟨rfl, hb⟩; have HB8 := Lib.hid (HB7.out.trans (hb.mono HB7.out.size)); replace d0 := cell_be d0 hb; clear hb)
      | fail)
    go_ret
    exact ⟨rfl, HB8.out⟩
  · have HD2 : Hid (Calls Tryz.prog 14 #[.string (bs L)] w3 fun e w' => ∃ A n c q E, e = .returned (.tuple #[.agg #[.slice A n c, .bool q], .int .i64 E]) ∧ Below w3.heap.size w3 w') := HDOC.out.mono (by
      rintro e w' ⟨h1 | h1, hb⟩
      · obtain ⟨_, A, c, rfl, hs⟩ := h1
        exact ⟨A, _, c, true, 0, rfl, hb⟩
      · exact ⟨none, 0, 0, false, 2, h1.2, hb⟩)
    clear HDOC
    go_upto_region 3 with (first
      | (go_at_call 14; refine HD2.out.mono ?_; rintro e w4 ⟨A, n, c5, q, E, rfl, hb⟩; have HB4 := Lib.hid (HB3.out.trans (hb.mono HB3.out.size)); clear hb)
      | fail)
    have HB5 := Lib.hid (HB4.out.alloc (o := .cells #[.slice A n c5, .bool q] 33) HB4.out.size)
    have hl4 : (400 : Int) < (L.length : Int) := by omega
    clear h400
    go_wp2_with (go_at_call 18; refine (HBG.out _ HB5.out).mono ?_; rintro e w6 ⟨rfl, hb6⟩)
    go_ret
    exact ⟨rfl, HB5.out.trans (hb6.mono HB5.out.size)⟩
end Go.Proofs.YtegcedboeemedaaGreatDoor

/-
The frame of a law whose row lists variables: the contract is handed the shape of the world and what the variables read as. No program in sight.
-/
namespace Go.Cl
variable {H : Type} {enc : TypeId × Value → H}

theorem handed_door {a : Assume} {C : Checked} {os : Os} {f : FuncId} {fn : Func} {s : ChangeSpec} {conds : List PathCond} {apart fresh handsOn again : Bool} {X : World → Array Value → Prop}
    (hX : ∀ (w w' : World) (args : Array Value), w.heap = w'.heap → X w args → X w' args)
    (own : ownKnob C.prog.godebug = none) (started : os.Started) (noInit : C.prog.inits.idxOf? f = none) (hfn : C.prog.funcs[f]? = some fn)
    (witness : ∃ (w : World) (tape : Tape) (i : Input), w.os = os ∧ (w.forCall tape i).Shaped C.prog ∧ i.vars = [] ∧ Input.okWide C.prog (w.forCall tape i) .any w.heap.size f i ∧
      ((s.pre enc C.prog fn conds apart (w.forCall tape i).memory i.args ∧ X (w.forCall tape i).memory i.args) ∧ sizedMet enc C.prog fn (OpenSpec.ofChange s) apart (w.forCall tape i).memory i.args) ∧ a.holds C.prog (lone (Frame.enter C.prog f i.args .normal) [] (w.forCall tape i)))
    (contract : ∀ (W : World) (base : Nat) (args : Array Value) (ds gs : List (DataW H)) (before : List MemPlace),
      (∀ (j : Nat) t v, fn.params[j]? = some t → args[j]? = some v → Value.okWide C.prog W .any base t v) →
      DataW.Whole enc C.prog fn.params.toList s.vars apart W args.toList ds gs before →
      conds.all (PathCond.test C.prog ⟨fn.params.toList, ds, s.plain.varTypes C.prog, gs⟩) = true →
      (DataW.weightsEach C.prog (fn.params.toList ++ s.plain.varTypes C.prog) (ds ++ gs)).all (· ≤ reachBytes) = true → W.ShapedOpen C.prog → X W args →
      a.holds C.prog (lone (Frame.enter C.prog f args .normal) [] W) →
      Calls C.prog f args W fun e W' => ∃ v, e = .returned v ∧ s.post enc C.prog fn apart fresh handsOn again W args v W') :
    ReturnsInHanded a C os f .any (fun w args => (s.pre enc C.prog fn conds apart w args ∧ X w args) ∧ sizedMet enc C.prog fn (OpenSpec.ofChange s) apart w args) (s.post enc C.prog fn apart fresh handsOn again) := by
  refine returnsInHanded_of_calls own started noInit witness ?_
  intro w tape i _ hsh _ hok hpre hholds
  obtain ⟨_, _, _, fn', hfn', _, _, _, _, hval⟩ := hok
  have e : fn' = fn := Option.some.inj (hfn'.symm.trans hfn)
  subst e
  obtain ⟨⟨⟨ds, gs, before, hw, hc⟩, hx⟩, hz⟩ := hpre
  have hw' := DataW.Whole.of_heap (w' := w.forCall tape i) (by rfl) hw
  refine (contract (w.forCall tape i) w.heap.size i.args ds gs before hval hw' hc (hz.weights hw) hsh (hX _ _ _ (by rfl) hx) hholds).mono fun e W' ⟨v, he, hp⟩ => ?_
  subst he
  exact ChangeSpec.post_blind hp
end Go.Cl
