/-
The walks of package dom's editor: attr, drop.
-/
import Derived.Test.YtmemadajjmmlpaaDoorEdWalk
import Derived.Test.YtmemadajjmmlpaaDoorEdInsert
import Derived.Deep.RegionHeld3
namespace Go.Proofs.YtmemadajjmmlpaaDoor
open Go.RowKit Go.Cl
attribute [local go_sem ↓] Go.wp_at_zero Go.wp_at_succ

/-- An editor and an edit in its box, in a later world. -/
structure EB (w : World) (E g c base : Nat) (l : List Nd) (q : Bool) (made : Int) (ps : List (Value × Value)) (k : Nat) (cells : Array Value) (B : Nat) : Prop where
  at_ : EdAt w E g c base l q made ps
  box : w.heap[k]? = some (.cells cells 59 (0, 0))
  low : base ≤ B
  le : B ≤ k
section
variable {w w' : World} {E g c base : Nat} {l : List Nd} {q : Bool} {made : Int} {ps : List (Value × Value)} {k : Nat} {cells : Array Value} {B : Nat}
theorem EB.next (h : EB w E g c base l q made ps k cells B) (hb : Below w.heap.size w w') : EB w' E g c base l q made ps k cells B :=
  ⟨h.at_.next hb, (hb.block _ (Array.getElem?_eq_some_iff.1 h.box).1).trans h.box, h.low, h.le⟩
theorem EB.lt (h : EB w E g c base l q made ps k cells B) : k < w.heap.size := (Array.getElem?_eq_some_iff.1 h.box).1
theorem EB.cell (h : EB w E g c base l q made ps k cells B) (i : Nat) {v : Value} (hv : cells[i]? = some v) : w.cell? ⟨k, i, none⟩ = some v := cell_blk h.box hv
end
theorem eb_of {w : World} {E g c base : Nat} {l : List Nd} {q : Bool} {made : Int} {ps : List (Value × Value)} (h : EdAt w E g c base l q made ps) (cells : Array Value) :
    EB (w.alloc (.cells cells 59)) E g c base l q made ps w.heap.size cells w.heap.size ∧ Below base w (w.alloc (.cells cells 59)) :=
  have hb := (Below.refl _ w).alloc (Nat.le_refl _) (.cells cells 59)
  ⟨⟨h.next hb, heap_alloc_new w _, Nat.le_trans h.le (Nat.le_of_lt h.lt), Nat.le_refl _⟩, hb.mono (Nat.le_trans h.le (Nat.le_of_lt h.lt))⟩
theorem elem_cases {g : Nat} {l : List Nd} {n : Int} : (nodeAt l n = none ∧ elemS g l n = (.pointer none, 5)) ∨ ∃ (m : Nat) (x : Nd), n = (m : Int) ∧ l[m]? = some x ∧ ((x.kind ≠ 2 ∧ elemS g l n = (.pointer none, 7)) ∨ (x.kind = 2 ∧ elemS g l n = (.pointer (some ⟨g, m * 6, none⟩), 0))) := by
  unfold elemS
  cases hx : nodeAt l n with
  | none => exact Or.inl ⟨rfl, rfl⟩
  | some x =>
    obtain ⟨m, rfl, hm⟩ := nodeAt_some hx
    refine Or.inr ⟨m, x, rfl, hm, ?_⟩
    by_cases h : x.kind = 2
    · exact Or.inr ⟨h, by simp only; rw [if_neg (by omega), Int.toNat_natCast]⟩
    · exact Or.inl ⟨h, by simp only; rw [if_pos h]⟩

set_option maxRecDepth 100000 in
set_option maxHeartbeats 4000000 in
theorem drop_any (w : World) (E g c base : Nat) (l : List Nd) (q : Bool) (made : Int) (ps : List (Value × Value)) (e : Edt) (Aa : Option Addr) (na ca : Nat) (Ak : Option Addr) (nk ck : Nat) (h : EdAt w E g c base l q made ps) :
    Calls Tryd.prog 103 #[.pointer (some ⟨E, 0, none⟩), .agg (edtCells e Aa na ca Ak nk ck)] w (EdPost E base q (dropErr l e.at_ e.name) (dropDo l e.at_ e.name) made w) := by
  obtain ⟨w0, hw0⟩ : ∃ w0, w0 = w.alloc (.cells (edtCells e Aa na ca Ak nk ck) 59) := ⟨_, rfl⟩
  have hk := eb_of h (edtCells e Aa na ca Ak nk ck)
  rw [← hw0] at hk
  obtain ⟨hEB, hb0⟩ := hk
  have e1 := hEB.cell 1 (v := .int .i64 e.at_) rfl
  have e4 := hEB.cell 4 (v := .string e.name) rfl
  have HB0 := Lib.hid hb0
  have HEB := Lib.hid hEB
  have HE := Lib.hid (element_any w0 E g c base l q made ps e.at_ hEB.at_)
  clear h hb0 hEB
  go_enter Tryd.func103, Tryd.ntmps103
  unfold edtCells at *
  go_upto_region 1 with fail
  rw [← hw0]
  clear hw0
  rcases @elem_cases g l e.at_ with ⟨hx, hel⟩ | ⟨m, x, hme, hm, hx⟩
  · have HR := Lib.hid (show dropErr l e.at_ e.name = 5 from by unfold dropErr; rw [hx])
    rw [hel] at HE
    clear hx hel
    go_wp2_with (go_at_call 122; refine HE.out.mono ?_; rintro e' w1 ⟨rfl, rfl⟩)
    go_ret
    exact ⟨by rw [HR.out]; rfl, HB0.out, by rw [HR.out]; exact fun h => absurd h (by decide)⟩
  · have HDE := Lib.hid (show dropErr l e.at_ e.name = if x.kind ≠ 2 then 7 else if findA x.attrs e.name < 0 then 5 else 0 from by unfold dropErr; rw [hme, nodeAt_nat, hm])
    have HDO := Lib.hid (show dropDo l e.at_ e.name = l.set m { x with attrs := x.attrs.eraseIdx (findA x.attrs e.name).toNat } from by unfold dropDo; rw [hme, setAt_nat hm])
    rcases hx with ⟨h2, hel⟩ | ⟨h2, hel⟩
    · have HR := Lib.hid (HDE.out.trans (if_pos h2))
      rw [hel] at HE
      clear hel h2 hm hme
      go_wp2_with (go_at_call 122; refine HE.out.mono ?_; rintro e' w1 ⟨rfl, rfl⟩)
      go_ret
      exact ⟨by rw [HR.out]; rfl, HB0.out, by rw [HR.out]; exact fun h => absurd h (by decide)⟩
    · have HDE2 := Lib.hid (HDE.out.trans (if_neg (by omega)))
      rw [hel] at HE
      obtain ⟨p, hp, hnd⟩ := HEB.out.at_.node hm
      obtain ⟨A1, c1, hp1, sl1⟩ := OwnF.sl hnd.parts.attrs (by decide) (by have := hnd.parts.ok.attrs; show x.attrs.length * 32 ≤ _; omega)
      have HF := Lib.hid (find_dom A1 x.attrs.length c1 x.attrs e.name w0.drew w0.heap.size sl1.drew (Nat.le_refl _))
      have k2 := hnd.c2
      rw [hp1] at k2
      have HM := Lib.hid hm
      have HP := Lib.hid hp
      have HP1 := Lib.hid hp1
      have HND := Lib.hid hnd
      clear hel h2 hm hme hp hnd hp1 sl1 HDE
      go_upto_region 4 with (go_at_call 122; refine HE.out.mono ?_; rintro e' w1 ⟨rfl, rfl⟩)
      go_region_held3 (fun w' => w'.cell? ⟨w.heap.size, 4, none⟩ = some (.string e.name) ∧ w'.cell? ⟨g, m * 6 + 2, none⟩ = some (.slice A1 x.attrs.length c1)) (first | go_keep | assumption)
        ((go_at_call 45; refine HF.out.mono ?_; rintro e' w2 ⟨rfl, hb2⟩; have k22 : w2.cell? ⟨g, m * 6 + 2, none⟩ = some (.slice A1 x.attrs.length c1) := (hb2.cell (p := ⟨g, m * 6 + 2, none⟩) HND.out.lt).trans k2; have e24 : w2.cell? ⟨w.heap.size, 4, none⟩ = some (.string e.name) := (hb2.cell (p := ⟨w.heap.size, 4, none⟩) HEB.out.lt).trans e4))
      have hb02 : Below w0.heap.size w0 w2 := ((Below.refl _ w0).drew).trans hb2
      have HB2 := Lib.hid (HB0.out.trans (hb02.mono (Nat.le_trans HEB.out.low (Nat.le_trans HEB.out.le (Nat.le_of_lt HEB.out.lt)))))
      have HE2 := Lib.hid (HEB.out.next hb02)
      have HN2 := Lib.hid (HND.out.next hb02)
      have k2' := HN2.out.c2
      rw [HP1.out] at k2'
      clear hb2 hb02 k2 k22 e24 HF HE e1 e4
      by_cases hf : findA x.attrs e.name < 0
      · have HR := Lib.hid (HDE2.out.trans (if_pos hf))
        generalize findA x.attrs e.name = f at *
        go_wp2_with fail
        go_ret
        exact ⟨by rw [HR.out]; rfl, HB2.out, by rw [HR.out]; exact fun h => absurd h (by decide)⟩
      · have HR := Lib.hid (HDE2.out.trans (if_neg hf))
        obtain ⟨i, a, hfi, hai, _⟩ := findA_nat (ats := x.attrs) (nm := e.name) (by omega)
        have hil := (List.getElem?_eq_some_iff.1 hai).1
        rw [hfi] at hf HDO ⊢
        rw [Int.toNat_natCast] at HDO
        have ho2 := HN2.out.parts.attrs
        rw [HP1.out] at ho2
        obtain ⟨ga, cells, hA1, hga, hgl, hrow, hcell, hfz⟩ := Own.block ho2 (by omega)
        subst hA1
        have HDEL := Lib.hid (deleteDA ga x.attrs.length c1 i x.attrs w2 base (fun _ => False) ho2 (fun _ h => h.elim) hil (by have := HN2.out.parts.ok.attrs; omega))
        have HOB := Lib.hid (Own.lt ho2)
        have wz : IntKind.i64.wrap ((i : Int) + 1) = (i : Int) + 1 := IntWalk.i64_in _ (by have := HN2.out.parts.ok.attrs; omega)
        have f2 := HN2.out.free (m * 6 + 2)
        have hgg : g ≠ ga := fun e' => by
          have h1 := own_ne_block (e' := 91) (by decide) HE2.out.at_.ed.row (own_block_at ho2 rfl).choose_spec
          exact h1 (by rw [e']; rfl)
        have HGG := Lib.hid hgg
        clear ho2 hrow hcell hfz hai hfi
        go_wp2_with (go_at_call 123; refine HDEL.out.mono ?_; rintro e' w3 ⟨rfl, hown3, hg3⟩; have k3 : w3.cell? ⟨g, m * 6 + 2, none⟩ = some (.slice (some ⟨ga, 0, none⟩) x.attrs.length c1) := (World.cell?_of_block (hg3.block g HN2.out.lt (fun e' => HGG.out (by simpa using e')))).trans k2'; have f3 : w3.frozen? ⟨g, m * 6 + 2, none⟩ = false := by (have hbk := hg3.block g HN2.out.lt (fun e' => HGG.out (by simpa using e')); unfold World.frozen? at f2 ⊢; rw [hbk]; exact f2))
        go_ret
        have hlen : (x.attrs.eraseIdx i).length = x.attrs.length - 1 := by rw [List.length_eraseIdx, if_pos hil]
        refine ⟨by rw [HR.out]; rfl, ?_, fun _ => ⟨g, c, ps.set m (.slice (some ⟨ga, 0, none⟩) (x.attrs.length - 1) c1, p.2), ?_⟩⟩
        · exact (HB2.out.grown hg3 (by have := HB2.out.size; have := HE2.out.lt; have := HE2.out.low; have := HE2.out.le; omega) (fun k hk => by simp at hk; omega)).setCell (p := ⟨g, m * 6 + 2, none⟩) HN2.out.low _
        · rw [HDO.out]
          exact HE2.out.at_.attrs HM.out HP.out (by rw [HP1.out]; exact hg3) (by rw [hlen]; exact hown3) (Or.inl (by rw [HP1.out]; rfl)) (by rw [hlen]; have := HN2.out.parts.ok.attrs; omega)
end Go.Proofs.YtmemadajjmmlpaaDoor
