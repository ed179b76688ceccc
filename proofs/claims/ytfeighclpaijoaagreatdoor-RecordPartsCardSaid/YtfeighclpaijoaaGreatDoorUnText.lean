/-
The walks of package record's undoer: text.
-/
import Derived.Test.YtfeighclpaijoaaGreatDoorUnBase
namespace Go.Proofs.YtfeighclpaijoaaGreatDoor
open Go.RowKit Go.Cl
attribute [local go_sem ↓] Go.wp_at_zero Go.wp_at_succ

/-- Blocks that an undoing step may turn: rows of nodes, attributes, numbers; an undoer. -/
def NearAt (w : World) (k : Nat) : Prop := ∃ cs t fr, w.heap[k]? = some (.cells cs t fr) ∧ (t = 43 ∨ t = 66 ∨ t = 3 ∨ t = 53)
/-- All others lie as they lay. -/
structure Leaves (w w' : World) : Prop where
  size : w.heap.size ≤ w'.heap.size
  same : ∀ (k : Nat) o, w.heap[k]? = some o → ¬ NearAt w k → w'.heap[k]? = some o
theorem Leaves.refl (w : World) : Leaves w w := ⟨Nat.le_refl _, fun _ _ h _ => h⟩
theorem Leaves.below {w w' : World} (h : Below w.heap.size w w') : Leaves w w' := ⟨h.size, fun k _ hk _ => (h.block k (Array.getElem?_eq_some_iff.1 hk).1).trans hk⟩
theorem NearAt.back {w w' : World} (h : Leaves w w') {k : Nat} (hk : ¬ NearAt w k) (hl : k < w.heap.size) : ¬ NearAt w' k := by
  rintro ⟨cs, t, fr, h1, h2⟩
  have h3 := h.same k _ (Array.getElem?_eq_getElem hl) hk
  rw [h1] at h3
  exact hk ⟨cs, t, fr, (Array.getElem?_eq_getElem hl).trans h3.symm, h2⟩
theorem Leaves.trans {a b c : World} (h : Leaves a b) (k : Leaves b c) : Leaves a c :=
  ⟨Nat.le_trans h.size k.size, fun i o hi hn => k.same i o (h.same i o hi hn) (NearAt.back h hn (Array.getElem?_eq_some_iff.1 hi).1)⟩
theorem Leaves.grown {w w' : World} {row : Option Nat} (hg : w.grownBy w' row) (hr : ∀ k, row = some k → NearAt w k) : Leaves w w' :=
  ⟨hg.size, fun k _ hk hn => (hg.block k (Array.getElem?_eq_some_iff.1 hk).1 (fun e => hn (hr k e.symm))).trans hk⟩
theorem Leaves.put {w w1 : World} {g : Nat} (h : Leaves w w1) (hg : NearAt w g) (i : Nat) (u : Value) : Leaves w (w1.setCell ⟨g, i, none⟩ u) :=
  ⟨Nat.le_trans h.size (by simp), fun k o hk hn => (Below.heap_setCell w1 ⟨g, i, none⟩ u k (fun e => hn (by rw [e]; exact hg))).trans (h.same k o hk hn)⟩
theorem near_row {α : Type} {T : Ty α} {w : World} {base : Nat} {e : TypeId} {D : Nat → Prop} {v : Value} {n : Nat} {xs : List α} (h : Own T w base e D v n xs) (ht : e = 43 ∨ e = 66 ∨ e = 3 ∨ e = 53) (k : Nat) (hk : v.ownBlock = some k) : NearAt w k := by
  obtain ⟨cur, h1⟩ := own_block_at h hk
  exact ⟨cur, e, _, h1, ht⟩
theorem UnAt.near {w : World} {E g c base : Nat} {l : List Nd} {q : Bool} {ps : List (Value × Value)} (h : UnAt w E g c base l q ps) : NearAt w g := near_row h.ed.row (Or.inl rfl) g rfl
theorem UnAt.nearE {w : World} {E g c base : Nat} {l : List Nd} {q : Bool} {ps : List (Value × Value)} (h : UnAt w E g c base l q ps) : NearAt w E := ⟨_, _, _, h.box, Or.inr (Or.inr (Or.inr rfl))⟩
/-- What an undoing method leaves behind. -/
def UnPost (w : World) (E base : Nat) (q : Bool) (l' : List Nd) (e : Ending) (w' : World) : Prop :=
  e = .returned (.bool true) ∧ (Below base w w' ∧ Leaves w w') ∧ ∃ g' c' ps', UnAt w' E g' c' base l' q ps'
set_option maxRecDepth 100000 in
set_option maxHeartbeats 8000000 in
theorem unText_any (w : World) (E g c base : Nat) (l : List Nd) (q : Bool) (ps : List (Value × Value)) (s : Stp) (Aa : Option Addr) (na ca : Nat) (Ak : Option Addr) (nk ck : Nat) (h : UnAt w E g c base l q ps) (hok : StpOk w (lt base) s Aa na ca Ak nk ck) {m : Nat} {x : Nd} (hat : s.edit.at_ = (m : Int)) (hx : l[m]? = some x) (hk : x.kind = 3 ∨ x.kind = 4) (hx2 : EdOk { x with text := s.was }) :
    Calls Tryz.prog 34 #[.pointer (some ⟨E, 0, none⟩), .agg (stpCells s Aa na ca Ak nk ck)] w (UnPost w E base q (l.set m { x with text := s.was })) := by
  obtain ⟨w0, hw0⟩ : ∃ w0, w0 = w.alloc (.cells (stpCells s Aa na ca Ak nk ck) 48) := ⟨_, rfl⟩
  have hbx : w0.heap[w.heap.size]? = some (.cells (stpCells s Aa na ca Ak nk ck) 48 (0, 0)) := by rw [hw0]; exact heap_alloc_new w _
  have hb0 : Below w.heap.size w w0 := by rw [hw0]; exact (Below.refl _ _).alloc (Nat.le_refl _) _
  have hz0 : w0.heap.size = w.heap.size + 1 := by rw [hw0]; exact World.size_alloc w _
  have H0 := Lib.hid (h.next hb0)
  have HB0 := Lib.hid hb0
  have HBX := Lib.hid hbx
  have HZ0 := Lib.hid hz0
  have HBE : Hid (base ≤ w.heap.size) := Nat.le_trans h.le (Nat.le_of_lt h.lt)
  have HOK := Lib.hid hok
  have s1 : w0.cell? ⟨w.heap.size, 1, none⟩ = some (.int .i64 s.edit.at_) := cell_blk hbx rfl
  have s13 : w0.cell? ⟨w.heap.size, 13, none⟩ = some (.string s.was) := cell_blk hbx rfl
  unfold stpCells at hw0

  have HN := Lib.hid (unNode_any w0 E g c base l q ps s.edit.at_ H0.out)
  obtain ⟨p, hp, hnd⟩ := H0.out.node hx
  have k0 := hnd.c0
  have k3 := hnd.c3
  have f3 := hnd.free (m * 6 + 3)
  rw [hat, ptr_some hx] at HN
  rw [hat] at s1
  have HND := Lib.hid hnd
  have HP := Lib.hid hp
  have HX := Lib.hid hx
  have HX2 := Lib.hid hx2
  have HSA := Lib.hid hat
  have t3 : (x.kind != 3 && x.kind != 4) = false := by rcases hk with hk | hk <;> rw [hk] <;> rfl
  clear hbx hb0 hz0 hok h hx2 hp hnd hx hat
  go_enter Tryz.func34, Tryz.ntmps34
  unfold stpCells
  go_upto_region 1 with fail
  rw [← hw0]
  clear hw0

  rcases hk with hk | hk
  · rw [hk] at k0
    clear hk
    go_wp2_with (go_at_call 48; refine HN.out.mono ?_; rintro e w1 ⟨rfl, rfl⟩)
    refine bodyPost_ret (v := .bool true) (by simp [results, Tryz.results34, go_sem]) rfl ⟨rfl, ?_, ?_⟩
    · exact ⟨(HB0.out.mono HBE.out).setCell (p := ⟨g, m * 6 + 3, none⟩) HND.out.low _, (Leaves.below HB0.out).trans ((Leaves.refl _).put H0.out.near _ _)⟩
    · exact ⟨g, c, ps, H0.out.plain (j := 3) HX.out HP.out (by decide) rfl rfl rfl HX2.out⟩
  · rw [hk] at k0
    clear hk
    go_wp2_with (go_at_call 48; refine HN.out.mono ?_; rintro e w1 ⟨rfl, rfl⟩)
    refine bodyPost_ret (v := .bool true) (by simp [results, Tryz.results34, go_sem]) rfl ⟨rfl, ?_, ?_⟩
    · exact ⟨(HB0.out.mono HBE.out).setCell (p := ⟨g, m * 6 + 3, none⟩) HND.out.low _, (Leaves.below HB0.out).trans ((Leaves.refl _).put H0.out.near _ _)⟩
    · exact ⟨g, c, ps, H0.out.plain (j := 3) HX.out HP.out (by decide) rfl rfl rfl HX2.out⟩
end Go.Proofs.YtfeighclpaijoaaGreatDoor
