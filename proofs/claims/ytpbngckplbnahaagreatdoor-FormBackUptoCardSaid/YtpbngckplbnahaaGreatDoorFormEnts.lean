/-
Forms: the walk of Entries.
-/
import Derived.Test.YtpbngckplbnahaaGreatDoorFormCtrl
import Derived.Test.YtpbngckplbnahaaGreatDoorStrSet
import Derived.Test.YtpbngckplbnahaaGreatDoorRegionIn
import Derived.Test.YtpbngckplbnahaaGreatDoorIntBack
namespace Go.Proofs.YtpbngckplbnahaaGreatDoor
open Go.RowKit Go.Cl Go.Shelf
attribute [local go_sem] Oper.semAt_some
attribute [local go_sem ↓] Go.wp_at_zero Go.wp_at_succ

/-- What Entries hands back. -/
def EntsPost (w : World) (l : List Nd) (form : Int) (e : Ending) (w' : World) : Prop :=
  Below w.heap.size w w' ∧ (((entR l form).2 ≠ 0 ∧ e = .returned (.tuple #[.slice none 0 0, .int .i64 (entR l form).2])) ∨
    ((entR l form).2 = 0 ∧ ∃ v, e = .returned (.tuple #[v, .int .i64 0]) ∧ OwnF tDA w' w.heap.size 38 v (entR l form).1.length (entR l form).1))
/-- Between two rounds. -/
structure EnI (w5 : World) (X8 : Nat) (O : Option Addr) (m k : Nat) (acc : List Ent × List ByteArray) (r : Nat) (W : World) : Prop where
  low : Below X8 w5 W
  size : w5.heap.size ≤ W.heap.size
  top : w5.heap.size = X8 + 4
  out : ∃ v, W.heap[X8]? = some (.cells #[v] 32 (0, 0)) ∧ OwnF tDA W w5.heap.size 38 v acc.1.length acc.1
  set : ∃ seen, SetAt W (X8 + 1) seen ∧ seen.length ≤ r ∧ ∀ x : ByteArray, seen.any (fun z => z.toList == x.toList) = acc.2.any (fun z => z.toList == x.toList)
  mb : W.heap[X8 + 2]? = some (.cells #[.map (some (X8 + 1))] 71 (0, 0))
  xb : W.heap[X8 + 3]? = some (.cells #[.slice O m k] 23 (0, 0))
section
variable {w5 W W' : World} {X8 : Nat} {O : Option Addr} {m k : Nat} {acc : List Ent × List ByteArray} {r : Nat}
theorem blk_next {W W' : World} {g : Nat} {o : Obj} (h : W.heap[g]? = some o) (hb : Below W.heap.size W W') : W'.heap[g]? = some o := (hb.block g (Array.getElem?_eq_some_iff.1 h).1).trans h
theorem EnI.next (h : EnI w5 X8 O m k acc r W) (hb : Below W.heap.size W W') : EnI w5 X8 O m k acc r W' := by
  obtain ⟨v, v1, v2⟩ := h.out
  obtain ⟨seen, s1, s2, s3⟩ := h.set
  have hz := h.size
  have ht := h.top
  exact ⟨h.low.trans (hb.mono (by omega)), Nat.le_trans hz hb.size, ht, ⟨v, blk_next v1 hb, v2.below hb (Nat.le_refl _)⟩, ⟨seen, s1.next (hb.block _ s1.lt), s2, s3⟩, blk_next h.mb hb, blk_next h.xb hb⟩
theorem below_drew (W : World) : Below W.heap.size W W.drew := ⟨rfl, rfl, rfl, Nat.le_refl _, fun _ _ => rfl⟩
theorem EnI.drew (h : EnI w5 X8 O m k acc r W) : EnI w5 X8 O m k acc r W.drew := h.next (below_drew W)
theorem EnI.more (h : EnI w5 X8 O m k acc r W) (r' : Nat) (hr : r ≤ r') : EnI w5 X8 O m k acc r' W := by
  obtain ⟨seen, s1, s2, s3⟩ := h.set
  exact { h with set := ⟨seen, s1, Nat.le_trans s2 hr, s3⟩ }
theorem EnI.own : OwnFrom w5.heap.size (fun (_ : Unit) W => EnI w5 X8 O m k acc r W) := by
  rintro _ W W' row h hg hr
  obtain ⟨v, v1, v2⟩ := h.out
  obtain ⟨seen, s1, s2, s3⟩ := h.set
  have hz := h.size
  have ht := h.top
  have hne : ∀ g, g < w5.heap.size → some g ≠ row := fun g hg' e => by have := (hr g e.symm).1; omega
  have hb : Below w5.heap.size W W' := (Below.refl _ _).grown hg hz fun r e => (hr r e).1
  refine ⟨h.low.trans (hb.mono (by omega)), Nat.le_trans hz hg.size, ht, ⟨v, (hb.block _ (by omega)).trans v1, Cl.Own.kept v2 hg ?_ fun _ h => h.elim⟩, ⟨seen, s1.next (hb.block _ (by omega)), s2, s3⟩, (hb.block _ (by omega)).trans h.mb, (hb.block _ (by omega)).trans h.xb⟩
  cases hv : v.ownBlock with
  | none => exact .inl rfl
  | some g =>
    right
    intro e
    obtain ⟨_, o, ho, hoc⟩ := hr g e.symm
    obtain ⟨cs, hc⟩ := own_blk_cells v2 hv
    rw [hc] at ho
    obtain rfl := Option.some.inj ho
    cases hoc
theorem keep_blk {α : Type} {T : Ty α} {base : Nat} {e : TypeId} {v : Value} {n b : Nat} {l : List α} (h : OwnF T W base e v n l) (hb : b < base) : v.ownBlock = none ∨ v.ownBlock ≠ some b := by
  cases hv : v.ownBlock with
  | none => exact .inl rfl
  | some g => exact .inr fun e' => by have := (Cl.Own.lt h g hv).1; injection e' with e'; omega
/-- The set has turned. -/
theorem EnI.turn (h : EnI w5 X8 O m k acc r W) {seen : List ByteArray} {acc2 : List ByteArray} {r' : Nat} (hg : W.grownBy W' (some (X8 + 1))) (hs : SetAt W' (X8 + 1) seen) (hl : seen.length ≤ r') (ha : ∀ x : ByteArray, seen.any (fun z => z.toList == x.toList) = acc2.any (fun z => z.toList == x.toList)) : EnI w5 X8 O m k (acc.1, acc2) r' W' := by
  obtain ⟨v, v1, v2⟩ := h.out
  have hz := h.size
  have ht := h.top
  have hlt : ∀ g, g < X8 + 4 → g < W.heap.size := fun g hg => by omega
  exact ⟨h.low.grown hg (by omega) (fun r e => by cases e; omega), Nat.le_trans hz hg.size, ht, ⟨v, (hg.block X8 (hlt _ (by omega)) (by simp)).trans v1, Cl.Own.kept v2 hg (keep_blk v2 (by omega)) fun _ h => h.elim⟩, ⟨seen, hs, hl, ha⟩, (hg.block (X8 + 2) (hlt _ (by omega)) (by simp)).trans h.mb, (hg.block (X8 + 3) (hlt _ (by omega)) (by simp)).trans h.xb⟩
/-- The entries have turned. -/
theorem EnI.put (h : EnI w5 X8 O m k acc r W) {V1 V2 : World} {v' : Value} {E : List Ent} (hb1 : Below W.heap.size W V1) (hb2 : Below W.heap.size V1 V2) (ho : OwnF tDA V2 W.heap.size 38 v' (E.length + acc.1.length) (E ++ acc.1)) :
    EnI w5 X8 O m k (E ++ acc.1, acc.2) r (V2.setCell ⟨X8, 0, none⟩ v') ∧ KeepsLD W (V2.setCell ⟨X8, 0, none⟩ v') := by
  obtain ⟨v, v1, v2⟩ := h.out
  have hb : Below W.heap.size W V2 := hb1.trans hb2
  have hn := h.next hb
  have hz := h.size
  have ht := h.top
  have hx := blk_next v1 hb
  have hg := grown_set V2 X8 0 v'
  have hoth : ∀ g, g ≠ X8 → (V2.setCell ⟨X8, 0, none⟩ v').heap[g]? = V2.heap[g]? := fun g hg => heap_setCell_other V2 ⟨X8, 0, none⟩ g v' hg
  refine ⟨⟨hn.low.setCell (p := ⟨X8, 0, none⟩) (Nat.le_refl _) _, Nat.le_trans hn.size hg.size, ht, ⟨v', set_blk hx v', ?_⟩, ?_, (hoth _ (by omega)).trans hn.mb, (hoth _ (by omega)).trans hn.xb⟩, (KeepsLD.below hb).trans (KeepsLD.grown hg fun r e o ho => ?_)⟩
  · show OwnF tDA _ w5.heap.size _ v' (E ++ acc.1).length (E ++ acc.1)
    rw [List.length_append]
    exact Cl.Own.down (Cl.Own.kept ho hg (keep_blk ho (by omega)) fun _ h => h.elim) hz
  · obtain ⟨seen, s1, s2, s3⟩ := hn.set
    exact ⟨seen, s1.next (hoth _ (by omega)), s2, s3⟩
  · cases e
    rw [hx] at ho
    obtain rfl := Option.some.inj ho
    rfl
/-- append of a source to a row of the call's own: its run. -/
theorem run_apf {P : Program} (w : World) {t ty : TypeId} {α : Type} {T : Ty α} (hT : Flat T) {e : TypeId} {bytes base : Nat} (hE : ElemOf P t e T.size bytes) {v : Value} {n : Nat} {xs : List α} (hown : OwnF T w base e v n xs)
    {D' : Nat → Prop} {A : Option Addr} {m c : Nat} {ys : List α} (hs : Sl T w D' A m c ys) (h63 : n + m ≤ 140737488355328) (hbytes : (n + m) * bytes ≤ 140737488355328) (hbase : base ≤ w.heap.size) :
    ∃ v' w', (Builtin.append_ #[t, t] ty #[v, .slice A m c]).run P w = .ok v' w' ∧ OwnF T w' base e v' (n + m) (xs ++ ys) ∧ Below base w w' := by
  obtain ⟨cs, h1, h2⟩ := hown
  obtain ⟨v', w', news, hrun, hn, ho, hg, _⟩ := run_apd (ty := ty) w hE h1 hs h63 hbytes hbase
  exact ⟨v', w', hrun, ⟨_, ho, (h2.flat hT).append (hn.flat hT)⟩, (Below.refl base w).grown hg hbase fun k hk => (h1.lt k hk).1⟩
/-- The forms' box in a later round. -/
theorem EnI.fm {w : World} {B F : Nat} {A : Option Addr} {n c : Nat} {q : Bool} {O' : Option Addr} {m' k' : Nat} {l : List Nd} {ord : List Int} (h : EnI w5 X8 O m k acc r W) (hF : Fm w5 B F A n c q O' m' k' l ord) (hE : Env w) (hb : Below w.heap.size w w5) (h1 : w.heap.size ≤ X8) (h2 : F < X8) (h3 : B ≤ X8) : Fm W B F A n c q O' m' k' l ord :=
  ⟨(h.low.block F h2).trans hF.box, hF.doc.below h.low h3, hF.ord.below h.low h3, Nat.le_trans h3 (by have := h.size; have := h.top; omega), hE.below (hb.trans (h.low.mono h1))⟩
end
theorem entries_few {l : List Nd} (T : Tree l) {i : Nat} (hi : i < l.length) : (entriesF l i).length ≤ 200 := by
  have := chosen_few T hi
  unfold entriesF
  split
  · rw [List.length_map]
    split
    · exact this
    · rw [List.length_drop]; omega
  · simp
theorem acc_few {l : List Nd} (T : Tree l) {ord : List Int} (hK : Known l ord) (form : Int) : ∀ j, ((ord.reverse.take j).foldl (entStep l ord form) ([], [])).1.length ≤ 200 * j := by
  intro j
  induction j with
  | zero => simp
  | succ j ih =>
    by_cases h : j < ord.reverse.length
    · obtain ⟨z, hz⟩ := get_some h
      obtain ⟨i, rfl, hi⟩ := hK z (List.mem_reverse.1 (List.mem_of_getElem? hz))
      rw [take_snoc hz, List.foldl_append]
      generalize (ord.reverse.take j).foldl (entStep l ord form) ([], []) = s at *
      have := entries_few T hi
      show (entStep l ord form s (i : Int)).1.length ≤ _
      unfold entStep
      split
      · split
        · split
          · omega
          · dsimp only; rw [List.length_append]; omega
        · dsimp only; rw [List.length_append]; omega
      · omega
    · rw [List.take_of_length_le (by omega)]
      rw [List.take_of_length_le (by omega)] at ih
      omega
set_option maxRecDepth 100000 in
set_option maxHeartbeats 8000000 in
theorem entries_any (A : Option Addr) (n c : Nat) (l : List Nd) (q : Bool) (form : Int) (w : World) (B : Nat) (hl : Sl tNd w (lt B) A n c l) (hB : B ≤ w.heap.size) (hE : Env w) (hnn : (Lit.int .i64 form).wf = true) :
    Calls Tryz.prog 10 #[.agg #[.slice A n c, .bool q], .int .i64 form] w (EntsPost w l form) := by
  obtain ⟨wa, hwa⟩ : ∃ wa, wa = w.alloc (.cells #[.slice A n c, .bool q] 29) := ⟨_, rfl⟩
  obtain ⟨w0, hw0⟩ : ∃ w0, w0 = wa.alloc (.cells #[.int .i64 form] 3) := ⟨_, rfl⟩
  have za : wa.heap.size = w.heap.size + 1 := by rw [hwa]; exact World.size_alloc w _
  have z0 : w0.heap.size = w.heap.size + 2 := by rw [hw0, World.size_alloc, za]
  have hx1 : w0.heap[w.heap.size]? = some (.cells #[.slice A n c, .bool q] 29 (0, 0)) := by rw [hw0, Lib.alloc_old _ _ _ (by omega), hwa]; exact heap_alloc_new w _
  have hx3 : w0.heap[w.heap.size + 1]? = some (.cells #[.int .i64 form] 3 (0, 0)) := by rw [hw0, ← za]; exact heap_alloc_new wa _
  have hb0 : Below w.heap.size w w0 := by rw [hw0, hwa]; exact balloc (balloc (Below.refl _ _) _) _
  have HB0 := Lib.hid hb0
  have HX1 := Lib.hid hx1
  have HX3 := Lib.hid hx3
  have HZ0 := Lib.hid z0
  have HE := Lib.hid hE
  have HCT := Lib.hid (control_f A n c l q form (⟨#[32, 102, 111, 114, 109, 32]⟩ : ByteArray) w0 B (hl.below hb0 hB) (Nat.le_trans hB hb0.size) (hE.below hb0) (by decide) hnn)
  have x0 := cell_blk (i := 0) hx1 rfl
  have x1 := cell_blk (i := 1) hx1 rfl
  have x3 := cell_blk (i := 0) hx3 rfl
  have HL := Lib.hid hl
  have HBW : Hid (B ≤ w.heap.size) := hB
  have HR0 := Lib.hid (show entR l form = if ctrlE l form (⟨#[32, 102, 111, 114, 109, 32]⟩ : ByteArray) ≠ 0 then ([], ctrlE l form (⟨#[32, 102, 111, 114, 109, 32]⟩ : ByteArray)) else if 100 < (entFold l (preR l 0) form).1.length then ([], 2) else ((entFold l (preR l 0) form).1, 0) from rfl)
  clear za z0 hx1 hx3 hb0 hE hl hB
  have hmk := @run_makeMap Tryz.prog
  refine (callsIn_wide (n := 9)).1 ?_
  refine callsIn_of_wp_marks Tryz.func10 rfl trivial ?_ rfl
  simp only [Tryz.ntmps10, List.size_toArray, List.length_cons, List.length_nil, Nat.reduceAdd, Nat.reduceSub, Array.replicate_succ, Array.replicate_zero, List.push_toArray, List.append_toArray, List.nil_append, List.cons_append]
  refine wpIn_wide.2 ?_
  go_upto_region 1 with fail
  rw [← hwa, ← hw0]
  clear hwa hw0
  go_upto_region 2 with (go_at_call 25; refine HCT.out.mono ?_; rintro e w1 ⟨hb1, F, rfl, hF1, hF2, hfm⟩)
  obtain ⟨w2, hw2⟩ : ∃ w2, w2 = w1.alloc (.cells #[.pointer (some ⟨F, 0, none⟩)] 68) := ⟨_, rfl⟩
  have z2 : w2.heap.size = w1.heap.size + 1 := by rw [hw2]; exact World.size_alloc w1 _
  have hb12 : Below w1.heap.size w1 w2 := by rw [hw2]; exact balloc (Below.refl _ _) _
  have hx6 : w2.heap[w1.heap.size]? = some (.cells #[.pointer (some ⟨F, 0, none⟩)] 68 (0, 0)) := by rw [hw2]; exact heap_alloc_new w1 _
  rw [← hw2]
  have HB1 := Lib.hid hb1
  have HF1 := Lib.hid hF1
  have HF2 := Lib.hid hF2
  have HFM := Lib.hid hfm
  have HB12 := Lib.hid hb12
  have HX6 := Lib.hid hx6
  have HZ2 := Lib.hid z2
  have HB02 := Lib.hid (bst HB0.out (bst hb1 hb12))
  clear hb1 hF1 hF2 hfm hb12 hx6 z2 hw2 HCT x3
  by_cases hc : ctrlE l form (⟨#[32, 102, 111, 114, 109, 32]⟩ : ByteArray) = 0
  · have HC0 := Lib.hid hc
    have HR1 := Lib.hid (show entR l form = if 100 < (entFold l (preR l 0) form).1.length then ([], 2) else ((entFold l (preR l 0) form).1, 0) from by rw [HR0.out, if_neg (by rw [hc]; simp)])
    obtain ⟨Bf, O, m, kc, hfm⟩ := HFM.out hc
    have hmn := hfm.ord.hn
    have HMN := Lib.hid hmn
    have hmc := hfm.ord.hc
    have HFm := Lib.hid hfm
    rw [hc]
    obtain ⟨w3, hw3⟩ : ∃ w3, w3 = w2.alloc (.cells #[.slice none 0 0] 32) := ⟨_, rfl⟩
    obtain ⟨w4, hw4⟩ : ∃ w4, w4 = w3.alloc (.map #[] 0) := ⟨_, rfl⟩
    obtain ⟨w5, hw5⟩ : ∃ w5, w5 = w4.alloc (.cells #[.map (some (w2.heap.size + 1))] 71) := ⟨_, rfl⟩
    obtain ⟨w6, hw6⟩ : ∃ w6, w6 = w5.alloc (.cells #[.slice O m kc] 23) := ⟨_, rfl⟩
    have z3 : w3.heap.size = w2.heap.size + 1 := by rw [hw3]; exact World.size_alloc _ _
    have z4 : w4.heap.size = w2.heap.size + 2 := by rw [hw4, World.size_alloc, z3]
    have z5 : w5.heap.size = w2.heap.size + 3 := by rw [hw5, World.size_alloc, z4]
    have z6 : w6.heap.size = w2.heap.size + 4 := by rw [hw6, World.size_alloc, z5]
    have hx8 : w6.heap[w2.heap.size]? = some (.cells #[.slice none 0 0] 32 (0, 0)) := by rw [hw6, Lib.alloc_old _ _ _ (by omega), hw5, Lib.alloc_old _ _ _ (by omega), hw4, Lib.alloc_old _ _ _ (by omega), hw3]; exact heap_alloc_new w2 _
    have hset : SetAt w6 (w2.heap.size + 1) [] := by
      have h1 := SetAt.made w3
      rw [z3] at h1
      refine h1.next ?_
      rw [hw6, Lib.alloc_old _ _ _ (by omega), hw5, Lib.alloc_old _ _ _ (by omega), hw4]
    have hx9 : w6.heap[w2.heap.size + 2]? = some (.cells #[.map (some (w2.heap.size + 1))] 71 (0, 0)) := by rw [hw6, Lib.alloc_old _ _ _ (by omega), hw5, ← z4]; exact heap_alloc_new w4 _
    have hxb : w6.heap[w2.heap.size + 3]? = some (.cells #[.slice O m kc] 23 (0, 0)) := by rw [hw6, ← z5]; exact heap_alloc_new w5 _
    have hb26 : Below w2.heap.size w2 w6 := by rw [hw6, hw5, hw4, hw3]; exact balloc (balloc (balloc (balloc (Below.refl _ _) _) _) _) _
    have hI0 : EnI w6 w2.heap.size O m kc ([], []) 0 w6 := ⟨Below.refl _ _, Nat.le_refl _, z6, ⟨_, hx8, OwnF.nil _ _ _⟩, ⟨[], hset, Nat.le_refl _, fun _ => rfl⟩, hx9, hxb⟩
    have HI0 := Lib.hid hI0
    have HB26 := Lib.hid hb26
    have HBK := Lib.hid (backI_any O m kc w5)
    have y6 : w5.cell? ⟨w1.heap.size, 0, none⟩ = some (.pointer (some ⟨F, 0, none⟩)) := by rw [hw5, hw4, hw3]; exact cell_al (cell_al (cell_al (cell_blk (i := 0) HX6.out rfl) _) _) _
    have HY6 := Lib.hid y6
    have f2 : w5.cell? ⟨F, 2, none⟩ = some (.slice O m kc) := by rw [hw5, hw4, hw3]; exact cell_al (cell_al (cell_al (cell_be hfm.c2 HB12.out) _) _) _
    have HZ := Lib.hid (show w3.heap.size = w2.heap.size + 1 ∧ w4.heap.size = w2.heap.size + 2 ∧ w5.heap.size = w2.heap.size + 3 ∧ w6.heap.size = w2.heap.size + 4 from ⟨z3, z4, z5, z6⟩)
    clear hx8 hset hx9 hxb hb26 hI0 z3 z4 z5 z6 hmn hfm HFM HR0 hc
    go_upto_region 6 with fail
    rw [← hw3, ← hw4, ← hw5]
    clear hw3 hw4 hw5
    go_wp2_with (go_at_call 26; refine HBK.out.mono ?_; rintro e' wz ⟨rfl, rfl⟩; rw [← hw6])
    rw [← hw6]
    clear hw6
    obtain ⟨hck, _⟩ := ctrl_zero HC0.out
    have hT := tree_of hck
    have HT := Lib.hid hT
    have HG := Lib.hid (good_of hck)
    have HKN : Hid (Known l (preR l 0)) := fun x hx => by obtain ⟨y, e, hy, _⟩ := hT.all_chain.2.2 x hx; exact ⟨y, e, hy⟩
    have hmf : m ≤ 200 := by have := hT.all_few; have := HMN.out; omega
    obtain ⟨ord, hord⟩ : ∃ ord, preR l 0 = ord := ⟨_, rfl⟩
    rw [hord] at HKN HMN HFm HR1
    have HORD := Lib.hid hord
    obtain ⟨acc, hacc⟩ : ∃ acc : Nat → List Ent × List ByteArray, acc = fun j => (ord.reverse.take j).foldl (entStep l ord form) ([], []) := ⟨_, rfl⟩
    have HACC := Lib.hid hacc
    have HA0 := Lib.hid (show acc 0 = ([], []) from by rw [hacc]; rfl)
    rw [← HA0.out] at HI0
    have HFW : Hid (∀ a r V, EnI w6 w2.heap.size O m kc a r V → Fm V Bf F A n c q O m kc l ord) := fun a r V h => h.fm (HFm.out.below (bst HB12.out HB26.out)) HE.out (HB02.out.trans (HB26.out.mono HB02.out.size)) HB02.out.size (by have := HF2.out; have := HZ2.out; omega) (Nat.le_trans HFm.out.le HB12.out.size)
    have HCW : Hid (∀ a r V, EnI w6 w2.heap.size O m kc a r V → V.cell? ⟨w.heap.size, 0, none⟩ = some (.slice A n c) ∧ V.cell? ⟨w.heap.size + 1, 0, none⟩ = some (.int .i64 form) ∧ V.cell? ⟨w1.heap.size, 0, none⟩ = some (.pointer (some ⟨F, 0, none⟩))) := fun a r V h => by
      have h1 := HB1.out.size
      have h2 := HZ2.out
      have h3 := HZ0.out
      have b1 : Below w0.heap.size w0 w6 := bst HB1.out (bst HB12.out HB26.out)
      exact ⟨(h.low.cell (p := ⟨w.heap.size, 0, none⟩) (by show w.heap.size < _; omega)).trans (cell_be (cell_blk (i := 0) HX1.out rfl) b1), (h.low.cell (p := ⟨w.heap.size + 1, 0, none⟩) (by show w.heap.size + 1 < _; omega)).trans (cell_be (cell_blk (i := 0) HX3.out rfl) b1), (h.low.cell (p := ⟨w1.heap.size, 0, none⟩) (by show w1.heap.size < _; omega)).trans (cell_be (cell_blk (i := 0) HX6.out rfl) HB26.out)⟩
    clear hT hord hacc hck
    refine wpIn_wide.1 (wpIn_rounds2 (F := Fence.wide) (n := 9) rfl (by decide) (gf := 59) (lb := #[.pointer (some ⟨w5.heap.size, 0, none⟩)]) rfl trivial (enters_of Tryz.func59 (by kernel_rfl) rfl)
      m (fun k => #[.int .i64 ((m - 1 - k : Nat) : Int), .int .i64 (ord.getD (m - 1 - k) 0)]) (fun _ => rfl) (fun k W => EnI w6 w2.heap.size O m kc (acc k) k W)
      11 11 (fun k => .int .i64 (ord.getD (m - 1 - k) 0)) (fun k => .int .i64 (ord.getD (m - 1 - k) 0))
      (fun _ => EnI.own) HI0.out ?hseq ?assign ?body ?done)
    case assign =>
      intro lp k W K hk hI hK
      have HI := Lib.hid hI
      have HK := Lib.hid hK
      clear hI hK
      gi_wp2
      refine HK.out _ _ (KeepsOthers.refl _) ⟨HI.out, ?_⟩
      first | (go_simp; done) | (simp; done) | kernel_rfl
    case hseq =>
      intro lp J W hJI hY h0
      refine backI1_in 8 (by decide) lp w5.heap.size O m kc (by omega) (fun i => ord.getD i 0) J (fun k W hJ => ?_) (fun k i W1 hk hJ => ?_) W h0
      · have hI := hJI k W hJ
        refine ⟨cell_blk (i := 0) (by have h1 := hI.xb; rw [show w5.heap.size = w2.heap.size + 3 from HZ.out.2.2.1]; exact h1) rfl, fun i hi => ?_⟩
        obtain ⟨z, hz⟩ := get_some (l := ord) (k := i) (by have := HMN.out; omega)
        obtain ⟨b8, o8, e8, _, h8, _⟩ := (HFW.out _ _ _ hI).ord.int hz
        exact ⟨b8, o8, e8, by rw [h8, List.getD_eq_getElem?_getD, hz]; rfl⟩
      · have h1 := hY k W1 (by omega) hJ
        rw [show m - 1 - k = i from by omega] at h1
        exact h1
    case body =>
      rintro lp k a' W hk ⟨hI, rfl⟩
      obtain ⟨z, hz⟩ := get_some (l := ord) (k := m - 1 - k) (by have := HMN.out; omega)
      obtain ⟨i, rfl, hil⟩ := HKN.out z (List.mem_of_getElem? hz)
      have hgd : ord.getD (m - 1 - k) 0 = (i : Int) := by rw [List.getD_eq_getElem?_getD, hz]; rfl
      rw [hgd]
      have HST := Lib.hid (show acc (k + 1) = entStep l ord form (acc k) (i : Int) from by
        rw [HACC.out]
        dsimp only
        rw [take_snoc (x := (i : Int)) (by rw [List.getElem?_reverse (by have := HMN.out; omega), show ord.length - 1 - k = m - 1 - k from by have := HMN.out; omega]; exact hz), List.foldl_append]
        rfl)
      obtain ⟨x, hx⟩ := get_some hil
      obtain ⟨b, o, eA, i2, Aa, na, ca, Ak, nk, ck, hnd, p0, p1, p2, p3, p4, p5⟩ := (HFW.out _ _ _ hI).at_ hx
      have hat : atD l i = x := atD_at hx
      have hes := (nodeE_iff x).1 (HG.out.each x (List.mem_of_getElem? hx))
      have HI := Lib.hid hI
      have HIL : Hid (i < l.length) := hil
      have HP1 := Lib.hid p1
      have HNS : Hid (x.name.size ≤ 400) := hes.2.2.2.2
      have i1 : (0 : Int) ≤ (i : Int) := by omega
      have i3 : i < 200 := by have := HT.out.small; omega
      have HIN := Lib.hid (show inF l ord form i = (oneB x.name (⟨#[32, 105, 110, 112, 117, 116, 32, 116, 101, 120, 116, 97, 114, 101, 97, 32, 115, 101, 108, 101, 99, 116, 32, 98, 117, 116, 116, 111, 110, 32]⟩ : ByteArray) && ownerF l ord i == form && toldF l i) from by unfold inF; rw [hat])
      have HCE : Hid (∀ V, Below W.heap.size W V → V.cell? ⟨w.heap.size, 0, none⟩ = some (.slice A n c) ∧ V.cell? ⟨w.heap.size + 1, 0, none⟩ = some (.int .i64 form) ∧ V.cell? ⟨w1.heap.size, 0, none⟩ = some (.pointer (some ⟨F, 0, none⟩)) ∧ V.cell? ⟨b, o + i * 6 + 1, none⟩ = some (.string x.name)) := fun V hV => by
        obtain ⟨c1, c2, c3⟩ := HCW.out _ _ _ (HI.out.next hV)
        exact ⟨c1, c2, c3, cell_be HP1.out hV⟩
      have HOW := Lib.hid (fun V (hV : Below W.heap.size W V) => owner_f HT.out ((HFW.out _ _ _ (HI.out.next hV))) HKN.out HIL.out)
      have HTL := Lib.hid (fun V (hV : Below W.heap.size W V) => told_f HT.out HG.out ((HFW.out _ _ _ (HI.out.next hV))) HIL.out)
      have HON := Lib.hid (fun V (hV : Below W.heap.size W V) => (HFW.out _ _ _ (HI.out.next hV)).env.mx)
      have HDB := Lib.hid (below_drew W)
      clear hI hz hil hx hnd p0 p1 p2 p3 p4 p5 hat hes hgd
      subst eA
      generalize ownerF l ord (i : Int) = ow at *
      generalize toldF l (i : Int) = td at *
      gi_wp2
      gi_cut [51] from 31 (fun v wx => v = .bool (!inF l ord form (i : Int)) ∧ Below W.heap.size W wx)
      case first =>
        obtain ⟨mm, hmm⟩ := HON.out W.drew HDB.out
        have HO8 := Lib.hid (one_any x.name (⟨#[32, 105, 110, 112, 117, 116, 32, 116, 101, 120, 116, 97, 114, 101, 97, 32, 115, 101, 108, 101, 99, 116, 32, 98, 117, 116, 116, 111, 110, 32]⟩ : ByteArray) mm W.drew (by have := HNS.out; omega) (by decide) hmm)
        clear hmm
        cases hnb : oneB x.name (⟨#[32, 105, 110, 112, 117, 116, 32, 116, 101, 120, 116, 97, 114, 101, 97, 32, 115, 101, 108, 101, 99, 116, 32, 98, 117, 116, 116, 111, 110, 32]⟩ : ByteArray) with
        | false =>
          have HV := Lib.hid (show inF l ord form i = false from by rw [HIN.out, hnb]; rfl)
          rw [hnb] at HO8
          clear hnb
          refine wpIn_region_G (S := fun V : World => V.cell? ⟨w.heap.size, 0, none⟩ = some (.slice (some ⟨b, o, none⟩) n c) ∧ V.cell? ⟨w.heap.size + 1, 0, none⟩ = some (.int .i64 form) ∧ V.cell? ⟨w1.heap.size, 0, none⟩ = some (.pointer (some ⟨F, 0, none⟩)) ∧ V.cell? ⟨b, o + i * 6 + 1, none⟩ = some (.string x.name)) (T := []) (by kernel_rfl) (by kernel_rfl) (by rintro ⟨_, _, h⟩; cases h.1) ?_
          have hS : (fun V : World => V.cell? ⟨w.heap.size, 0, none⟩ = some (.slice (some ⟨b, o, none⟩) n c) ∧ V.cell? ⟨w.heap.size + 1, 0, none⟩ = some (.int .i64 form) ∧ V.cell? ⟨w1.heap.size, 0, none⟩ = some (.pointer (some ⟨F, 0, none⟩)) ∧ V.cell? ⟨b, o + i * 6 + 1, none⟩ = some (.string x.name)) W.drew := HCE.out W.drew HDB.out
          refine wpAnyG_pureW (i := 0) (v := ?_) rfl (by kernel_rfl) (by kernel_rfl) (by kernel_rfl) (fun _ _ _ h => h) (by kernel_rfl) ?_ ?_
          rotate_left
          · intro w'
            first | (go_simp; done) | (go_simp; with_reducible rfl)
          refine wpAnyG_takeW (i := 1) (v := ?_) rfl (by kernel_rfl) (by kernel_rfl) (by kernel_rfl) (by kernel_rfl) (fun _ _ _ h => h) hS (by kernel_rfl) ?_ ?_
          rotate_left
          · intro w' hSw
            (try dsimp only at hSw)
            first | (go_simp; done) | (go_simp; with_reducible rfl)
          refine wpAnyG_pureW (i := 2) (v := ?_) rfl (by kernel_rfl) (by kernel_rfl) (by kernel_rfl) (fun _ _ _ h => h) (by kernel_rfl) ?_ ?_
          rotate_left
          · intro w'
            first | (go_simp; done) | (go_simp; with_reducible rfl)
          refine wpAnyG_pureW (i := 3) (v := ?_) rfl (by kernel_rfl) (by kernel_rfl) (by kernel_rfl) (fun _ _ _ h => h) (by kernel_rfl) ?_ ?_
          rotate_left
          · intro w'
            first | (go_simp; done) | (go_simp; with_reducible rfl)
          refine wpAnyG_pureW (i := 4) (v := ?_) rfl (by kernel_rfl) (by kernel_rfl) (by kernel_rfl) (fun _ _ _ h => h) (by kernel_rfl) ?_ ?_
          rotate_left
          · intro w'
            first | (go_simp; done) | (go_simp; with_reducible rfl)
          refine wpAnyG_takeW (i := 5) (v := ?_) rfl (by kernel_rfl) (by kernel_rfl) (by kernel_rfl) (by kernel_rfl) (fun _ _ _ h => h) hS (by kernel_rfl) ?_ ?_
          rotate_left
          · intro w' hSw
            (try dsimp only at hSw)
            first | (go_simp; done) | (go_simp; with_reducible rfl)
          refine wpAnyG_oneW (i := 6) (by kernel_rfl) rfl (by kernel_rfl) (fun K hK => ?_)
          go_simp
          go_at_call 27
          refine HO8.out.mono ?_
          rintro e V1 ⟨rfl, rfl⟩
          go_wp2_with fail
          refine hK.out _ _ (fun _ _ => hS) ?_
          clear hK K hS
          have hS : (fun V : World => V.cell? ⟨w.heap.size, 0, none⟩ = some (.slice (some ⟨b, o, none⟩) n c) ∧ V.cell? ⟨w.heap.size + 1, 0, none⟩ = some (.int .i64 form) ∧ V.cell? ⟨w1.heap.size, 0, none⟩ = some (.pointer (some ⟨F, 0, none⟩)) ∧ V.cell? ⟨b, o + i * 6 + 1, none⟩ = some (.string x.name)) W.drew := HCE.out W.drew HDB.out
          refine wpAnyG_pureW (i := 7) (v := ?_) rfl (by kernel_rfl) (by kernel_rfl) (by kernel_rfl) (fun _ _ _ h => h) (by kernel_rfl) ?_ ?_
          rotate_left
          · intro w'
            first | (go_simp; done) | (go_simp; with_reducible rfl)
          refine wpAnyG_pureW (i := 8) (v := .bool true) rfl (by kernel_rfl) (by kernel_rfl) (by kernel_rfl) (fun _ _ _ h => h) (by kernel_rfl) ?_ ?_
          · intro w'
            first | (go_simp; done) | (go_simp; with_reducible rfl)
          refine wpAnyG_skipW (i := 9) rfl (by kernel_rfl) (by kernel_rfl) (by kernel_rfl) (fun _ _ _ h => h) (by kernel_rfl) ?_
          refine wpAnyG_skipW (i := 10) rfl (by kernel_rfl) (by kernel_rfl) (by kernel_rfl) (fun _ _ _ h => h) (by kernel_rfl) ?_
          refine wpAnyG_skipW (i := 11) rfl (by kernel_rfl) (by kernel_rfl) (by kernel_rfl) (fun _ _ _ h => h) (by kernel_rfl) ?_
          refine wpAnyG_skipW (i := 12) rfl (by kernel_rfl) (by kernel_rfl) (by kernel_rfl) (fun _ _ _ h => h) (by kernel_rfl) ?_
          refine wpAnyG_skipW (i := 13) rfl (by kernel_rfl) (by kernel_rfl) (by kernel_rfl) (fun _ _ _ h => h) (by kernel_rfl) ?_
          refine wpAnyG_pureW (i := 14) (v := .bool true) rfl (by kernel_rfl) (by kernel_rfl) (by kernel_rfl) (fun _ _ _ h => h) (by kernel_rfl) ?_ ?_
          · intro w'
            first | (go_simp; done) | (go_simp; with_reducible rfl)
          refine wpAnyG_pureW (i := 15) (v := .bool true) rfl (by kernel_rfl) (by kernel_rfl) (by kernel_rfl) (fun _ _ _ h => h) (by kernel_rfl) ?_ ?_
          · intro w'
            first | (go_simp; done) | (go_simp; with_reducible rfl)
          refine wpAnyG_skipW (i := 16) rfl (by kernel_rfl) (by kernel_rfl) (by kernel_rfl) (fun _ _ _ h => h) (by kernel_rfl) ?_
          refine wpAnyG_skipW (i := 17) rfl (by kernel_rfl) (by kernel_rfl) (by kernel_rfl) (fun _ _ _ h => h) (by kernel_rfl) ?_
          refine wpAnyG_skipW (i := 18) rfl (by kernel_rfl) (by kernel_rfl) (by kernel_rfl) (fun _ _ _ h => h) (by kernel_rfl) ?_
          refine wpAnyG_skipW (i := 19) rfl (by kernel_rfl) (by kernel_rfl) (by kernel_rfl) (fun _ _ _ h => h) (by kernel_rfl) ?_
          refine wpAnyG_pureW (i := 20) (v := .bool true) rfl (by kernel_rfl) (by kernel_rfl) (by kernel_rfl) (fun _ _ _ h => h) (by kernel_rfl) ?_ ?_
          · intro w'
            first | (go_simp; done) | (go_simp; with_reducible rfl)
          refine wpAnyG_done (by kernel_rfl) ?_ _
          go_simp
          first | (gi_wp2; gi_meet) | (gi_wp2; go_meet) | gi_meet | go_meet
          exact ⟨by rw [HV.out]; rfl, HDB.out⟩
        | true =>
          rw [hnb] at HO8 HIN
          clear hnb
          by_cases how : ow = form
          · have ho1 : (ow != form) = false := by simp [how]
            have ho2 : (ow == form) = true := by simp [how]
            rw [ho2] at HIN
            clear how ho2
            cases td with
            | false =>
              have HV := Lib.hid (show inF l ord form i = false from HIN.out)
              refine wpIn_region_G (S := fun V : World => V.cell? ⟨w.heap.size, 0, none⟩ = some (.slice (some ⟨b, o, none⟩) n c) ∧ V.cell? ⟨w.heap.size + 1, 0, none⟩ = some (.int .i64 form) ∧ V.cell? ⟨w1.heap.size, 0, none⟩ = some (.pointer (some ⟨F, 0, none⟩)) ∧ V.cell? ⟨b, o + i * 6 + 1, none⟩ = some (.string x.name)) (T := []) (by kernel_rfl) (by kernel_rfl) (by rintro ⟨_, _, h⟩; cases h.1) ?_
              have hS : (fun V : World => V.cell? ⟨w.heap.size, 0, none⟩ = some (.slice (some ⟨b, o, none⟩) n c) ∧ V.cell? ⟨w.heap.size + 1, 0, none⟩ = some (.int .i64 form) ∧ V.cell? ⟨w1.heap.size, 0, none⟩ = some (.pointer (some ⟨F, 0, none⟩)) ∧ V.cell? ⟨b, o + i * 6 + 1, none⟩ = some (.string x.name)) W.drew := HCE.out W.drew HDB.out
              refine wpAnyG_pureW (i := 0) (v := ?_) rfl (by kernel_rfl) (by kernel_rfl) (by kernel_rfl) (fun _ _ _ h => h) (by kernel_rfl) ?_ ?_
              rotate_left
              · intro w'
                first | (go_simp; done) | (go_simp; with_reducible rfl)
              refine wpAnyG_takeW (i := 1) (v := ?_) rfl (by kernel_rfl) (by kernel_rfl) (by kernel_rfl) (by kernel_rfl) (fun _ _ _ h => h) hS (by kernel_rfl) ?_ ?_
              rotate_left
              · intro w' hSw
                (try dsimp only at hSw)
                first | (go_simp; done) | (go_simp; with_reducible rfl)
              refine wpAnyG_pureW (i := 2) (v := ?_) rfl (by kernel_rfl) (by kernel_rfl) (by kernel_rfl) (fun _ _ _ h => h) (by kernel_rfl) ?_ ?_
              rotate_left
              · intro w'
                first | (go_simp; done) | (go_simp; with_reducible rfl)
              refine wpAnyG_pureW (i := 3) (v := ?_) rfl (by kernel_rfl) (by kernel_rfl) (by kernel_rfl) (fun _ _ _ h => h) (by kernel_rfl) ?_ ?_
              rotate_left
              · intro w'
                first | (go_simp; done) | (go_simp; with_reducible rfl)
              refine wpAnyG_pureW (i := 4) (v := ?_) rfl (by kernel_rfl) (by kernel_rfl) (by kernel_rfl) (fun _ _ _ h => h) (by kernel_rfl) ?_ ?_
              rotate_left
              · intro w'
                first | (go_simp; done) | (go_simp; with_reducible rfl)
              refine wpAnyG_takeW (i := 5) (v := ?_) rfl (by kernel_rfl) (by kernel_rfl) (by kernel_rfl) (by kernel_rfl) (fun _ _ _ h => h) hS (by kernel_rfl) ?_ ?_
              rotate_left
              · intro w' hSw
                (try dsimp only at hSw)
                first | (go_simp; done) | (go_simp; with_reducible rfl)
              refine wpAnyG_oneW (i := 6) (by kernel_rfl) rfl (by kernel_rfl) (fun K hK => ?_)
              go_simp
              go_at_call 27
              refine HO8.out.mono ?_
              rintro e V1 ⟨rfl, rfl⟩
              go_wp2_with fail
              refine hK.out _ _ (fun _ _ => hS) ?_
              clear hK K hS
              have hS : (fun V : World => V.cell? ⟨w.heap.size, 0, none⟩ = some (.slice (some ⟨b, o, none⟩) n c) ∧ V.cell? ⟨w.heap.size + 1, 0, none⟩ = some (.int .i64 form) ∧ V.cell? ⟨w1.heap.size, 0, none⟩ = some (.pointer (some ⟨F, 0, none⟩)) ∧ V.cell? ⟨b, o + i * 6 + 1, none⟩ = some (.string x.name)) W.drew := HCE.out W.drew HDB.out
              refine wpAnyG_pureW (i := 7) (v := ?_) rfl (by kernel_rfl) (by kernel_rfl) (by kernel_rfl) (fun _ _ _ h => h) (by kernel_rfl) ?_ ?_
              rotate_left
              · intro w'
                first | (go_simp; done) | (go_simp; with_reducible rfl)
              refine wpAnyG_pureW (i := 8) (v := .bool false) rfl (by kernel_rfl) (by kernel_rfl) (by kernel_rfl) (fun _ _ _ h => h) (by kernel_rfl) ?_ ?_
              · intro w'
                first | (go_simp; done) | (go_simp; with_reducible rfl)
              refine wpAnyG_takeW (i := 9) (v := ?_) rfl (by kernel_rfl) (by kernel_rfl) (by kernel_rfl) (by kernel_rfl) (fun _ _ _ h => h) hS (by kernel_rfl) ?_ ?_
              rotate_left
              · intro w' hSw
                (try dsimp only at hSw)
                first | (go_simp; done) | (go_simp; with_reducible rfl)
              refine wpAnyG_pureW (i := 10) (v := ?_) rfl (by kernel_rfl) (by kernel_rfl) (by kernel_rfl) (fun _ _ _ h => h) (by kernel_rfl) ?_ ?_
              rotate_left
              · intro w'
                first | (go_simp; done) | (go_simp; with_reducible rfl)
              refine wpAnyG_takeW (i := 12) (v := ?_) rfl (by kernel_rfl) (by kernel_rfl) (by kernel_rfl) (by kernel_rfl) (fun _ _ _ h => h) hS (by kernel_rfl) ?_ ?_
              rotate_left
              · intro w' hSw
                (try dsimp only at hSw)
                first | (go_simp; done) | (go_simp; with_reducible rfl)
              refine wpAnyG_oneW (i := 11) (by kernel_rfl) rfl (by kernel_rfl) (fun K hK => ?_)
              go_simp
              go_at_call 28
              refine (HOW.out W.drew HDB.out).mono ?_
              rintro e V2 ⟨rfl, hb2⟩
              have HB2 := Lib.hid (bst HDB.out hb2)
              clear hb2
              go_wp2_with fail
              refine hK.out _ _ (fun _ _ => HCE.out V2 HB2.out) ?_
              clear hK K hS
              have hS : (fun V : World => V.cell? ⟨w.heap.size, 0, none⟩ = some (.slice (some ⟨b, o, none⟩) n c) ∧ V.cell? ⟨w.heap.size + 1, 0, none⟩ = some (.int .i64 form) ∧ V.cell? ⟨w1.heap.size, 0, none⟩ = some (.pointer (some ⟨F, 0, none⟩)) ∧ V.cell? ⟨b, o + i * 6 + 1, none⟩ = some (.string x.name)) V2 := HCE.out V2 HB2.out
              refine wpAnyG_pureW (i := 13) (v := .bool false) rfl (by kernel_rfl) (by kernel_rfl) (by kernel_rfl) (fun _ _ _ h => h) (by kernel_rfl) ?_ ?_
              · intro w'
                first | (go_simp; done) | (go_simp; with_reducible rfl)
              refine wpAnyG_pureW (i := 14) (v := .bool false) rfl (by kernel_rfl) (by kernel_rfl) (by kernel_rfl) (fun _ _ _ h => h) (by kernel_rfl) ?_ ?_
              · intro w'
                first | (go_simp; done) | (go_simp; with_reducible rfl)
              refine wpAnyG_pureW (i := 15) (v := .bool false) rfl (by kernel_rfl) (by kernel_rfl) (by kernel_rfl) (fun _ _ _ h => h) (by kernel_rfl) ?_ ?_
              · intro w'
                first | (go_simp; done) | (go_simp; with_reducible rfl)
              refine wpAnyG_takeW (i := 16) (v := ?_) rfl (by kernel_rfl) (by kernel_rfl) (by kernel_rfl) (by kernel_rfl) (fun _ _ _ h => h) hS (by kernel_rfl) ?_ ?_
              rotate_left
              · intro w' hSw
                (try dsimp only at hSw)
                first | (go_simp; done) | (go_simp; with_reducible rfl)
              refine wpAnyG_pureW (i := 17) (v := ?_) rfl (by kernel_rfl) (by kernel_rfl) (by kernel_rfl) (fun _ _ _ h => h) (by kernel_rfl) ?_ ?_
              rotate_left
              · intro w'
                first | (go_simp; done) | (go_simp; with_reducible rfl)
              refine wpAnyG_oneW (i := 18) (by kernel_rfl) rfl (by kernel_rfl) (fun K hK => ?_)
              go_simp
              go_at_call 29
              refine (HTL.out V2 HB2.out).mono ?_
              rintro e V3 ⟨rfl, hb3⟩
              have HB3 := Lib.hid (bst HB2.out hb3)
              clear hb3
              go_wp2_with fail
              refine hK.out _ _ (fun _ _ => HCE.out V3 HB3.out) ?_
              clear hK K hS
              refine wpAnyG_pureW (i := 19) (v := .bool true) rfl (by kernel_rfl) (by kernel_rfl) (by kernel_rfl) (fun _ _ _ h => h) (by kernel_rfl) ?_ ?_
              · intro w'
                first | (go_simp; done) | (go_simp; with_reducible rfl)
              refine wpAnyG_pureW (i := 20) (v := .bool true) rfl (by kernel_rfl) (by kernel_rfl) (by kernel_rfl) (fun _ _ _ h => h) (by kernel_rfl) ?_ ?_
              · intro w'
                first | (go_simp; done) | (go_simp; with_reducible rfl)
              refine wpAnyG_done (by kernel_rfl) ?_ _
              go_simp
              first | (gi_wp2; gi_meet) | (gi_wp2; go_meet) | gi_meet | go_meet
              exact ⟨by rw [HV.out]; rfl, HB3.out⟩
            | true =>
              have HV := Lib.hid (show inF l ord form i = true from HIN.out)
              refine wpIn_region_G (S := fun V : World => V.cell? ⟨w.heap.size, 0, none⟩ = some (.slice (some ⟨b, o, none⟩) n c) ∧ V.cell? ⟨w.heap.size + 1, 0, none⟩ = some (.int .i64 form) ∧ V.cell? ⟨w1.heap.size, 0, none⟩ = some (.pointer (some ⟨F, 0, none⟩)) ∧ V.cell? ⟨b, o + i * 6 + 1, none⟩ = some (.string x.name)) (T := []) (by kernel_rfl) (by kernel_rfl) (by rintro ⟨_, _, h⟩; cases h.1) ?_
              have hS : (fun V : World => V.cell? ⟨w.heap.size, 0, none⟩ = some (.slice (some ⟨b, o, none⟩) n c) ∧ V.cell? ⟨w.heap.size + 1, 0, none⟩ = some (.int .i64 form) ∧ V.cell? ⟨w1.heap.size, 0, none⟩ = some (.pointer (some ⟨F, 0, none⟩)) ∧ V.cell? ⟨b, o + i * 6 + 1, none⟩ = some (.string x.name)) W.drew := HCE.out W.drew HDB.out
              refine wpAnyG_pureW (i := 0) (v := ?_) rfl (by kernel_rfl) (by kernel_rfl) (by kernel_rfl) (fun _ _ _ h => h) (by kernel_rfl) ?_ ?_
              rotate_left
              · intro w'
                first | (go_simp; done) | (go_simp; with_reducible rfl)
              refine wpAnyG_takeW (i := 1) (v := ?_) rfl (by kernel_rfl) (by kernel_rfl) (by kernel_rfl) (by kernel_rfl) (fun _ _ _ h => h) hS (by kernel_rfl) ?_ ?_
              rotate_left
              · intro w' hSw
                (try dsimp only at hSw)
                first | (go_simp; done) | (go_simp; with_reducible rfl)
              refine wpAnyG_pureW (i := 2) (v := ?_) rfl (by kernel_rfl) (by kernel_rfl) (by kernel_rfl) (fun _ _ _ h => h) (by kernel_rfl) ?_ ?_
              rotate_left
              · intro w'
                first | (go_simp; done) | (go_simp; with_reducible rfl)
              refine wpAnyG_pureW (i := 3) (v := ?_) rfl (by kernel_rfl) (by kernel_rfl) (by kernel_rfl) (fun _ _ _ h => h) (by kernel_rfl) ?_ ?_
              rotate_left
              · intro w'
                first | (go_simp; done) | (go_simp; with_reducible rfl)
              refine wpAnyG_pureW (i := 4) (v := ?_) rfl (by kernel_rfl) (by kernel_rfl) (by kernel_rfl) (fun _ _ _ h => h) (by kernel_rfl) ?_ ?_
              rotate_left
              · intro w'
                first | (go_simp; done) | (go_simp; with_reducible rfl)
              refine wpAnyG_takeW (i := 5) (v := ?_) rfl (by kernel_rfl) (by kernel_rfl) (by kernel_rfl) (by kernel_rfl) (fun _ _ _ h => h) hS (by kernel_rfl) ?_ ?_
              rotate_left
              · intro w' hSw
                (try dsimp only at hSw)
                first | (go_simp; done) | (go_simp; with_reducible rfl)
              refine wpAnyG_oneW (i := 6) (by kernel_rfl) rfl (by kernel_rfl) (fun K hK => ?_)
              go_simp
              go_at_call 27
              refine HO8.out.mono ?_
              rintro e V1 ⟨rfl, rfl⟩
              go_wp2_with fail
              refine hK.out _ _ (fun _ _ => hS) ?_
              clear hK K hS
              have hS : (fun V : World => V.cell? ⟨w.heap.size, 0, none⟩ = some (.slice (some ⟨b, o, none⟩) n c) ∧ V.cell? ⟨w.heap.size + 1, 0, none⟩ = some (.int .i64 form) ∧ V.cell? ⟨w1.heap.size, 0, none⟩ = some (.pointer (some ⟨F, 0, none⟩)) ∧ V.cell? ⟨b, o + i * 6 + 1, none⟩ = some (.string x.name)) W.drew := HCE.out W.drew HDB.out
              refine wpAnyG_pureW (i := 7) (v := ?_) rfl (by kernel_rfl) (by kernel_rfl) (by kernel_rfl) (fun _ _ _ h => h) (by kernel_rfl) ?_ ?_
              rotate_left
              · intro w'
                first | (go_simp; done) | (go_simp; with_reducible rfl)
              refine wpAnyG_pureW (i := 8) (v := .bool false) rfl (by kernel_rfl) (by kernel_rfl) (by kernel_rfl) (fun _ _ _ h => h) (by kernel_rfl) ?_ ?_
              · intro w'
                first | (go_simp; done) | (go_simp; with_reducible rfl)
              refine wpAnyG_takeW (i := 9) (v := ?_) rfl (by kernel_rfl) (by kernel_rfl) (by kernel_rfl) (by kernel_rfl) (fun _ _ _ h => h) hS (by kernel_rfl) ?_ ?_
              rotate_left
              · intro w' hSw
                (try dsimp only at hSw)
                first | (go_simp; done) | (go_simp; with_reducible rfl)
              refine wpAnyG_pureW (i := 10) (v := ?_) rfl (by kernel_rfl) (by kernel_rfl) (by kernel_rfl) (fun _ _ _ h => h) (by kernel_rfl) ?_ ?_
              rotate_left
              · intro w'
                first | (go_simp; done) | (go_simp; with_reducible rfl)
              refine wpAnyG_takeW (i := 12) (v := ?_) rfl (by kernel_rfl) (by kernel_rfl) (by kernel_rfl) (by kernel_rfl) (fun _ _ _ h => h) hS (by kernel_rfl) ?_ ?_
              rotate_left
              · intro w' hSw
                (try dsimp only at hSw)
                first | (go_simp; done) | (go_simp; with_reducible rfl)
              refine wpAnyG_oneW (i := 11) (by kernel_rfl) rfl (by kernel_rfl) (fun K hK => ?_)
              go_simp
              go_at_call 28
              refine (HOW.out W.drew HDB.out).mono ?_
              rintro e V2 ⟨rfl, hb2⟩
              have HB2 := Lib.hid (bst HDB.out hb2)
              clear hb2
              go_wp2_with fail
              refine hK.out _ _ (fun _ _ => HCE.out V2 HB2.out) ?_
              clear hK K hS
              have hS : (fun V : World => V.cell? ⟨w.heap.size, 0, none⟩ = some (.slice (some ⟨b, o, none⟩) n c) ∧ V.cell? ⟨w.heap.size + 1, 0, none⟩ = some (.int .i64 form) ∧ V.cell? ⟨w1.heap.size, 0, none⟩ = some (.pointer (some ⟨F, 0, none⟩)) ∧ V.cell? ⟨b, o + i * 6 + 1, none⟩ = some (.string x.name)) V2 := HCE.out V2 HB2.out
              refine wpAnyG_pureW (i := 13) (v := .bool false) rfl (by kernel_rfl) (by kernel_rfl) (by kernel_rfl) (fun _ _ _ h => h) (by kernel_rfl) ?_ ?_
              · intro w'
                first | (go_simp; done) | (go_simp; with_reducible rfl)
              refine wpAnyG_pureW (i := 14) (v := .bool false) rfl (by kernel_rfl) (by kernel_rfl) (by kernel_rfl) (fun _ _ _ h => h) (by kernel_rfl) ?_ ?_
              · intro w'
                first | (go_simp; done) | (go_simp; with_reducible rfl)
              refine wpAnyG_pureW (i := 15) (v := .bool false) rfl (by kernel_rfl) (by kernel_rfl) (by kernel_rfl) (fun _ _ _ h => h) (by kernel_rfl) ?_ ?_
              · intro w'
                first | (go_simp; done) | (go_simp; with_reducible rfl)
              refine wpAnyG_takeW (i := 16) (v := ?_) rfl (by kernel_rfl) (by kernel_rfl) (by kernel_rfl) (by kernel_rfl) (fun _ _ _ h => h) hS (by kernel_rfl) ?_ ?_
              rotate_left
              · intro w' hSw
                (try dsimp only at hSw)
                first | (go_simp; done) | (go_simp; with_reducible rfl)
              refine wpAnyG_pureW (i := 17) (v := ?_) rfl (by kernel_rfl) (by kernel_rfl) (by kernel_rfl) (fun _ _ _ h => h) (by kernel_rfl) ?_ ?_
              rotate_left
              · intro w'
                first | (go_simp; done) | (go_simp; with_reducible rfl)
              refine wpAnyG_oneW (i := 18) (by kernel_rfl) rfl (by kernel_rfl) (fun K hK => ?_)
              go_simp
              go_at_call 29
              refine (HTL.out V2 HB2.out).mono ?_
              rintro e V3 ⟨rfl, hb3⟩
              have HB3 := Lib.hid (bst HB2.out hb3)
              clear hb3
              go_wp2_with fail
              refine hK.out _ _ (fun _ _ => HCE.out V3 HB3.out) ?_
              clear hK K hS
              refine wpAnyG_pureW (i := 19) (v := .bool false) rfl (by kernel_rfl) (by kernel_rfl) (by kernel_rfl) (fun _ _ _ h => h) (by kernel_rfl) ?_ ?_
              · intro w'
                first | (go_simp; done) | (go_simp; with_reducible rfl)
              refine wpAnyG_pureW (i := 20) (v := .bool false) rfl (by kernel_rfl) (by kernel_rfl) (by kernel_rfl) (fun _ _ _ h => h) (by kernel_rfl) ?_ ?_
              · intro w'
                first | (go_simp; done) | (go_simp; with_reducible rfl)
              refine wpAnyG_done (by kernel_rfl) ?_ _
              go_simp
              first | (gi_wp2; gi_meet) | (gi_wp2; go_meet) | gi_meet | go_meet
              exact ⟨by rw [HV.out]; rfl, HB3.out⟩
          · have ho1 : (ow != form) = true := by simpa using how
            have ho2 : (ow == form) = false := by simpa using how
            rw [ho2] at HIN
            have HV := Lib.hid (show inF l ord form i = false from HIN.out)
            clear how ho2
            refine wpIn_region_G (S := fun V : World => V.cell? ⟨w.heap.size, 0, none⟩ = some (.slice (some ⟨b, o, none⟩) n c) ∧ V.cell? ⟨w.heap.size + 1, 0, none⟩ = some (.int .i64 form) ∧ V.cell? ⟨w1.heap.size, 0, none⟩ = some (.pointer (some ⟨F, 0, none⟩)) ∧ V.cell? ⟨b, o + i * 6 + 1, none⟩ = some (.string x.name)) (T := []) (by kernel_rfl) (by kernel_rfl) (by rintro ⟨_, _, h⟩; cases h.1) ?_
            have hS : (fun V : World => V.cell? ⟨w.heap.size, 0, none⟩ = some (.slice (some ⟨b, o, none⟩) n c) ∧ V.cell? ⟨w.heap.size + 1, 0, none⟩ = some (.int .i64 form) ∧ V.cell? ⟨w1.heap.size, 0, none⟩ = some (.pointer (some ⟨F, 0, none⟩)) ∧ V.cell? ⟨b, o + i * 6 + 1, none⟩ = some (.string x.name)) W.drew := HCE.out W.drew HDB.out
            refine wpAnyG_pureW (i := 0) (v := ?_) rfl (by kernel_rfl) (by kernel_rfl) (by kernel_rfl) (fun _ _ _ h => h) (by kernel_rfl) ?_ ?_
            rotate_left
            · intro w'
              first | (go_simp; done) | (go_simp; with_reducible rfl)
            refine wpAnyG_takeW (i := 1) (v := ?_) rfl (by kernel_rfl) (by kernel_rfl) (by kernel_rfl) (by kernel_rfl) (fun _ _ _ h => h) hS (by kernel_rfl) ?_ ?_
            rotate_left
            · intro w' hSw
              (try dsimp only at hSw)
              first | (go_simp; done) | (go_simp; with_reducible rfl)
            refine wpAnyG_pureW (i := 2) (v := ?_) rfl (by kernel_rfl) (by kernel_rfl) (by kernel_rfl) (fun _ _ _ h => h) (by kernel_rfl) ?_ ?_
            rotate_left
            · intro w'
              first | (go_simp; done) | (go_simp; with_reducible rfl)
            refine wpAnyG_pureW (i := 3) (v := ?_) rfl (by kernel_rfl) (by kernel_rfl) (by kernel_rfl) (fun _ _ _ h => h) (by kernel_rfl) ?_ ?_
            rotate_left
            · intro w'
              first | (go_simp; done) | (go_simp; with_reducible rfl)
            refine wpAnyG_pureW (i := 4) (v := ?_) rfl (by kernel_rfl) (by kernel_rfl) (by kernel_rfl) (fun _ _ _ h => h) (by kernel_rfl) ?_ ?_
            rotate_left
            · intro w'
              first | (go_simp; done) | (go_simp; with_reducible rfl)
            refine wpAnyG_takeW (i := 5) (v := ?_) rfl (by kernel_rfl) (by kernel_rfl) (by kernel_rfl) (by kernel_rfl) (fun _ _ _ h => h) hS (by kernel_rfl) ?_ ?_
            rotate_left
            · intro w' hSw
              (try dsimp only at hSw)
              first | (go_simp; done) | (go_simp; with_reducible rfl)
            refine wpAnyG_oneW (i := 6) (by kernel_rfl) rfl (by kernel_rfl) (fun K hK => ?_)
            go_simp
            go_at_call 27
            refine HO8.out.mono ?_
            rintro e V1 ⟨rfl, rfl⟩
            go_wp2_with fail
            refine hK.out _ _ (fun _ _ => hS) ?_
            clear hK K hS
            have hS : (fun V : World => V.cell? ⟨w.heap.size, 0, none⟩ = some (.slice (some ⟨b, o, none⟩) n c) ∧ V.cell? ⟨w.heap.size + 1, 0, none⟩ = some (.int .i64 form) ∧ V.cell? ⟨w1.heap.size, 0, none⟩ = some (.pointer (some ⟨F, 0, none⟩)) ∧ V.cell? ⟨b, o + i * 6 + 1, none⟩ = some (.string x.name)) W.drew := HCE.out W.drew HDB.out
            refine wpAnyG_pureW (i := 7) (v := ?_) rfl (by kernel_rfl) (by kernel_rfl) (by kernel_rfl) (fun _ _ _ h => h) (by kernel_rfl) ?_ ?_
            rotate_left
            · intro w'
              first | (go_simp; done) | (go_simp; with_reducible rfl)
            refine wpAnyG_pureW (i := 8) (v := .bool false) rfl (by kernel_rfl) (by kernel_rfl) (by kernel_rfl) (fun _ _ _ h => h) (by kernel_rfl) ?_ ?_
            · intro w'
              first | (go_simp; done) | (go_simp; with_reducible rfl)
            refine wpAnyG_takeW (i := 9) (v := ?_) rfl (by kernel_rfl) (by kernel_rfl) (by kernel_rfl) (by kernel_rfl) (fun _ _ _ h => h) hS (by kernel_rfl) ?_ ?_
            rotate_left
            · intro w' hSw
              (try dsimp only at hSw)
              first | (go_simp; done) | (go_simp; with_reducible rfl)
            refine wpAnyG_pureW (i := 10) (v := ?_) rfl (by kernel_rfl) (by kernel_rfl) (by kernel_rfl) (fun _ _ _ h => h) (by kernel_rfl) ?_ ?_
            rotate_left
            · intro w'
              first | (go_simp; done) | (go_simp; with_reducible rfl)
            refine wpAnyG_takeW (i := 12) (v := ?_) rfl (by kernel_rfl) (by kernel_rfl) (by kernel_rfl) (by kernel_rfl) (fun _ _ _ h => h) hS (by kernel_rfl) ?_ ?_
            rotate_left
            · intro w' hSw
              (try dsimp only at hSw)
              first | (go_simp; done) | (go_simp; with_reducible rfl)
            refine wpAnyG_oneW (i := 11) (by kernel_rfl) rfl (by kernel_rfl) (fun K hK => ?_)
            go_simp
            go_at_call 28
            refine (HOW.out W.drew HDB.out).mono ?_
            rintro e V2 ⟨rfl, hb2⟩
            have HB2 := Lib.hid (bst HDB.out hb2)
            clear hb2
            go_wp2_with fail
            refine hK.out _ _ (fun _ _ => HCE.out V2 HB2.out) ?_
            clear hK K hS
            have hS : (fun V : World => V.cell? ⟨w.heap.size, 0, none⟩ = some (.slice (some ⟨b, o, none⟩) n c) ∧ V.cell? ⟨w.heap.size + 1, 0, none⟩ = some (.int .i64 form) ∧ V.cell? ⟨w1.heap.size, 0, none⟩ = some (.pointer (some ⟨F, 0, none⟩)) ∧ V.cell? ⟨b, o + i * 6 + 1, none⟩ = some (.string x.name)) V2 := HCE.out V2 HB2.out
            refine wpAnyG_pureW (i := 13) (v := .bool true) rfl (by kernel_rfl) (by kernel_rfl) (by kernel_rfl) (fun _ _ _ h => h) (by kernel_rfl) ?_ ?_
            · intro w'
              first | (go_simp; done) | (go_simp; with_reducible rfl)
            refine wpAnyG_pureW (i := 14) (v := .bool true) rfl (by kernel_rfl) (by kernel_rfl) (by kernel_rfl) (fun _ _ _ h => h) (by kernel_rfl) ?_ ?_
            · intro w'
              first | (go_simp; done) | (go_simp; with_reducible rfl)
            refine wpAnyG_pureW (i := 15) (v := .bool true) rfl (by kernel_rfl) (by kernel_rfl) (by kernel_rfl) (fun _ _ _ h => h) (by kernel_rfl) ?_ ?_
            · intro w'
              first | (go_simp; done) | (go_simp; with_reducible rfl)
            refine wpAnyG_skipW (i := 16) rfl (by kernel_rfl) (by kernel_rfl) (by kernel_rfl) (fun _ _ _ h => h) (by kernel_rfl) ?_
            refine wpAnyG_skipW (i := 17) rfl (by kernel_rfl) (by kernel_rfl) (by kernel_rfl) (fun _ _ _ h => h) (by kernel_rfl) ?_
            refine wpAnyG_skipW (i := 18) rfl (by kernel_rfl) (by kernel_rfl) (by kernel_rfl) (fun _ _ _ h => h) (by kernel_rfl) ?_
            refine wpAnyG_skipW (i := 19) rfl (by kernel_rfl) (by kernel_rfl) (by kernel_rfl) (fun _ _ _ h => h) (by kernel_rfl) ?_
            refine wpAnyG_pureW (i := 20) (v := .bool true) rfl (by kernel_rfl) (by kernel_rfl) (by kernel_rfl) (fun _ _ _ h => h) (by kernel_rfl) ?_ ?_
            · intro w'
              first | (go_simp; done) | (go_simp; with_reducible rfl)
            refine wpAnyG_done (by kernel_rfl) ?_ _
            go_simp
            first | (gi_wp2; gi_meet) | (gi_wp2; go_meet) | gi_meet | go_meet
            exact ⟨by rw [HV.out]; rfl, HB2.out⟩
      case rest =>
        obtain ⟨rfl, hbc⟩ := hcut
        obtain ⟨Wc, rfl⟩ : ∃ Wc : World, Wc = wc := ⟨_, rfl⟩
        have HBC := Lib.hid hbc
        have HIC := Lib.hid (HI.out.next hbc)
        clear hbc
        cases hin : inF l ord form (i : Int) with
        | false =>
          have HSK := Lib.hid (show acc (k + 1) = acc k from by rw [HST.out]; unfold entStep; rw [hin]; rfl)
          gi_wp2
          exact ⟨KeepsLD.below HBC.out, by rw [HSK.out]; exact HIC.out.more _ (Nat.le_succ k)⟩
        | true =>
          have HSTT := Lib.hid (show acc (k + 1) = if radioF l (i : Int) then (if (acc k).2.any (fun z => z.toList == (attrF l (i : Int) (⟨#[110, 97, 109, 101]⟩ : ByteArray)).toList) then acc k else (entriesF l (i : Int) ++ (acc k).1, attrF l (i : Int) (⟨#[110, 97, 109, 101]⟩ : ByteArray) :: (acc k).2)) else (entriesF l (i : Int) ++ (acc k).1, (acc k).2) from by rw [HST.out]; unfold entStep; rw [hin]; rfl)
          have HKD := Lib.hid (kind_f HG.out (HFW.out _ _ _ HIC.out) HIL.out)
          have HAL0 := Lib.hid (show (acc k).1.length ≤ 40000 from by rw [HACC.out]; exact Nat.le_trans (acc_few HT.out HKN.out form k) (by omega))
          have HNMS := Lib.hid (attrF_small HG.out (i : Int) (⟨#[110, 97, 109, 101]⟩ : ByteArray))
          have HAT := Lib.hid (fun a r V (h : EnI w6 w2.heap.size O m kc a r V) => attr_f (HFW.out a r V h) HIL.out (⟨#[110, 97, 109, 101]⟩ : ByteArray))
          clear HST hin
          have HRAD := Lib.hid (show radioF l (i : Int) = ((kindF l (i : Int)).toList == ([114, 97, 100, 105, 111] : List UInt8)) from rfl)
          generalize kindF l (i : Int) = kd at *
          generalize attrF l (i : Int) (⟨#[110, 97, 109, 101]⟩ : ByteArray) = nm at *
          rcases hap : acc k with ⟨acc1, acc2⟩
          rw [hap] at HSTT HAL0 HIC
          have HAL := Lib.hid (show acc1.length ≤ 40000 from HAL0.out)
          clear HAL0 hap HI HCE
          have HBCK := Lib.hid (KeepsLD.below HBC.out)
          have cF := (HCW.out _ _ _ HIC.out).2.2
          gi_wp2
          refine ⟨trivial, CallsIn.inRound lp (callsIn_wide.2 (HKD.out.mono ?_))⟩
          rintro e W9 ⟨rfl, hb9⟩
          have HI9 := Lib.hid (HIC.out.next hb9)
          have HK9 := Lib.hid (HBCK.out.trans (KeepsLD.below hb9))
          clear hb9 cF HIC HBCK HKD
          cases hrd : (kd.toList == ([114, 97, 100, 105, 111] : List UInt8)) with
          | false =>
            have HSTF := Lib.hid (show acc (k + 1) = (entriesF l (i : Int) ++ acc1, acc2) from by rw [HSTT.out, HRAD.out, hrd]; rfl)
            clear HSTT HRAD
            gi_wp2
            obtain ⟨Wq, rfl⟩ : ∃ Wq : World, Wq = W9 := ⟨_, rfl⟩
            have HQ := Lib.hid HI9.out
            have HKQ := Lib.hid HK9.out
            obtain ⟨v8, b8, o8⟩ := HQ.out.out
            have hl8 := HAL.out
            obtain ⟨A8, c8, e8, hs8⟩ := OwnF.sl (T := tDA) o8 (by decide) (by show acc1.length * 32 ≤ _; omega)
            subst e8
            have y8 := cell_blk (i := 0) b8 rfl
            have HS8 := Lib.hid hs8
            have HCE13 : Hid (∀ V, Below Wq.heap.size Wq V → V.cell? ⟨w1.heap.size, 0, none⟩ = some (.pointer (some ⟨F, 0, none⟩)) ∧ V.cell? ⟨w2.heap.size, 0, none⟩ = some (.slice A8 acc1.length c8)) := fun V hV => ⟨(HCW.out _ _ _ (HQ.out.next hV)).2.2, cell_be y8 hV⟩
            have HEN13 := Lib.hid (entries_f HT.out HG.out (HFW.out _ _ _ (HQ.out.next (below_drew Wq))) HIL.out)
            have HB8 := Lib.hid b8
            have HEL := Lib.hid (entries_few HT.out HIL.out)
            clear b8 o8 hs8 y8
            refine wpIn_region_G (S := fun V : World => V.cell? ⟨w1.heap.size, 0, none⟩ = some (.pointer (some ⟨F, 0, none⟩)) ∧ V.cell? ⟨w2.heap.size, 0, none⟩ = some (.slice A8 acc1.length c8)) (T := [5]) (by kernel_rfl) (by kernel_rfl) (by rintro ⟨_, _, h⟩; cases h.1) ?_
            have hS : (fun V : World => V.cell? ⟨w1.heap.size, 0, none⟩ = some (.pointer (some ⟨F, 0, none⟩)) ∧ V.cell? ⟨w2.heap.size, 0, none⟩ = some (.slice A8 acc1.length c8)) Wq.drew := HCE13.out Wq.drew (below_drew Wq)
            refine wpAnyG_takeW (i := 0) (v := ?_) rfl (by kernel_rfl) (by kernel_rfl) (by kernel_rfl) (by kernel_rfl) (fun _ _ _ h => h) hS (by kernel_rfl) ?_ ?_
            rotate_left
            · intro w' hSw
              (try dsimp only at hSw)
              first | (go_simp; done) | (go_simp; with_reducible rfl)
            refine wpAnyG_pureW (i := 1) (v := ?_) rfl (by kernel_rfl) (by kernel_rfl) (by kernel_rfl) (fun _ _ _ h => h) (by kernel_rfl) ?_ ?_
            rotate_left
            · intro w'
              first | (go_simp; done) | (go_simp; with_reducible rfl)
            refine wpAnyG_takeW (i := 3) (v := ?_) rfl (by kernel_rfl) (by kernel_rfl) (by kernel_rfl) (by kernel_rfl) (fun _ _ _ h => h) hS (by kernel_rfl) ?_ ?_
            rotate_left
            · intro w' hSw
              (try dsimp only at hSw)
              first | (go_simp; done) | (go_simp; with_reducible rfl)
            refine wpAnyG_oneW (i := 2) (by kernel_rfl) rfl (by kernel_rfl) (fun K hK => ?_)
            go_simp
            go_at_call 32
            refine HEN13.out.mono ?_
            rintro e V1 ⟨hb1, v1, rfl, ho1⟩
            have HB1q := Lib.hid ((below_drew Wq).trans hb1)
            have HO1q := Lib.hid (show OwnF tDA V1 Wq.heap.size 38 v1 (entriesF l (i : Int)).length (entriesF l (i : Int)) from ho1)
            clear hb1 ho1
            go_wp2_with fail
            refine hK.out _ _ (fun _ _ => HCE13.out V1 HB1q.out) ?_
            clear hK K hS
            obtain ⟨v9, V2, hrun, ho9, hb9⟩ := run_apf (P := Tryz.prog) (t := 32) (ty := 32) V1 flatDA elemEnt HO1q.out (HS8.out.below HB1q.out (Nat.le_refl _)) (by have := HEL.out; omega) (by have := HEL.out; omega) HB1q.out.size
            obtain ⟨A9, c9, rfl⟩ := Cl.Own.form ho9
            have hput := HQ.out.put HB1q.out hb9 (acc := (acc1, acc2)) ho9
            have HPUT := Lib.hid hput
            have s13 := HCE13.out V2 (HB1q.out.trans hb9)
            have fr8 := free_blk (i := 0) (blk_next HB8.out (HB1q.out.trans hb9))
            clear ho9 hb9 hput
            refine wpAnyG_oneW (i := 4) (by kernel_rfl) rfl (by kernel_rfl) (fun K hK => ?_)
            refine wp_append_runI (.tmp 72) (.tmp 73) 32 rfl _ _ rfl rfl hrun ?_
            refine hK.out _ _ (fun _ _ => s13) ?_
            clear hK K hrun
            have y8' := s13.2
            refine wpAnyG_oneW (i := 5) (by kernel_rfl) rfl (by kernel_rfl) (fun K hK => ?_)
            go_simp
            refine hK.out _ _ (fun h => absurd (by decide) h) ?_
            clear hK K
            refine wpAnyG_done (by kernel_rfl) ?_ _
            go_simp
            gi_wp2
            exact ⟨HKQ.out.trans HPUT.out.2, by rw [HSTF.out]; exact HPUT.out.1.more _ (Nat.le_succ k)⟩
          | true =>
            have HSTG := Lib.hid (show acc (k + 1) = if acc2.any (fun z => z.toList == nm.toList) then (acc1, acc2) else (entriesF l (i : Int) ++ acc1, nm :: acc2) from by rw [HSTT.out, HRAD.out, hrd]; rfl)
            clear HSTT HRAD
            obtain ⟨seen, hset, hsl, hsa⟩ := HI9.out.set
            have HSA := Lib.hid hsa
            have HSL := Lib.hid hsl
            have hsn := hsa nm
            obtain ⟨sn, hsnd⟩ : ∃ sn, seen.any (fun z => z.toList == nm.toList) = sn := ⟨_, rfl⟩
            rw [hsnd] at hsn
            have HSN := Lib.hid hsn
            have HSND := Lib.hid hsnd
            have HLK : Hid (∀ V, Below W9.heap.size W9 V → V.cell? ⟨w2.heap.size + 1 + 1, 0, none⟩ = some (.map (some (w2.heap.size + 1))) ∧ V.cell? ⟨w1.heap.size, 0, none⟩ = some (.pointer (some ⟨F, 0, none⟩)) ∧ (Instr.lookup 71 (.map (some (w2.heap.size + 1))) (.string nm) true).run Tryz.prog V = .ok (.tuple #[.agg #[], .bool sn]) V) := fun V hV => by
              have hI := HI9.out.next hV
              refine ⟨cell_blk (i := 0) hI.mb rfl, (HCW.out _ _ _ hI).2.2, ?_⟩
              rw [← HSND.out]
              exact (hset.next (hV.block _ hset.lt)).look (by have := HNMS.out; omega)
            have HSET := Lib.hid hset
            have HD9 := Lib.hid (below_drew W9)
            have HAT9 := Lib.hid (fun V (hV : Below W9.heap.size W9 V) => HAT.out _ _ V (HI9.out.next hV))
            clear hset hsl hsa hsn hsnd
            gi_wp2
            gi_cut [12, 13] from 56 (fun _u v wx => v = .bool sn ∧ Below W9.heap.size W9 wx)
            case first =>
              refine wpIn_region_G (S := fun V : World => V.cell? ⟨w2.heap.size + 1 + 1, 0, none⟩ = some (.map (some (w2.heap.size + 1))) ∧ V.cell? ⟨w1.heap.size, 0, none⟩ = some (.pointer (some ⟨F, 0, none⟩)) ∧ (Instr.lookup 71 (.map (some (w2.heap.size + 1))) (.string nm) true).run Tryz.prog V = .ok (.tuple #[.agg #[], .bool sn]) V) (T := []) (by kernel_rfl) (by kernel_rfl) (by rintro ⟨_, _, h⟩; cases h.1) ?_
              have hS : (fun V : World => V.cell? ⟨w2.heap.size + 1 + 1, 0, none⟩ = some (.map (some (w2.heap.size + 1))) ∧ V.cell? ⟨w1.heap.size, 0, none⟩ = some (.pointer (some ⟨F, 0, none⟩)) ∧ (Instr.lookup 71 (.map (some (w2.heap.size + 1))) (.string nm) true).run Tryz.prog V = .ok (.tuple #[.agg #[], .bool sn]) V) W9.drew := HLK.out W9.drew HD9.out
              refine wpAnyG_takeW (i := 0) (v := ?_) rfl (by kernel_rfl) (by kernel_rfl) (by kernel_rfl) (by kernel_rfl) (fun _ _ _ h => h) hS (by kernel_rfl) ?_ ?_
              rotate_left
              · intro w' hSw
                (try dsimp only at hSw)
                first | (go_simp; done) | (go_simp; with_reducible rfl)
              refine wpAnyG_takeW (i := 1) (v := ?_) rfl (by kernel_rfl) (by kernel_rfl) (by kernel_rfl) (by kernel_rfl) (fun _ _ _ h => h) hS (by kernel_rfl) ?_ ?_
              rotate_left
              · intro w' hSw
                (try dsimp only at hSw)
                first | (go_simp; done) | (go_simp; with_reducible rfl)
              refine wpAnyG_pureW (i := 2) (v := ?_) rfl (by kernel_rfl) (by kernel_rfl) (by kernel_rfl) (fun _ _ _ h => h) (by kernel_rfl) ?_ ?_
              rotate_left
              · intro w'
                first | (go_simp; done) | (go_simp; with_reducible rfl)
              refine wpAnyG_two (i := 3) (j := 8) (by kernel_rfl) rfl rfl rfl rfl (fun K hK => ?_) (fun K hK => ?_)
              · clear hS
                go_simp
                go_at_call 31
                refine (HAT9.out W9.drew HD9.out).mono ?_
                rintro e V1 ⟨rfl, hb1⟩
                have HBa := Lib.hid (bst HD9.out hb1)
                clear hb1
                go_wp2_with fail
                refine hK.out _ _ (fun _ _ => HLK.out V1 HBa.out) ?_
                clear hK K
                have hS : (fun V : World => V.cell? ⟨w2.heap.size + 1 + 1, 0, none⟩ = some (.map (some (w2.heap.size + 1))) ∧ V.cell? ⟨w1.heap.size, 0, none⟩ = some (.pointer (some ⟨F, 0, none⟩)) ∧ (Instr.lookup 71 (.map (some (w2.heap.size + 1))) (.string nm) true).run Tryz.prog V = .ok (.tuple #[.agg #[], .bool sn]) V) V1 := HLK.out V1 HBa.out
                refine wpAnyG_takeW (i := 4) (v := ?_) rfl (by kernel_rfl) (by kernel_rfl) (by kernel_rfl) (by kernel_rfl) (fun _ _ _ h => h) hS (by kernel_rfl) ?_ ?_
                rotate_left
                · intro w' hSw
                  (try dsimp only at hSw)
                  first | (go_simp; done) | (go_simp; with_reducible rfl)
                refine wpAnyG_pureW (i := 5) (v := ?_) rfl (by kernel_rfl) (by kernel_rfl) (by kernel_rfl) (fun _ _ _ h => h) (by kernel_rfl) ?_ ?_
                rotate_left
                · intro w'
                  first | (go_simp; done) | (go_simp; with_reducible rfl)
                refine wpAnyG_pureW (i := 6) (v := ?_) rfl (by kernel_rfl) (by kernel_rfl) (by kernel_rfl) (fun _ _ _ h => h) (by kernel_rfl) ?_ ?_
                rotate_left
                · intro w'
                  first | (go_simp; done) | (go_simp; with_reducible rfl)
                refine wpAnyG_pureW (i := 7) (v := ?_) rfl (by kernel_rfl) (by kernel_rfl) (by kernel_rfl) (fun _ _ _ h => h) (by kernel_rfl) ?_ ?_
                rotate_left
                · intro w'
                  first | (go_simp; done) | (go_simp; with_reducible rfl)
                clear hS
                refine wpAnyG_oneW (i := 8) (by kernel_rfl) rfl (by kernel_rfl) (fun K hK => ?_)
                go_simp
                refine hK.out _ _ (fun _ _ => HLK.out _ (balloc HBa.out _)) ?_
                clear hK K
                refine wpAnyG_oneW (i := 9) (by kernel_rfl) rfl (by kernel_rfl) (fun K hK => ?_)
                go_simp
                refine hK.out _ _ (fun _ _ => HLK.out _ (balloc HBa.out _)) ?_
                clear hK K
                refine wpAnyG_oneW (i := 10) (by kernel_rfl) rfl (by kernel_rfl) (fun K hK => ?_)
                go_simp
                refine hK.out _ _ (fun _ _ => HLK.out _ (balloc HBa.out _)) ?_
                clear hK K
                refine wpAnyG_done (by kernel_rfl) ?_ _
                go_simp
                first | (gi_wp2; gi_meet) | (gi_wp2; go_meet) | gi_meet | go_meet
                exact ⟨rfl, balloc HBa.out _⟩
              · go_simp
                refine hK.out _ _ (fun _ _ => HLK.out _ (balloc HD9.out _)) ?_
                clear hK K hS
                refine wpAnyG_oneW (i := 3) (by kernel_rfl) rfl (by kernel_rfl) (fun K hK => ?_)
                go_simp
                go_at_call 31
                refine (HAT9.out _ (balloc HD9.out _)).mono ?_
                rintro e V1 ⟨rfl, hb1⟩
                have HBa := Lib.hid (bst (balloc HD9.out _) hb1)
                clear hb1
                go_wp2_with fail
                refine hK.out _ _ (fun _ _ => HLK.out V1 HBa.out) ?_
                clear hK K
                have hS : (fun V : World => V.cell? ⟨w2.heap.size + 1 + 1, 0, none⟩ = some (.map (some (w2.heap.size + 1))) ∧ V.cell? ⟨w1.heap.size, 0, none⟩ = some (.pointer (some ⟨F, 0, none⟩)) ∧ (Instr.lookup 71 (.map (some (w2.heap.size + 1))) (.string nm) true).run Tryz.prog V = .ok (.tuple #[.agg #[], .bool sn]) V) V1 := HLK.out V1 HBa.out
                refine wpAnyG_takeW (i := 4) (v := ?_) rfl (by kernel_rfl) (by kernel_rfl) (by kernel_rfl) (by kernel_rfl) (fun _ _ _ h => h) hS (by kernel_rfl) ?_ ?_
                rotate_left
                · intro w' hSw
                  (try dsimp only at hSw)
                  first | (go_simp; done) | (go_simp; with_reducible rfl)
                refine wpAnyG_pureW (i := 5) (v := ?_) rfl (by kernel_rfl) (by kernel_rfl) (by kernel_rfl) (fun _ _ _ h => h) (by kernel_rfl) ?_ ?_
                rotate_left
                · intro w'
                  first | (go_simp; done) | (go_simp; with_reducible rfl)
                refine wpAnyG_pureW (i := 6) (v := ?_) rfl (by kernel_rfl) (by kernel_rfl) (by kernel_rfl) (fun _ _ _ h => h) (by kernel_rfl) ?_ ?_
                rotate_left
                · intro w'
                  first | (go_simp; done) | (go_simp; with_reducible rfl)
                refine wpAnyG_pureW (i := 7) (v := ?_) rfl (by kernel_rfl) (by kernel_rfl) (by kernel_rfl) (fun _ _ _ h => h) (by kernel_rfl) ?_ ?_
                rotate_left
                · intro w'
                  first | (go_simp; done) | (go_simp; with_reducible rfl)
                clear hS
                refine wpAnyG_oneW (i := 9) (by kernel_rfl) rfl (by kernel_rfl) (fun K hK => ?_)
                go_simp
                refine hK.out _ _ (fun _ _ => HLK.out _ HBa.out) ?_
                clear hK K
                refine wpAnyG_oneW (i := 10) (by kernel_rfl) rfl (by kernel_rfl) (fun K hK => ?_)
                go_simp
                refine hK.out _ _ (fun _ _ => HLK.out _ HBa.out) ?_
                clear hK K
                refine wpAnyG_done (by kernel_rfl) ?_ _
                go_simp
                first | (gi_wp2; gi_meet) | (gi_wp2; go_meet) | gi_meet | go_meet
                exact ⟨rfl, HBa.out⟩
            case rest =>
              obtain ⟨rfl, hb10⟩ := hcut
              obtain ⟨Wd, rfl⟩ : ∃ Wd : World, Wd = wc := ⟨_, rfl⟩
              have HI10 := Lib.hid (HI9.out.next hb10)
              have HK10 := Lib.hid (HK9.out.trans (KeepsLD.below hb10))
              have HSET10 := Lib.hid (HSET.out.next (hb10.block _ HSET.out.lt))
              have HLK10 : Hid (∀ V, Below Wd.heap.size Wd V → V.cell? ⟨w2.heap.size + 1 + 1, 0, none⟩ = some (.map (some (w2.heap.size + 1))) ∧ V.cell? ⟨w1.heap.size, 0, none⟩ = some (.pointer (some ⟨F, 0, none⟩))) := fun V hV => by
                have hI := HI10.out.next hV
                exact ⟨cell_blk (i := 0) hI.mb rfl, (HCW.out _ _ _ hI).2.2⟩
              have HAT10 := Lib.hid (HAT.out _ _ Wd.drew HI10.out.drew)
              clear hb10 HLK HSET HD9 HAT9 HI9 HK9
              obtain ⟨acc3, hacc3⟩ : ∃ acc3 : List ByteArray, acc3 = if sn then acc2 else nm :: acc2 := ⟨_, rfl⟩
              have HA3 := Lib.hid hacc3
              clear hacc3
              gi_wp2
              gi_cut [] from 64 (fun wx => EnI w6 w2.heap.size O m kc (acc1, acc3) (k + 1) wx ∧ KeepsLD W wx)
              case first =>
                refine wpIn_region_G (S := fun V : World => V.cell? ⟨w2.heap.size + 1 + 1, 0, none⟩ = some (.map (some (w2.heap.size + 1))) ∧ V.cell? ⟨w1.heap.size, 0, none⟩ = some (.pointer (some ⟨F, 0, none⟩))) (T := [5]) (by kernel_rfl) (by kernel_rfl) (by rintro ⟨_, _, h⟩; cases h.1) ?_
                have hS : (fun V : World => V.cell? ⟨w2.heap.size + 1 + 1, 0, none⟩ = some (.map (some (w2.heap.size + 1))) ∧ V.cell? ⟨w1.heap.size, 0, none⟩ = some (.pointer (some ⟨F, 0, none⟩))) Wd.drew := HLK10.out Wd.drew (below_drew Wd)
                refine wpAnyG_takeW (i := 0) (v := ?_) rfl (by kernel_rfl) (by kernel_rfl) (by kernel_rfl) (by kernel_rfl) (fun _ _ _ h => h) hS (by kernel_rfl) ?_ ?_
                rotate_left
                · intro w' hSw
                  (try dsimp only at hSw)
                  first | (go_simp; done) | (go_simp; with_reducible rfl)
                refine wpAnyG_takeW (i := 1) (v := ?_) rfl (by kernel_rfl) (by kernel_rfl) (by kernel_rfl) (by kernel_rfl) (fun _ _ _ h => h) hS (by kernel_rfl) ?_ ?_
                rotate_left
                · intro w' hSw
                  (try dsimp only at hSw)
                  first | (go_simp; done) | (go_simp; with_reducible rfl)
                refine wpAnyG_pureW (i := 2) (v := ?_) rfl (by kernel_rfl) (by kernel_rfl) (by kernel_rfl) (fun _ _ _ h => h) (by kernel_rfl) ?_ ?_
                rotate_left
                · intro w'
                  first | (go_simp; done) | (go_simp; with_reducible rfl)
                refine wpAnyG_pureW (i := 4) (v := ?_) rfl (by kernel_rfl) (by kernel_rfl) (by kernel_rfl) (fun _ _ _ h => h) (by kernel_rfl) ?_ ?_
                rotate_left
                · intro w'
                  first | (go_simp; done) | (go_simp; with_reducible rfl)
                refine wpAnyG_oneW (i := 3) (by kernel_rfl) rfl (by kernel_rfl) (fun K hK => ?_)
                go_simp
                go_at_call 31
                refine HAT10.out.mono ?_
                rintro e V1 ⟨rfl, hb1⟩
                have HBa := Lib.hid ((below_drew Wd).trans hb1)
                clear hb1
                go_wp2_with fail
                refine hK.out _ _ (fun _ _ => HLK10.out V1 HBa.out) ?_
                clear hK K hS
                obtain ⟨V2, hrun, hset2, hg2⟩ := (HSET10.out.next (HBa.out.block _ HSET10.out.lt)).put (by have := HSL.out; omega) (x := nm) (by have := HNMS.out; omega)
                have hi2 := (HI10.out.next HBa.out).turn (r' := k + 1) (acc2 := acc3) hg2 hset2 (by rw [List.length_append, List.length_singleton]; have := HSL.out; omega) (fun x => by
                  rw [List.any_append, HSA.out, HA3.out]
                  cases hs : sn with
                  | true =>
                    rw [if_pos rfl]
                    have h1 := HSN.out
                    rw [hs] at h1
                    by_cases hx : nm.toList = x.toList
                    · rw [← hx]; simp [← h1]
                    · simp [hx]
                  | false => simp [Bool.or_comm])
                have hk2 := HK10.out.trans ((KeepsLD.below HBa.out).trans (KeepsLD.grown hg2 fun r e o ho => by
                  cases e
                  obtain ⟨es, ck', hob⟩ := (HSET10.out.next (HBa.out.block _ HSET10.out.lt)).obj
                  rw [hob] at ho
                  obtain rfl := Option.some.inj ho
                  rfl))
                have HI2 := Lib.hid hi2
                have HK2 := Lib.hid hk2
                clear hset2 hg2 hi2 hk2
                refine wpAnyG_oneW (i := 5) (by kernel_rfl) rfl (by kernel_rfl) (fun K hK => ?_)
                go_simp
                refine hK.out _ _ (fun h => absurd (by decide) h) ?_
                clear hK K
                refine wpAnyG_done (by kernel_rfl) ?_ _
                go_simp
                first | (gi_wp2; gi_meet) | (gi_wp2; go_meet) | gi_meet | go_meet
                exact ⟨HI2.out, HK2.out⟩
              case rest =>
                obtain ⟨hi11, hk11⟩ := hcut
                have HI11 := Lib.hid hi11
                have HK11 := Lib.hid hk11
                clear hi11 hk11
                cases sn with
                | true =>
                  have HSTF := Lib.hid (show acc (k + 1) = (acc1, acc3) from by rw [HSTG.out, ← HSN.out, HA3.out]; rfl)
                  gi_wp2
                  exact ⟨HK11.out, by rw [HSTF.out]; exact HI11.out⟩
                | false =>
                  have HSTF := Lib.hid (show acc (k + 1) = (entriesF l (i : Int) ++ acc1, acc3) from by rw [HSTG.out, ← HSN.out, HA3.out]; rfl)
                  gi_wp2
                  obtain ⟨Wq, rfl⟩ : ∃ Wq : World, Wq = wc := ⟨_, rfl⟩
                  have HQ := Lib.hid HI11.out
                  have HKQ := Lib.hid HK11.out
                  obtain ⟨v8, b8, o8⟩ := HQ.out.out
                  have hl8 := HAL.out
                  obtain ⟨A8, c8, e8, hs8⟩ := OwnF.sl (T := tDA) o8 (by decide) (by show acc1.length * 32 ≤ _; omega)
                  subst e8
                  have y8 := cell_blk (i := 0) b8 rfl
                  have HS8 := Lib.hid hs8
                  have HCE13 : Hid (∀ V, Below Wq.heap.size Wq V → V.cell? ⟨w1.heap.size, 0, none⟩ = some (.pointer (some ⟨F, 0, none⟩)) ∧ V.cell? ⟨w2.heap.size, 0, none⟩ = some (.slice A8 acc1.length c8)) := fun V hV => ⟨(HCW.out _ _ _ (HQ.out.next hV)).2.2, cell_be y8 hV⟩
                  have HEN13 := Lib.hid (entries_f HT.out HG.out (HFW.out _ _ _ (HQ.out.next (below_drew Wq))) HIL.out)
                  have HB8 := Lib.hid b8
                  have HEL := Lib.hid (entries_few HT.out HIL.out)
                  clear b8 o8 hs8 y8
                  refine wpIn_region_G (S := fun V : World => V.cell? ⟨w1.heap.size, 0, none⟩ = some (.pointer (some ⟨F, 0, none⟩)) ∧ V.cell? ⟨w2.heap.size, 0, none⟩ = some (.slice A8 acc1.length c8)) (T := [5]) (by kernel_rfl) (by kernel_rfl) (by rintro ⟨_, _, h⟩; cases h.1) ?_
                  have hS : (fun V : World => V.cell? ⟨w1.heap.size, 0, none⟩ = some (.pointer (some ⟨F, 0, none⟩)) ∧ V.cell? ⟨w2.heap.size, 0, none⟩ = some (.slice A8 acc1.length c8)) Wq.drew := HCE13.out Wq.drew (below_drew Wq)
                  refine wpAnyG_takeW (i := 0) (v := ?_) rfl (by kernel_rfl) (by kernel_rfl) (by kernel_rfl) (by kernel_rfl) (fun _ _ _ h => h) hS (by kernel_rfl) ?_ ?_
                  rotate_left
                  · intro w' hSw
                    (try dsimp only at hSw)
                    first | (go_simp; done) | (go_simp; with_reducible rfl)
                  refine wpAnyG_pureW (i := 1) (v := ?_) rfl (by kernel_rfl) (by kernel_rfl) (by kernel_rfl) (fun _ _ _ h => h) (by kernel_rfl) ?_ ?_
                  rotate_left
                  · intro w'
                    first | (go_simp; done) | (go_simp; with_reducible rfl)
                  refine wpAnyG_takeW (i := 3) (v := ?_) rfl (by kernel_rfl) (by kernel_rfl) (by kernel_rfl) (by kernel_rfl) (fun _ _ _ h => h) hS (by kernel_rfl) ?_ ?_
                  rotate_left
                  · intro w' hSw
                    (try dsimp only at hSw)
                    first | (go_simp; done) | (go_simp; with_reducible rfl)
                  refine wpAnyG_oneW (i := 2) (by kernel_rfl) rfl (by kernel_rfl) (fun K hK => ?_)
                  go_simp
                  go_at_call 32
                  refine HEN13.out.mono ?_
                  rintro e V1 ⟨hb1, v1, rfl, ho1⟩
                  have HB1q := Lib.hid ((below_drew Wq).trans hb1)
                  have HO1q := Lib.hid (show OwnF tDA V1 Wq.heap.size 38 v1 (entriesF l (i : Int)).length (entriesF l (i : Int)) from ho1)
                  clear hb1 ho1
                  go_wp2_with fail
                  refine hK.out _ _ (fun _ _ => HCE13.out V1 HB1q.out) ?_
                  clear hK K hS
                  obtain ⟨v9, V2, hrun, ho9, hb9⟩ := run_apf (P := Tryz.prog) (t := 32) (ty := 32) V1 flatDA elemEnt HO1q.out (HS8.out.below HB1q.out (Nat.le_refl _)) (by have := HEL.out; omega) (by have := HEL.out; omega) HB1q.out.size
                  obtain ⟨A9, c9, rfl⟩ := Cl.Own.form ho9
                  have hput := HQ.out.put HB1q.out hb9 (acc := (acc1, acc3)) ho9
                  have HPUT := Lib.hid hput
                  have s13 := HCE13.out V2 (HB1q.out.trans hb9)
                  have fr8 := free_blk (i := 0) (blk_next HB8.out (HB1q.out.trans hb9))
                  clear ho9 hb9 hput
                  refine wpAnyG_oneW (i := 4) (by kernel_rfl) rfl (by kernel_rfl) (fun K hK => ?_)
                  refine wp_append_runI (.tmp 72) (.tmp 73) 32 rfl _ _ rfl rfl hrun ?_
                  refine hK.out _ _ (fun _ _ => s13) ?_
                  clear hK K hrun
                  have y8' := s13.2
                  refine wpAnyG_oneW (i := 5) (by kernel_rfl) rfl (by kernel_rfl) (fun K hK => ?_)
                  go_simp
                  refine hK.out _ _ (fun h => absurd (by decide) h) ?_
                  clear hK K
                  refine wpAnyG_done (by kernel_rfl) ?_ _
                  go_simp
                  gi_wp2
                  exact ⟨HKQ.out.trans HPUT.out.2, by rw [HSTF.out]; exact HPUT.out.1⟩
    case done =>
      intro D W hD hI hK
      have HEF := Lib.hid (show acc m = entFold l ord form from by rw [HACC.out]; dsimp only; rw [List.take_of_length_le (by rw [List.length_reverse]; have := HMN.out; omega)]; rfl)
      have hfw := acc_few HT.out HKN.out form m
      rw [show (ord.reverse.take m).foldl (entStep l ord form) ([], []) = acc m from by rw [HACC.out]] at hfw
      have HFEW := Lib.hid (show (acc m).1.length ≤ 40000 from by omega)
      rw [HEF.out] at HFEW hI
      clear hfw
      generalize entFold l ord form = ef at *
      obtain ⟨v8, b8, o8⟩ := hI.out
      obtain ⟨A8, c8, e8⟩ := Cl.Own.form o8
      subst e8
      have y8 := cell_blk (i := 0) b8 rfl
      have hlen : ef.1.length ≤ 40000 := HFEW.out
      have HO8 := Lib.hid o8
      have HBL := Lib.hid (show Below w.heap.size w W from HB02.out.trans ((HB26.out.mono HB02.out.size).trans (hI.low.mono HB02.out.size)))
      have HDD := Lib.hid hK
      have HDS := Lib.hid hD
      have HW6 := Lib.hid (show w.heap.size ≤ w6.heap.size from Nat.le_trans HB02.out.size HB26.out.size)
      clear hI b8 o8 hK hD
      by_cases h100 : 100 < ef.1.length
      · have HR := Lib.hid (show entR l form = ([], 2) from by rw [HR1.out, if_pos h100])
        have t1 : decide ((100 : Int) < (ef.1.length : Int)) = true := decide_eq_true (by omega)
        go_wp2_with fail
        refine ⟨by simp, .inl ⟨_, _, rfl, run_takeDeferred HDD.out, ?_⟩⟩
        obtain ⟨WF, hWF⟩ : ∃ WF, WF = W.putObj D (.deferred none) := ⟨_, rfl⟩
        rw [← hWF]
        have hg : W.grownBy WF (some D) := by rw [hWF]; exact grownBy_putObj' W D (.deferred none)
        have hbF : Below w.heap.size w WF := HBL.out.grown hg HBL.out.size (fun k e => by cases e; have := HDS.out; have := HW6.out; omega)
        exact ⟨.tuple #[.slice none 0 0, .int .i64 2], by simp [results, Tryz.results10, go_sem], hbF, .inl ⟨by rw [HR.out]; decide, by rw [HR.out]⟩⟩
      · have HR := Lib.hid (show entR l form = (ef.1, 0) from by rw [HR1.out, if_neg h100])
        have t1 : decide ((100 : Int) < (ef.1.length : Int)) = false := decide_eq_false (by omega)
        go_wp2_with fail
        refine ⟨by simp, .inl ⟨_, _, rfl, run_takeDeferred HDD.out, ?_⟩⟩
        obtain ⟨WF, hWF⟩ : ∃ WF, WF = W.putObj D (.deferred none) := ⟨_, rfl⟩
        rw [← hWF]
        have hg : W.grownBy WF (some D) := by rw [hWF]; exact grownBy_putObj' W D (.deferred none)
        have hbF : Below w.heap.size w WF := HBL.out.grown hg HBL.out.size (fun k e => by cases e; have := HDS.out; have := HW6.out; omega)
        have ho : OwnF tDA WF w.heap.size 38 (.slice A8 ef.1.length c8) ef.1.length ef.1 := by
          refine Cl.Own.down (Cl.Own.kept HO8.out hg ?_ fun _ h => h.elim) HW6.out
          cases hv : (Value.slice A8 ef.1.length c8).ownBlock with
          | none => exact .inl rfl
          | some g =>
            right
            intro e
            obtain ⟨cs, hc⟩ := own_blk_cells HO8.out hv
            injection e with e
            rw [e, HDD.out] at hc
            cases hc
        exact ⟨.tuple #[.slice A8 ef.1.length c8, .int .i64 0], by simp [results, Tryz.results10, go_sem], hbF, .inr ⟨by rw [HR.out], _, rfl, by rw [HR.out]; exact ho⟩⟩
  · have HC0 := Lib.hid hc
    have HR := Lib.hid (show entR l form = ([], ctrlE l form (⟨#[32, 102, 111, 114, 109, 32]⟩ : ByteArray)) from by rw [HR0.out, if_pos hc])
    have t1 : (ctrlE l form (⟨#[32, 102, 111, 114, 109, 32]⟩ : ByteArray) != 0) = true := by simpa using hc
    clear hc HFM HR0
    generalize ctrlE l form (⟨#[32, 102, 111, 114, 109, 32]⟩ : ByteArray) = ce at *
    go_wp2_with fail
    refine ⟨.tuple #[.slice none 0 0, .int .i64 ce], by simp [results, Tryz.results10, go_sem], HB02.out, .inl ⟨?_, ?_⟩⟩
    · rw [HR.out]; exact HC0.out
    · rw [HR.out]
end Go.Proofs.YtpbngckplbnahaaGreatDoor
