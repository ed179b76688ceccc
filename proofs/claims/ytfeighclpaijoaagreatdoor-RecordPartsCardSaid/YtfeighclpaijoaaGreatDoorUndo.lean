/-
The walk of record.Undo: where the steps may be undone one by one.
-/
import Derived.Test.YtfeighclpaijoaaGreatDoorBackward
import Derived.Test.YtfeighclpaijoaaGreatDoorUnDone2
namespace Go.Proofs.YtfeighclpaijoaaGreatDoor
open Go.RowKit Go.Cl Go.Shelf
attribute [local go_sem] Oper.semAt_some
attribute [local go_sem ↓] Go.wp_at_zero Go.wp_at_succ

/-- The documents between. -/
def Undoes (l : List Nd) (ss : List Stp) : Prop := ∀ k, k ≤ ss.length → ∃ lk, runU l (ss.reverse.take k) = some lk ∧ Good lk
theorem Undoes.step {l : List Nd} {ss : List Stp} (h : Undoes l ss) {k i : Nat} (hk : k + 1 + i = ss.length) {lk : List Nd} (hl : runU l (ss.reverse.take k) = some lk) :
    ∃ s lk', ss[i]? = some s ∧ unD lk s = some lk' ∧ runU l (ss.reverse.take (k + 1)) = some lk' ∧ Good lk ∧ Good lk' := by
  obtain ⟨s, hs⟩ : ∃ s, ss[i]? = some s := get_some (by omega)
  have hr : ss.reverse[k]? = some s := by
    rw [List.getElem?_reverse (by omega), show ss.length - 1 - k = i from by omega]
    exact hs
  obtain ⟨la, ha, ga⟩ := h k (by omega)
  obtain ⟨lb, hb, gb⟩ := h (k + 1) (by omega)
  rw [hl] at ha
  obtain rfl := Option.some.inj ha
  refine ⟨s, lb, hs, ?_, hb, ga, gb⟩
  rw [take_snoc hr, runU_app, hl] at hb
  have hb : runU lk [s] = some lb := hb
  have h2 : runU lk [s] = unD lk s := by
    show (unD lk s).bind _ = _
    cases unD lk s <;> rfl
  rw [h2] at hb
  exact hb
/-- What Undo leaves behind, where all may be undone. -/
def UndoPost (w : World) (l' : List Nd) (q : Bool) (e' : Ending) (w' : World) : Prop :=
  Below w.heap.size w w' ∧ ∃ A' c', e' = .returned (.tuple #[.agg #[.slice A' l'.length c', .bool q], .int .i64 0]) ∧ Sl tNd w' (rg w.heap.size w'.heap.size) A' l'.length c' l'
theorem Leaves.keeps {w w' : World} (h : Leaves w w') : KeepsOthers w w' := ⟨h.size, fun k o hk ho => h.same k o hk (by
  rintro ⟨cs, t, fr, h1, _⟩
  rw [hk] at h1
  obtain rfl := Option.some.inj h1
  cases ho)⟩
theorem own_off {α : Type} {T : Ty α} {w : World} {base : Nat} {e : TypeId} {D : Nat → Prop} {v : Value} {n : Nat} {xs : List α} (h : Go.Cl.Own T w base e D v n xs) {row : Option Nat} (hr : ∀ r, row = some r → ∃ o : Obj, w.heap[r]? = some o ∧ o.isCells = false) : v.ownBlock = none ∨ v.ownBlock ≠ row := by
  cases hv : v.ownBlock with
  | none => exact Or.inl rfl
  | some g =>
    right
    intro e'
    obtain ⟨cur, h1⟩ := own_block_at h hv
    obtain ⟨o, h2, h3⟩ := hr g e'.symm
    rw [h1] at h2
    obtain rfl := Option.some.inj h2
    cases h3
theorem UnAt.turned {w w' : World} {E g c base : Nat} {l : List Nd} {q : Bool} {ps : List (Value × Value)} (h : UnAt w E g c base l q ps) {row : Option Nat} (hg : w.grownBy w' row) (hr : ∀ r, row = some r → ∃ o : Obj, w.heap[r]? = some o ∧ o.isCells = false) : UnAt w' E g c base l q ps := by
  refine ⟨(hg.block E h.lt fun e => ?_).trans h.box, ⟨h.ed.len, h.ed.few, ownF_kept h.ed.row hg (own_off h.ed.row hr), fun i x p hx hp => ?_, h.ed.apart⟩, h.le, h.pos, h.cap⟩
  · obtain ⟨o, h2, h3⟩ := hr E e.symm
    rw [h.box] at h2
    obtain rfl := Option.some.inj h2
    cases h3
  · have hP := h.ed.parts i x p hx hp
    exact ⟨ownF_kept hP.attrs hg (own_off hP.attrs hr), ownF_kept hP.kids hg (own_off hP.kids hr), hP.ok⟩
/-- What a block of the walk's own holds, whatever is undone. -/
theorem Leaves.blk {w w' : World} (h : Leaves w w') {k : Nat} {cs : Array Value} {t : TypeId} {fr : Nat × Nat} (hk : w.heap[k]? = some (.cells cs t fr)) (ht : ¬ (t = 43 ∨ t = 66 ∨ t = 3 ∨ t = 53)) : w'.heap[k]? = some (.cells cs t fr) := h.same k _ hk (by
  rintro ⟨cs', t', fr', h1, h2⟩
  rw [hk] at h1
  injection h1 with h1
  injection h1 with _ h3
  rw [← h3] at h2
  exact ht h2)
/-- When k steps are undone. -/
def UnI (w w2 : World) (E base : Nat) (q : Bool) (l : List Nd) (ss : List Stp) (k : Nat) (W : World) : Prop :=
  ∃ g c ps lk, runU l (ss.reverse.take k) = some lk ∧ UnAt W E g c base lk q ps ∧ Below w.heap.size w W ∧ Leaves w2 W
theorem unI_own {w w2 : World} {E base : Nat} {q : Bool} {l : List Nd} {ss : List Stp} (hw : w.heap.size ≤ w2.heap.size) (k : Nat) : OwnFrom w2.heap.size (fun (_ : Unit) W => UnI w w2 E base q l ss k W) := by
  rintro _ W W' row ⟨g, c, ps, lk, h1, h2, h3, h4⟩ hg hr
  refine ⟨g, c, ps, lk, h1, h2.turned hg (fun r e => (hr r e).2), h3.grown hg h3.size (fun k e => Nat.le_trans hw (hr k e).1), ⟨Nat.le_trans h4.size hg.size, fun k o hk hn => ?_⟩⟩
  have hl := (Array.getElem?_eq_some_iff.1 hk).1
  exact (hg.block k (Nat.lt_of_lt_of_le hl h4.size) (fun e => by have := (hr k e.symm).1; omega)).trans (h4.same k o hk hn)
set_option maxRecDepth 100000 in
set_option maxHeartbeats 8000000 in
theorem undo_any (A : Option Addr) (n c : Nat) (l : List Nd) (q : Bool) (A2 : Option Addr) (m c2 : Nat) (ss : List Stp) (w : World) (B : Nat) (hl : Sl tNd w (lt B) A n c l) (hs : Sl tStp w (lt B) A2 m c2 ss) (hB : B ≤ w.heap.size) (hm : ss.length ≤ 40) (hu : Undoes l ss) (l' : List Nd) (hl' : runU l ss.reverse = some l') :
    Calls Tryz.prog 9 #[.agg #[.slice A n c, .bool q], .slice A2 m c2] w (UndoPost w l' q) := by
  have hgl : Good l := by
    obtain ⟨lk, h1, h2⟩ := hu 0 (Nat.zero_le _)
    obtain rfl := Option.some.inj h1
    exact h2
  have hgl' : Good l' := by
    obtain ⟨lk, h1, h2⟩ := hu ss.length (Nat.le_refl _)
    rw [List.take_of_length_le (by simp), hl'] at h1
    obtain rfl := Option.some.inj h1
    exact h2
  obtain ⟨wa, hwa⟩ : ∃ wa, wa = w.alloc (.cells #[.slice A n c, .bool q] 24) := ⟨_, rfl⟩
  obtain ⟨wb, hwb⟩ : ∃ wb, wb = wa.alloc (.cells #[.slice none 0 0, .bool false] 24) := ⟨_, rfl⟩
  obtain ⟨w0, hw0⟩ : ∃ w0, w0 = wb.alloc (.cells #[.int .i64 0] 28) := ⟨_, rfl⟩
  have za : wa.heap.size = w.heap.size + 1 := by rw [hwa]; exact World.size_alloc w _
  have zb : wb.heap.size = w.heap.size + 2 := by rw [hwb, World.size_alloc, za]
  have z0 : w0.heap.size = w.heap.size + 3 := by rw [hw0, World.size_alloc, zb]
  have hxd : w0.heap[w.heap.size]? = some (.cells #[.slice A n c, .bool q] 24 (0, 0)) := by rw [hw0, Lib.alloc_old _ _ _ (by omega), hwb, Lib.alloc_old _ _ _ (by omega), hwa]; exact heap_alloc_new w _
  have hxr : w0.heap[w.heap.size + 1]? = some (.cells #[.slice none 0 0, .bool false] 24 (0, 0)) := by rw [hw0, Lib.alloc_old _ _ _ (by omega), hwb, ← za]; exact heap_alloc_new wa _
  have hxe : w0.heap[w.heap.size + 2]? = some (.cells #[.int .i64 0] 28 (0, 0)) := by rw [hw0, ← zb]; exact heap_alloc_new wb _
  have hb0 : Below w.heap.size w w0 := by rw [hw0, hwb, hwa]; exact (((Below.refl _ _).alloc (Nat.le_refl _) _).alloc (by simp) _).alloc (by simp; omega) _
  have HB0 := Lib.hid hb0
  have HZ0 := Lib.hid z0
  have HXR := Lib.hid hxr
  have HXE := Lib.hid hxe
  have HSS := Lib.hid hs
  have HBW : Hid (B ≤ w.heap.size) := hB
  have HU := Lib.hid hu
  have HL' := Lib.hid hl'
  have HG' := Lib.hid hgl'
  have hmn := hs.hn
  have hm40 : m ≤ 40 := by omega
  have HMN := Lib.hid hmn
  have hmc := hs.hc
  have HAL := Lib.hid (all_own A n c l q none 0 0 [] w0 B (hl.below hb0 hB) Sl.nil (Nat.le_trans hB hb0.size))
  have HNIL := Lib.hid (al_nil (check_of hgl))
  have x0 := cell_blk (i := 0) hxd rfl
  have x1 := cell_blk (i := 1) hxd rfl
  clear za zb z0 hxd hxr hxe hb0 hl hs hB hu hl' hgl' hmn hm
  refine (callsIn_wide (n := 9)).1 ?_
  refine callsIn_of_wp_marks Tryz.func9 rfl trivial ?_ rfl
  simp only [Tryz.ntmps9, List.size_toArray, List.length_cons, List.length_nil, Nat.reduceAdd, Nat.reduceSub, Array.replicate_succ, Array.replicate_zero, List.push_toArray, List.append_toArray, List.nil_append, List.cons_append]
  refine wpIn_wide.2 ?_
  go_upto_region 1 with fail
  rw [← hwa, ← hwb, ← hw0]
  clear hwa hwb hw0
  go_upto_region 2 with (go_at_call 10; refine HAL.out.mono ?_; rintro e' w1 ⟨hb1, hp⟩; rw [HNIL.out] at hp; rcases hp with ⟨h, _⟩ | ⟨_, g, c', base, ps, rfl, hbase, hed, hpos, hcap⟩; · exact absurd rfl h)
  go_upto_region 6 with fail
  obtain ⟨w2, hw2⟩ : ∃ w2, w2 = w1.alloc (.cells #[.slice (some ⟨g, 0, none⟩) l.length c', .bool q] 24) := ⟨_, rfl⟩
  obtain ⟨w3, hw3⟩ : ∃ w3, w3 = w2.alloc (.cells #[.slice (some ⟨g, 0, none⟩) l.length c', .bool q] 53) := ⟨_, rfl⟩
  obtain ⟨w4, hw4⟩ : ∃ w4, w4 = w3.alloc (.cells #[.pointer (some ⟨w2.heap.size, 0, none⟩)] 51) := ⟨_, rfl⟩
  obtain ⟨w5, hw5⟩ : ∃ w5, w5 = w4.alloc (.cells #[.slice A2 m c2] 27) := ⟨_, rfl⟩
  have z2 : w2.heap.size = w1.heap.size + 1 := by rw [hw2]; exact World.size_alloc w1 _
  have z3 : w3.heap.size = w1.heap.size + 2 := by rw [hw3, World.size_alloc, z2]
  have z4 : w4.heap.size = w1.heap.size + 3 := by rw [hw4, World.size_alloc, z3]
  have z5 : w5.heap.size = w1.heap.size + 4 := by rw [hw5, World.size_alloc, z4]
  have hx2 : w2.heap[w1.heap.size]? = some (.cells #[.slice (some ⟨g, 0, none⟩) l.length c', .bool q] 24 (0, 0)) := by rw [hw2]; exact heap_alloc_new w1 _
  have hx3 : w5.heap[w2.heap.size]? = some (.cells #[.slice (some ⟨g, 0, none⟩) l.length c', .bool q] 53 (0, 0)) := by rw [hw5, Lib.alloc_old _ _ _ (by omega), hw4, Lib.alloc_old _ _ _ (by omega), hw3]; exact heap_alloc_new w2 _
  have hx4 : w5.heap[w3.heap.size]? = some (.cells #[.pointer (some ⟨w2.heap.size, 0, none⟩)] 51 (0, 0)) := by rw [hw5, Lib.alloc_old _ _ _ (by omega), hw4]; exact heap_alloc_new w3 _
  have hx5 : w5.heap[w4.heap.size]? = some (.cells #[.slice A2 m c2] 27 (0, 0)) := by rw [hw5]; exact heap_alloc_new w4 _
  have hb15 : Below w1.heap.size w1 w5 := by
    rw [hw5, hw4, hw3, hw2]
    exact ((((Below.refl _ _).alloc (Nat.le_refl _) _).alloc (by simp) _).alloc (by simp; omega) _).alloc (by simp; omega) _
  have hb05 : Below w0.heap.size w0 w5 := hb1.trans (hb15.mono hb1.size)
  have hb5 : Below w.heap.size w w5 := HB0.out.trans (hb05.mono HB0.out.size)
  have hxr5 := (hb05.block (w.heap.size + 1) (by rw [HZ0.out]; omega)).trans HXR.out
  have hxe5 := (hb05.block (w.heap.size + 2) (by rw [HZ0.out]; omega)).trans HXE.out
  have hbl : base ≤ w1.heap.size := by
    obtain ⟨g', c'', e, h1, h2, _⟩ := hed.where_ hpos
    omega
  have HI0 : Hid (UnI w w5 w2.heap.size base q l ss 0 w5) := ⟨g, c', ps, l, rfl, ⟨hx3, hed.next hb15, by omega, hpos, hcap⟩, hb5, Leaves.refl _⟩
  have HX4 := Lib.hid hx4
  have HX5 := Lib.hid hx5
  have HXR5 := Lib.hid hxr5
  have HXE5 := Lib.hid hxe5
  have HZ := Lib.hid (show w2.heap.size = w1.heap.size + 1 ∧ w3.heap.size = w1.heap.size + 2 ∧ w4.heap.size = w1.heap.size + 3 ∧ w5.heap.size = w1.heap.size + 4 from ⟨z2, z3, z4, z5⟩)
  have HB5 := Lib.hid hb5
  have HSZ := Lib.hid hb1.size
  have HBB := Lib.hid (show w.heap.size ≤ base from Nat.le_trans HB0.out.size hbase)
  have u0 := cell_blk (i := 0) hx2 rfl
  have u1 := cell_blk (i := 1) hx2 rfl
  have HBK := Lib.hid (back_any A2 m c2 w4)
  rw [← hw2]
  clear HAL HNIL hed hpos hcap hbase hb1 hb15 hb05 hb5 hxr5 hxe5 hbl hx2 hx3 hx4 hx5 z2 z3 z4 z5 x0 x1 HXR HXE hw2
  go_upto_region 7 with fail
  rw [← hw3, ← hw4]
  clear hw3 hw4 u0 u1
  go_wp2_with (go_at_call 17; refine HBK.out.mono ?_; rintro e' w6 ⟨rfl, rfl⟩; rw [← hw5])
  clear HBK
  rw [← hw5]
  clear hw5
  have hV : ∀ i, ∃ v : Array Value, i < m → ∃ s Aa na ca Ak nk ck, ss[i]? = some s ∧ v = stpCells s Aa na ca Ak nk ck ∧ StpOk w (lt B) s Aa na ca Ak nk ck ∧ ∃ b o, A2 = some ⟨b, o, none⟩ ∧ b < B ∧ ∀ (j : Nat) u, (stpCells s Aa na ca Ak nk ck)[j]? = some u → w.cell? ⟨b, o + (i * 16 + j), none⟩ = some u := by
    intro i
    by_cases hi : i < m
    · obtain ⟨s, hs⟩ : ∃ s, ss[i]? = some s := get_some (by have := HMN.out; omega)
      obtain ⟨b, o, Aa, na, ca, Ak, nk, ck, h1, h2, h3, h4⟩ := stp_get HSS.out hs
      exact ⟨_, fun _ => ⟨s, Aa, na, ca, Ak, nk, ck, hs, rfl, h3, b, o, h1, h2, h4⟩⟩
    · exact ⟨#[], fun h => absurd h hi⟩
  obtain ⟨V, hV⟩ := Classical.skolem.1 hV
  have HV := Lib.hid hV
  clear hV
  have hw5 : w.heap.size ≤ w5.heap.size := HB5.out.size
  refine wpIn_wide.1 (wpIn_rounds (F := Fence.wide) (n := 9) rfl (by decide) (gf := 31) (lb := #[.pointer (some ⟨w4.heap.size, 0, none⟩)]) rfl trivial (enters_of Tryz.func31 (by kernel_rfl) rfl)
    m (fun k => #[.int .i64 ((m - 1 - k : Nat) : Int), .agg (V (m - 1 - k))]) (fun _ => rfl) (UnI w w5 w2.heap.size base q l ss)
    (fun k a' W => ∃ O, W.heap[O]? = some (.cells (V (m - 1 - k)) 48 (0, 0)) ∧ UnI w w5 w2.heap.size base q l ss k W ∧ a' = { tmps := #[.agg #[.slice A n c, .bool q], .slice A2 m c2, .pointer (some ⟨w.heap.size, 0, none⟩), undef, .pointer (some ⟨w.heap.size + 1, 0, none⟩), .pointer (some ⟨w.heap.size + 1 + 1, 0, none⟩), .pointer (some ⟨w1.heap.size, 0, none⟩), .int .i64 0, .int .i64 0, .pointer (some ⟨w2.heap.size + 1, 0, none⟩), undef, .pointer (some ⟨O, 0, none⟩), .tuple #[.agg #[.slice (some ⟨g, 0, none⟩) l.length c', .bool q], .int .i64 0, .int .i64 0], .agg #[.slice A n c, .bool q], .tuple #[.agg #[.slice (some ⟨g, 0, none⟩) l.length c', .bool q], .int .i64 0, .int .i64 0], .agg #[.slice (some ⟨g, 0, none⟩) l.length c', .bool q], .int .i64 0, .int .i64 0, .int .i64 0, .bool true, .bool true, .slice A2 m c2, .int .i64 (m : Int), .bool (decide (40 < (m : Int))), .bool (decide (40 < (m : Int))), .int .i64 0, .bool false, undef, undef, .agg #[.slice (some ⟨g, 0, none⟩) l.length c', .bool q], .agg #[.slice (some ⟨g, 0, none⟩) l.length c', .bool q], .pointer (some ⟨w2.heap.size, 0, none⟩), .slice A2 m c2, .func (.func 31) #[] #[.pointer (some ⟨w4.heap.size, 0, none⟩)], .int .i64 ((m - 1 - k : Nat) : Int), .agg (V (m - 1 - k)), undef, undef, undef, undef, undef, undef, undef, undef, undef, undef, undef, undef, undef, undef, undef, undef], defers := [] })
    (unI_own hw5) ?hAx HI0.out ?hseq ?assign ?body ?done)
  case hAx =>
    rintro k a' _ W W' row ⟨O, h1, h2, h3⟩ hg hr
    refine ⟨O, (hg.block O (Array.getElem?_eq_some_iff.1 h1).1 fun e => ?_).trans h1, unI_own hw5 k () W W' row h2 hg hr, h3⟩
    obtain ⟨_, o, h4, h5⟩ := hr O e.symm
    rw [h1] at h4
    obtain rfl := Option.some.inj h4
    cases h5
  case hseq =>
    intro lp J W hJI hY h0
    refine back1_in 8 (by decide) lp w4.heap.size A2 m c2 (by omega) V J (fun k W hJ => ?_) (fun k i W1 hk hJ => ?_) W h0
    · obtain ⟨_, _, _, _, _, _, hb, hlv⟩ := hJI k W hJ
      refine ⟨cell_blk (i := 0) (hlv.blk HX5.out (by decide)) rfl, fun i hi => ?_⟩
      obtain ⟨s, Aa, na, ca, Ak, nk, ck, _, h2, _, b, o, h4, h5, h6⟩ := HV.out i hi
      exact ⟨b, o, s, Aa, na, ca, Ak, nk, ck, h4, h2, fun j u hu => (hb.cell (p := ⟨b, o + (i * 16 + j), none⟩) (Nat.lt_of_lt_of_le h5 HBW.out)).trans (h6 j u hu)⟩
    · have h1 := hY k W1 (by omega) hJ
      rw [show m - 1 - k = i from by omega] at h1
      exact h1
  case assign =>
    intro lp k W K hk hI hK
    obtain ⟨s, Aa, na, ca, Ak, nk, ck, _, hVi, _⟩ := HV.out (m - 1 - k) (by omega)
    have HI := Lib.hid hI
    have HK := Lib.hid hK
    clear hI hK
    rw [hVi] at HK ⊢
    unfold stpCells at HK ⊢
    gi_wp2
    exact HK.out _ _ (KeepsOthers.alloc _ _) ⟨W.heap.size, heap_alloc_new W _, OwnFrom.alloc (s := ()) (unI_own hw5 k) _ HI.out, rfl⟩
  case body =>
    rintro lp k a' W hk ⟨O, hO, hI, rfl⟩
    obtain ⟨s, Aa, na, ca, Ak, nk, ck, hs, hVi, hok, _⟩ := HV.out (m - 1 - k) (by omega)
    rw [hVi] at hO ⊢
    obtain ⟨g2, c3, ps2, lk, hr, hU, hbl, hlv⟩ := hI
    obtain ⟨s', lk', hs', hud, hr', gk, gk'⟩ := HU.out.step (k := k) (i := m - 1 - k) (by have := HMN.out; omega) hr
    rw [hs] at hs'
    obtain rfl := Option.some.inj hs'
    have HUN := Lib.hid (undone_any hU ((hok.below hbl HBW.out).keep (fun _ _ => rfl) fun b hb => Nat.lt_of_lt_of_le hb (Nat.le_trans HBW.out HBB.out)) gk gk' hud)
    have HR := Lib.hid hr'
    have HBL := Lib.hid hbl
    have HLV := Lib.hid hlv
    have p0 := cell_blk (i := 0) (hlv.blk HX4.out (by decide)) rfl
    rw [show w3.heap.size = w2.heap.size + 1 from by have := HZ.out; omega] at p0
    have o0 : W.cell? ⟨O, 0, none⟩ = some (.int .i64 s.edit.do_) := cell_blk hO rfl
    have o1 : W.cell? ⟨O, 1, none⟩ = some (.int .i64 s.edit.at_) := cell_blk hO rfl
    have o2 : W.cell? ⟨O, 2, none⟩ = some (.int .i64 s.edit.to_) := cell_blk hO rfl
    have o3 : W.cell? ⟨O, 3, none⟩ = some (.int .i64 s.edit.before) := cell_blk hO rfl
    have o4 : W.cell? ⟨O, 4, none⟩ = some (.string s.edit.name) := cell_blk hO rfl
    have o5 : W.cell? ⟨O, 5, none⟩ = some (.string s.edit.value) := cell_blk hO rfl
    have o6 : W.cell? ⟨O, 6, none⟩ = some (.int .i64 s.edit.node.kind) := cell_blk hO rfl
    have o7 : W.cell? ⟨O, 7, none⟩ = some (.string s.edit.node.name) := cell_blk hO rfl
    have o8 : W.cell? ⟨O, 8, none⟩ = some (.slice Aa na ca) := cell_blk hO rfl
    have o9 : W.cell? ⟨O, 9, none⟩ = some (.string s.edit.node.text) := cell_blk hO rfl
    have o10 : W.cell? ⟨O, 10, none⟩ = some (.int .i64 s.edit.node.parent) := cell_blk hO rfl
    have o11 : W.cell? ⟨O, 11, none⟩ = some (.slice Ak nk ck) := cell_blk hO rfl
    have o12 : W.cell? ⟨O, 12, none⟩ = some (.bool s.had) := cell_blk hO rfl
    have o13 : W.cell? ⟨O, 13, none⟩ = some (.string s.was) := cell_blk hO rfl
    have o14 : W.cell? ⟨O, 14, none⟩ = some (.int .i64 s.parent) := cell_blk hO rfl
    have o15 : W.cell? ⟨O, 15, none⟩ = some (.int .i64 s.place) := cell_blk hO rfl
    unfold stpCells at HUN
    unfold stpCells
    clear hO hr hU hbl hlv hud hr' gk gk' hok hs hVi
    gi_wp2
    refine ⟨trivial, CallsIn.inRound lp (callsIn_wide.2 (HUN.out.mono ?_))⟩
    rintro e W2 ⟨rfl, ⟨hb2, hl2⟩, g3, c4, ps3, hu3⟩
    have HL2 := Lib.hid hl2
    have HB2 := Lib.hid hb2
    have HU3 := Lib.hid hu3
    clear hl2 hb2 hu3
    gi_wp2
    exact ⟨HL2.out.keeps, g3, c4, ps3, lk', HR.out, HU3.out, HBL.out.trans (HB2.out.mono HBB.out), HLV.out.trans HL2.out⟩
  case done =>
    intro D W hD hI hK
    obtain ⟨g2, c3, ps2, lk, hr, hU, hbl, hlv⟩ := hI
    have hrl : runU l (ss.reverse.take m) = some l' := by rw [HMN.out, List.take_of_length_le (by simp)]; exact HL'.out
    rw [hrl] at hr
    obtain rfl := Option.some.inj hr
    have HCK := Lib.hid (check_dom (some ⟨g2, 0, none⟩) l'.length c3 l' q W W.heap.size hU.ed.sl (Nat.le_refl _))
    rw [check_of HG'.out] at HCK
    have HUU := Lib.hid hU
    have HBL := Lib.hid hbl
    have HLV := Lib.hid hlv
    have HD := Lib.hid hD
    have HKD := Lib.hid hK
    have p0 := cell_blk (i := 0) (hlv.blk HX4.out (by decide)) rfl
    rw [show w3.heap.size = w2.heap.size + 1 from by have := HZ.out; omega] at p0
    have e0 := hU.c0
    have e1 := hU.c1
    clear hU hbl hlv hD hK
    go_upto_region 13 with (go_at_call 19; refine HCK.out.mono ?_; rintro e' W8 ⟨rfl, hb8⟩)
    have hU8 := HUU.out.next hb8
    have h4 : W8.heap[w3.heap.size]? = _ := (hb8.block _ (Array.getElem?_eq_some_iff.1 (HLV.out.blk HX4.out (by decide))).1).trans (HLV.out.blk HX4.out (by decide))
    have hr8 : W8.heap[w.heap.size + 1]? = _ := (hb8.block _ (Array.getElem?_eq_some_iff.1 (HLV.out.blk HXR5.out (by decide))).1).trans (HLV.out.blk HXR5.out (by decide))
    have he8 : W8.heap[w.heap.size + 1 + 1]? = _ := (hb8.block _ (Array.getElem?_eq_some_iff.1 (HLV.out.blk HXE5.out (by decide))).1).trans (HLV.out.blk HXE5.out (by decide))
    have hD8 : W8.heap[D]? = _ := (hb8.block _ (Array.getElem?_eq_some_iff.1 HKD.out).1).trans HKD.out
    have p8 := cell_blk (i := 0) h4 rfl
    rw [show w3.heap.size = w2.heap.size + 1 from by have := HZ.out; omega] at p8
    have e0 := hU8.c0
    have e1 := hU8.c1
    have r0 := cell_blk (i := 0) hr8 rfl
    have r1 := cell_blk (i := 1) hr8 rfl
    have q0 := free_blk (i := 0) hr8
    have q1 := free_blk (i := 1) hr8
    have r2 := cell_blk (i := 0) he8 rfl
    have q2 := free_blk (i := 0) he8
    have HB8 := Lib.hid (HBL.out.trans (hb8.mono HBL.out.size))
    have HU8 := Lib.hid hU8
    have HR8 := Lib.hid hr8
    have HE8 := Lib.hid he8
    have HD8 := Lib.hid hD8
    clear hU8 h4 hr8 he8 hD8 hb8 p0 HCK
    go_wp2_with fail
    obtain ⟨W9, hW9⟩ : ∃ W9, W9 = ((W8.setCell ⟨w.heap.size + 1, 0, none⟩ (.slice (some ⟨g2, 0, none⟩) l'.length c3)).setCell ⟨w.heap.size + 1, 1, none⟩ (.bool q)).setCell ⟨w.heap.size + 1 + 1, 0, none⟩ (.int .i64 0) := ⟨_, rfl⟩
    rw [← hW9]
    have hb9 : Below w.heap.size w W9 := by rw [hW9]; exact ((HB8.out.setCell (p := ⟨w.heap.size + 1, 0, none⟩) (by show w.heap.size ≤ w.heap.size + 1; omega) _).setCell (p := ⟨w.heap.size + 1, 1, none⟩) (by show w.heap.size ≤ w.heap.size + 1; omega) _).setCell (p := ⟨w.heap.size + 1 + 1, 0, none⟩) (by show w.heap.size ≤ w.heap.size + 1 + 1; omega) _
    have hDne : w.heap.size + 4 ≤ D := by have := HD.out; have := HZ.out; have := HB5.out; have h1 := HZ0.out; have := HSZ.out; omega
    have hD9 : W9.heap[D]? = some (.deferred (some [])) := by
      rw [hW9]
      exact (heap_setCell_other _ _ _ _ (by show D ≠ w.heap.size + 1 + 1; omega)).trans ((heap_setCell_other _ _ _ _ (by show D ≠ w.heap.size + 1; omega)).trans ((heap_setCell_other _ _ _ _ (by show D ≠ w.heap.size + 1; omega)).trans HD8.out))
    have hr9 : W9.heap[w.heap.size + 1]? = some (.cells #[.slice (some ⟨g2, 0, none⟩) l'.length c3, .bool q] 24 (0, 0)) := by
      rw [hW9]
      exact (heap_setCell_other _ _ _ _ (by show w.heap.size + 1 ≠ w.heap.size + 1 + 1; omega)).trans (set_blk (set_blk HR8.out _) _)
    have he9 : W9.heap[w.heap.size + 1 + 1]? = some (.cells #[.int .i64 0] 28 (0, 0)) := by
      rw [hW9]
      refine set_blk ((heap_setCell_other _ _ _ _ (by show w.heap.size + 1 + 1 ≠ w.heap.size + 1; omega)).trans ((heap_setCell_other _ _ _ _ (by show w.heap.size + 1 + 1 ≠ w.heap.size + 1; omega)).trans HE8.out)) _
    have hed9 : Ed W9 base (.slice (some ⟨g2, 0, none⟩) l'.length c3) l' ps2 := by
      have a1 := HU8.out.ed.other HR8.out (by decide) (by decide) (by decide) (grown_set W8 (w.heap.size + 1) 0 (.slice (some ⟨g2, 0, none⟩) l'.length c3))
      have a2 := a1.other (set_blk HR8.out _) (by decide) (by decide) (by decide) (grown_set _ (w.heap.size + 1) 1 (.bool q))
      have hk := (heap_setCell_other ((W8.setCell ⟨w.heap.size + 1, 0, none⟩ (.slice (some ⟨g2, 0, none⟩) l'.length c3))) ⟨w.heap.size + 1, 1, none⟩ (w.heap.size + 1 + 1) (.bool q) (by show w.heap.size + 1 + 1 ≠ w.heap.size + 1; omega)).trans ((heap_setCell_other W8 ⟨w.heap.size + 1, 0, none⟩ _ (.slice (some ⟨g2, 0, none⟩) l'.length c3) (by show w.heap.size + 1 + 1 ≠ w.heap.size + 1; omega)).trans HE8.out)
      have a3 := a2.other hk (by decide) (by decide) (by decide) (grown_set _ (w.heap.size + 1 + 1) 0 (.int .i64 0))
      rw [hW9]
      exact a3
    have hDl := (Array.getElem?_eq_some_iff.1 hD9).1
    refine ⟨by simp, .inl ⟨_, _, rfl, run_takeDeferred hD9, ?_⟩⟩
    obtain ⟨WF, hWF⟩ : ∃ WF, WF = W9.putObj D (.deferred none) := ⟨_, rfl⟩
    rw [← hWF]
    have hrF : WF.heap[w.heap.size + 1]? = some (.cells #[.slice (some ⟨g2, 0, none⟩) l'.length c3, .bool q] 24 (0, 0)) := by rw [hWF]; exact (World.putObj_heap_other (by omega)).trans hr9
    have heF : WF.heap[w.heap.size + 1 + 1]? = some (.cells #[.int .i64 0] 28 (0, 0)) := by rw [hWF]; exact (World.putObj_heap_other (by omega)).trans he9
    have s0 := cell_blk (i := 0) (v := .slice (some ⟨g2, 0, none⟩) l'.length c3) hrF rfl
    have s1 := cell_blk (i := 1) (v := .bool q) hrF rfl
    have s2 := cell_blk (i := 0) (v := .int .i64 0) heF rfl
    have hbF : Below w.heap.size w WF := by rw [hWF]; exact hb9.grown (grownBy_putObj' W9 D (.deferred none)) hb9.size (fun k e => by cases e; omega)
    have hsl : Sl tNd WF (rg w.heap.size WF.heap.size) (some ⟨g2, 0, none⟩) l'.length c3 l' := by
      refine Sl.rgd (a := base) (b := W9.heap.size) (hed9.slr.keep fun p _ => ?_) HBB.out (by rw [hWF]; simp)
      rw [hWF]
      by_cases hp : p.block = D
      · have e1 : (W9.putObj D (.deferred none)).heap[D]? = some (.deferred none) := World.putObj_heap_same hDl
        unfold World.cell?
        rw [hp, e1, hD9]
      · exact World.cell?_of_block (a := p) (World.putObj_heap_other hp)
    exact ⟨.tuple #[.agg #[.slice (some ⟨g2, 0, none⟩) l'.length c3, .bool q], .int .i64 0], by simp [results, Tryz.results9, go_sem, s0, s1, s2], hbF, _, _, rfl, hsl⟩
end Go.Proofs.YtfeighclpaijoaaGreatDoor
