/-
The walk of record.Touched.
-/
import Derived.Test.YtfeighclpaijoaaGreatDoorRecNodes
import Derived.Test.YtfeighclpaijoaaGreatDoorSortInts
namespace Go.Proofs.YtfeighclpaijoaaGreatDoor
open Go.RowKit Go.Cl
attribute [local go_sem ↓] Go.wp_at_zero Go.wp_at_succ

theorem upTo_sorted (d : Array Int) (m : Nat) (h : ∀ i j, i < j → j < m → d[i]! ≤ d[j]!) : (Lib.compactUpTo d m).Pairwise (· ≤ ·) := by
  unfold Lib.compactUpTo
  rw [List.pairwise_map]
  refine List.Pairwise.imp_of_mem ?_ (List.Pairwise.filter _ List.pairwise_lt_range)
  intro i j _ hj hij
  exact h i j hij (by
    have h1 := (List.mem_filter.1 hj).1
    exact List.mem_range.1 h1)
theorem compact_sorted {zs : List Int} (h : zs.Pairwise (· ≤ ·)) : (Lib.compact zs).Pairwise (· ≤ ·) := by
  refine upTo_sorted zs.toArray zs.length fun i j hij hj => ?_
  have h1 := List.pairwise_iff_getElem.1 h i j (by omega) hj hij
  rw [getElem!_pos zs.toArray i (by simp; omega), getElem!_pos zs.toArray j (by simpa using hj)]
  simpa using h1
theorem sort_sorted (zs : List Int) : (zs.mergeSort fun x y => decide (x ≤ y)).Pairwise (· ≤ ·) := by
  have h := List.pairwise_mergeSort (le := fun x y : Int => decide (x ≤ y)) (fun a b c h1 h2 => by
    simp only [decide_eq_true_eq] at h1 h2 ⊢
    omega) (fun a b => by
    simp only [Bool.or_eq_true, decide_eq_true_eq]
    omega) zs
  exact h.imp fun h => by simpa using h
theorem drop_neg : ∀ {zs : List Int}, zs.Pairwise (· ≤ ·) → zs.drop (zs.countP (· < 0)) = zs.filter fun x => decide (0 ≤ x) := by
  intro zs
  induction zs with
  | nil => intro _; rfl
  | cons z r ih =>
    intro h
    obtain ⟨h1, h2⟩ := List.pairwise_cons.1 h
    by_cases hz : z < 0
    · rw [List.countP_cons_of_pos (by simpa using hz), List.drop_succ_cons, ih h2, List.filter_cons_of_neg (by simpa using hz)]
    · have h0 : (z :: r).countP (· < 0) = 0 := List.countP_eq_zero.2 fun x hx => by
        rcases List.mem_cons.1 hx with rfl | hx
        · simpa using hz
        · have := h1 x hx
          simp
          omega
      have h3 : ∀ x ∈ z :: r, decide (0 ≤ x) = true := fun x hx => by
        rcases List.mem_cons.1 hx with rfl | hx
        · simp; omega
        · have := h1 x hx
          simp
          omega
      rw [h0, List.drop_zero, List.filter_eq_self.2 h3]
/-- What Touched tells. -/
def touD (ss : List Stp) : List Int := (Lib.compact ((ss.flatMap nodesD).mergeSort fun x y => decide (x ≤ y))).filter fun x => decide (0 ≤ x)
theorem mem_touD {ss : List Stp} {n : Int} (h0 : 0 ≤ n) : n ∈ touD ss ↔ ∃ s ∈ ss, n ∈ nodesD s := by
  unfold touD
  rw [List.mem_filter, compact_mem, sort_mem, List.mem_flatMap]
  simp [h0]
theorem touD_len (ss : List Stp) : (touD ss).length ≤ (ss.flatMap nodesD).length := by
  unfold touD
  refine Nat.le_trans (List.length_filter_le _ _) (Nat.le_trans (compact_len _) ?_)
  rw [List.length_mergeSort]
  exact Nat.le_refl _
theorem nodesD_len (s : Stp) : (nodesD s).length ≤ 2 := by
  unfold nodesD
  repeat' split
  all_goals simp
theorem nodes_len : ∀ ss : List Stp, (ss.flatMap nodesD).length ≤ 2 * ss.length := by
  intro ss
  induction ss with
  | nil => simp
  | cons s r ih =>
    have := nodesD_len s
    simp only [List.flatMap_cons, List.length_append, List.length_cons]
    omega
theorem nodes_snoc {ss : List Stp} {k : Nat} {s : Stp} (h : ss[k]? = some s) : (ss.take (k + 1)).flatMap nodesD = (ss.take k).flatMap nodesD ++ nodesD s := by
  rw [take_snoc h, List.flatMap_append]
  simp
theorem nodes_wf {w : World} {D : Nat → Prop} {s : Stp} {Aa : Option Addr} {na ca : Nat} {Ak : Option Addr} {nk ck : Nat} (h : StpOk w D s Aa na ca Ak nk ck) : ∀ x ∈ nodesD s, (Lit.int .i64 x).wf = true := by
  intro x hx
  unfold nodesD at hx
  have h1 := h.edit.at_
  have h2 := h.edit.to_
  have h3 := h.parent
  have h4 := h.place
  split at hx
  · rw [List.mem_singleton.1 hx]; exact h1
  split at hx
  · rcases List.mem_cons.1 hx with rfl | hx
    · exact h1
    · rw [List.mem_singleton.1 hx]; exact h2
  split at hx
  · rcases List.mem_cons.1 hx with rfl | hx
    · exact h1
    · rw [List.mem_singleton.1 hx]; exact h3
  split at hx
  · rw [List.mem_singleton.1 hx]; exact h4
  · cases hx
theorem sl_blk {w : World} {k : Nat} {xs : List Int} {e : TypeId} (h : w.heap[k]? = some (.cells (xs.map (Value.int .i64)).toArray e (0, 0))) (hwf : ∀ x ∈ xs, (Lit.int .i64 x).wf = true) (hl : xs.length ≤ 1000) : Sl (tInt .i64) w (lt w.heap.size) (some ⟨k, 0, none⟩) xs.length xs.length xs := by
  refine ⟨rfl, Nat.le_refl _, by show xs.length * 8 ≤ _; omega, by unfold maxLen; omega, by simp, fun _ => ⟨k, 0, xs.map (Value.int .i64), rfl, (Array.getElem?_eq_some_iff.1 h).1, ints_row xs hwf, fun j u hu => ?_⟩⟩
  rw [Nat.zero_add]
  exact cell_blk h (by simpa using hu)
/-! ### slices.Sort of no list at all -/
theorem len64_zero (w : World) : Calls Tryz.prog 70 #[.int .u64 0] w fun e w' => e = .returned (.int .i64 0) ∧ w = w' := by
  go_enter Tryz.func70, Tryz.ntmps70
  go_wp2_with fail
  go_ret
  refine ⟨?_, rfl⟩
  show Ending.returned (.int .i64 (wrap64 (wrap64 (Lib.len8 0)))) = _
  rw [show wrap64 (wrap64 (Lib.len8 0)) = 0 from by kernel_rfl]
theorem len_zero (w : World) : Calls Tryz.prog 44 #[.int .u64 0] w fun e w' => e = .returned (.int .i64 0) ∧ w = w' := by
  have H := Lib.hid (fun w => len64_zero w)
  go_enter Tryz.func44, Tryz.ntmps44
  go_wp2_with (go_at_call 70; refine (H.out _).mono ?_; rintro e w1 ⟨rfl, rfl⟩)
  go_ret
  exact ⟨rfl, rfl⟩
theorem insertion_nil (w : World) : Calls Tryz.prog 61 #[.slice none 0 0, .int .i64 0, .int .i64 0] w fun e w' => e = .returned (.tuple #[]) ∧ w = w' := by
  go_enter Tryz.func61, Tryz.ntmps61
  go_upto_region 1 with fail
  go_loopw [6] (fun i wr => i = .int .i64 1 ∧ w = wr) (fun _ _ => 0)
  case atStart => exact ⟨rfl, rfl⟩
  case round =>
    obtain ⟨rfl, rfl⟩ := hrel
    go_wp2_with fail
    go_end0
    exact ⟨rfl, rfl⟩
theorem pdq_nil (w : World) : Calls Tryz.prog 43 #[.slice none 0 0, .int .i64 0, .int .i64 0, .int .i64 0] w fun e w' => e = .returned (.tuple #[]) ∧ w = w' := by
  have H := Lib.hid (fun w => insertion_nil w)
  go_enter Tryz.func43, Tryz.ntmps43
  go_upto_region 2 with fail
  go_loopw [1, 2] (fun a b wr => a = .int .i64 0 ∧ b = .int .i64 0 ∧ w = wr) (fun _ _ _ => 0)
  case atStart => exact ⟨rfl, rfl, rfl⟩
  case round =>
    obtain ⟨rfl, rfl, rfl⟩ := hrel
    go_wp2_with (go_at_call 61; refine (H.out _).mono ?_; rintro e w1 ⟨rfl, rfl⟩)
    refine bodyPost_ret (results_none rfl _ _ _) rfl ?_
    exact ⟨rfl, rfl⟩
theorem sort_nil (w : World) : Calls Tryz.prog 24 #[.slice none 0 0] w fun e w' => e = .returned (.tuple #[]) ∧ w = w' := by
  have H1 := Lib.hid (fun w => len_zero w)
  have H2 := Lib.hid (fun w => pdq_nil w)
  go_enter Tryz.func24, Tryz.ntmps24
  go_upto_region 1 with fail
  go_wp2_with (first | (go_at_call 44; refine (H1.out _).mono ?_; rintro e w1 ⟨rfl, rfl⟩) | (go_at_call 43; refine (H2.out _).mono ?_; rintro e w1 ⟨rfl, rfl⟩))
  go_end0
  exact ⟨rfl, rfl⟩
/-- At the head of a round. -/
def TouRel (w : World) (ss : List Stp) (k : Nat) (v : Value) (wr : World) : Prop :=
  Below w.heap.size w wr ∧ OwnF (tInt .i64) wr w.heap.size 3 v ((ss.take k).flatMap nodesD).length ((ss.take k).flatMap nodesD)
/-- What Touched leaves behind. -/
def TouPost (w : World) (ss : List Stp) (e' : Ending) (w' : World) : Prop :=
  Below w.heap.size w w' ∧ ∃ A c, e' = .returned (.slice A (touD ss).length c) ∧ Sl (tInt .i64) w' (rg w.heap.size w'.heap.size) A (touD ss).length c (touD ss)
theorem sl_drop {w : World} {D : Nat → Prop} {g c i : Nat} {xs : List Int} (h : Sl (tInt .i64) w D (some ⟨g, 0, none⟩) xs.length c xs) (hi : i ≤ xs.length) : Sl (tInt .i64) w D (some ⟨g, i, none⟩) (xs.drop i).length (c - i) (xs.drop i) := by
  refine ⟨rfl, by rw [List.length_drop]; have := h.hc; omega, ?_, Nat.le_trans (Nat.sub_le _ _) h.hm, by simp, fun h0 => ?_⟩
  · rw [List.length_drop]
    have h1 := h.hb
    have h2 : (tInt .i64).bytes = 8 := rfl
    rw [h2] at h1 ⊢
    omega
  · rw [List.length_drop] at h0
    obtain ⟨b, o, cells, e, hb, hr, hc⟩ := h.at_ (by omega)
    simp only [Option.some.injEq, Addr.mk.injEq, and_true] at e
    obtain ⟨rfl, rfl⟩ := e
    refine ⟨g, i, cells.drop i, rfl, hb, ?_, fun j u hu => ?_⟩
    · have h3 := hr.drop i
      rw [show i * (tInt .i64).size = i from Nat.mul_one i] at h3
      exact h3
    · rw [List.getElem?_drop] at hu
      have h4 := hc (i + j) u hu
      rw [Nat.zero_add] at h4
      exact h4
set_option maxRecDepth 100000 in
set_option maxHeartbeats 8000000 in
theorem touched_any (A2 : Option Addr) (m c2 : Nat) (ss : List Stp) (w : World) (B : Nat) (hs : Sl tStp w (lt B) A2 m c2 ss) (hB : B ≤ w.heap.size) (hm : ss.length ≤ 40) (hkind : ∀ s ∈ ss, 1 ≤ s.edit.do_ ∧ s.edit.do_ ≤ 6) :
    Calls Tryz.prog 12 #[.slice A2 m c2] w (TouPost w ss) := by
  have HSS := Lib.hid hs
  have HBW : Hid (B ≤ w.heap.size) := hB
  have HK := Lib.hid hkind
  have HMN := Lib.hid hs.hn
  have HM40 := Lib.hid hm
  have hm40 : m ≤ 40 := by have := hs.hn; omega
  have hmc := hs.hc
  have H0 : Hid (TouRel w ss 0 (.slice none 0 0) w) := ⟨Below.refl _ _, by simpa using OwnF.nil w w.heap.size 3⟩
  clear hs hB hkind hm
  go_enter Tryz.func12, Tryz.ntmps12
  go_upto_region 3 with fail
  go_loopw [3, 10] (fun v s wr => ∃ k : Nat, k ≤ m ∧ s = .int .i64 (k : Int) ∧ Hid (TouRel w ss k v wr)) (fun _ s _ => m - (intOf s).toNat)
  case atStart => exact ⟨0, Nat.zero_le _, rfl, H0⟩
  case round =>
    obtain ⟨k, hk, rfl, HR⟩ := hrel
    obtain ⟨hbr, hown⟩ := HR.out
    by_cases hlt : k < m
    · obtain ⟨s, hs⟩ : ∃ s, ss[k]? = some s := get_some (by have := HMN.out; omega)
      obtain ⟨b, o, Aa, na, ca, Ak, nk, ck, rfl, hbb, hok, hce⟩ := stp_get (HSS.out.below hbr HBW.out) hs
      have f0 : wr.cell? ⟨b, o + k * 16, none⟩ = some (.int .i64 s.edit.do_) := hce 0 _ rfl
      have f1 : wr.cell? ⟨b, o + k * 16 + 1, none⟩ = some (.int .i64 s.edit.at_) := by rw [Nat.add_assoc]; exact hce 1 _ rfl
      have f2 : wr.cell? ⟨b, o + k * 16 + 2, none⟩ = some (.int .i64 s.edit.to_) := by rw [Nat.add_assoc]; exact hce 2 _ rfl
      have f3 : wr.cell? ⟨b, o + k * 16 + 3, none⟩ = some (.int .i64 s.edit.before) := by rw [Nat.add_assoc]; exact hce 3 _ rfl
      have f4 : wr.cell? ⟨b, o + k * 16 + 4, none⟩ = some (.string s.edit.name) := by rw [Nat.add_assoc]; exact hce 4 _ rfl
      have f5 : wr.cell? ⟨b, o + k * 16 + 5, none⟩ = some (.string s.edit.value) := by rw [Nat.add_assoc]; exact hce 5 _ rfl
      have f6 : wr.cell? ⟨b, o + k * 16 + 6, none⟩ = some (.int .i64 s.edit.node.kind) := by rw [Nat.add_assoc]; exact hce 6 _ rfl
      have f7 : wr.cell? ⟨b, o + k * 16 + 7, none⟩ = some (.string s.edit.node.name) := by rw [Nat.add_assoc]; exact hce 7 _ rfl
      have f8 : wr.cell? ⟨b, o + k * 16 + 8, none⟩ = some (.slice Aa na ca) := by rw [Nat.add_assoc]; exact hce 8 _ rfl
      have f9 : wr.cell? ⟨b, o + k * 16 + 9, none⟩ = some (.string s.edit.node.text) := by rw [Nat.add_assoc]; exact hce 9 _ rfl
      have f10 : wr.cell? ⟨b, o + k * 16 + 10, none⟩ = some (.int .i64 s.edit.node.parent) := by rw [Nat.add_assoc]; exact hce 10 _ rfl
      have f11 : wr.cell? ⟨b, o + k * 16 + 11, none⟩ = some (.slice Ak nk ck) := by rw [Nat.add_assoc]; exact hce 11 _ rfl
      have f12 : wr.cell? ⟨b, o + k * 16 + 12, none⟩ = some (.bool s.had) := by rw [Nat.add_assoc]; exact hce 12 _ rfl
      have f13 : wr.cell? ⟨b, o + k * 16 + 13, none⟩ = some (.string s.was) := by rw [Nat.add_assoc]; exact hce 13 _ rfl
      have f14 : wr.cell? ⟨b, o + k * 16 + 14, none⟩ = some (.int .i64 s.parent) := by rw [Nat.add_assoc]; exact hce 14 _ rfl
      have f15 : wr.cell? ⟨b, o + k * 16 + 15, none⟩ = some (.int .i64 s.place) := by rw [Nat.add_assoc]; exact hce 15 _ rfl
      have i1 : (0 : Int) ≤ (k : Int) := by omega
      have i2 : (k : Int) < (m : Int) := by omega
      obtain ⟨w5, hw5⟩ : ∃ w5, w5 = wr.alloc (.cells #[.int .i64 s.edit.do_, .int .i64 s.edit.at_, .int .i64 s.edit.to_, .int .i64 s.edit.before, .string s.edit.name, .string s.edit.value, .int .i64 s.edit.node.kind, .string s.edit.node.name, .slice Aa na ca, .string s.edit.node.text, .int .i64 s.edit.node.parent, .slice Ak nk ck, .bool s.had, .string s.was, .int .i64 s.parent, .int .i64 s.place] 48) := ⟨_, rfl⟩
      have hx5 : w5.heap[wr.heap.size]? = some (.cells #[.int .i64 s.edit.do_, .int .i64 s.edit.at_, .int .i64 s.edit.to_, .int .i64 s.edit.before, .string s.edit.name, .string s.edit.value, .int .i64 s.edit.node.kind, .string s.edit.node.name, .slice Aa na ca, .string s.edit.node.text, .int .i64 s.edit.node.parent, .slice Ak nk ck, .bool s.had, .string s.was, .int .i64 s.parent, .int .i64 s.place] 48 (0, 0)) := by rw [hw5]; exact heap_alloc_new wr _
      have hb5 : Below wr.heap.size wr w5 := by rw [hw5]; exact (Below.refl _ _).alloc (Nat.le_refl _) _
      have g0 := cell_blk (i := 0) hx5 rfl
      have g1 := cell_blk (i := 1) hx5 rfl
      have g2 := cell_blk (i := 2) hx5 rfl
      have g3 := cell_blk (i := 3) hx5 rfl
      have g4 := cell_blk (i := 4) hx5 rfl
      have g5 := cell_blk (i := 5) hx5 rfl
      have g6 := cell_blk (i := 6) hx5 rfl
      have g7 := cell_blk (i := 7) hx5 rfl
      have g8 := cell_blk (i := 8) hx5 rfl
      have g9 := cell_blk (i := 9) hx5 rfl
      have g10 := cell_blk (i := 10) hx5 rfl
      have g11 := cell_blk (i := 11) hx5 rfl
      have g12 := cell_blk (i := 12) hx5 rfl
      have g13 := cell_blk (i := 13) hx5 rfl
      have g14 := cell_blk (i := 14) hx5 rfl
      have g15 := cell_blk (i := 15) hx5 rfl
      have hkd := HK.out s (List.mem_of_getElem? hs)
      have HN := Lib.hid (nodes_any w5 s Aa na ca Ak nk ck hkd.1 hkd.2)
      unfold stpCells at HN
      have HWF := Lib.hid (nodes_wf hok)
      have HSN := Lib.hid (nodes_snoc hs)
      have HNL := Lib.hid (nodesD_len s)
      have HOW := Lib.hid (hown.below hb5 (Nat.le_refl _))
      have HB5 := Lib.hid (hbr.trans (hb5.mono hbr.size))
      have hlen : ((ss.take k).flatMap nodesD).length ≤ 80 := by
        have h1 := nodes_len (ss.take k)
        rw [List.length_take] at h1
        have := HM40.out
        omega
      obtain ⟨xs, hxs⟩ : ∃ xs, (ss.take k).flatMap nodesD = xs := ⟨_, rfl⟩
      obtain ⟨ys, hys⟩ : ∃ ys, nodesD s = ys := ⟨_, rfl⟩
      rw [hxs] at hlen HOW HSN
      rw [hys] at HN HWF HSN HNL
      clear hce hok hx5 hb5 hbr hown hkd hs HR hxs hys
      go_upto_region 5 with fail
      rw [← hw5]
      clear hw5 f0 f1 f2 f3 f4 f5 f6 f7 f8 f9 f10 f11 f12 f13 f14 f15
      have hl2 := HNL.out
      go_wp2_with (first
        | (go_at_call 23; refine HN.out.mono ?_; rintro e' w6 ⟨hb6, kb, hkb, rfl, hx6⟩; have HB6 := Lib.hid (HB5.out.trans (hb6.mono HB5.out.size)); have HO6 := Lib.hid (HOW.out.below hb6 (Nat.le_refl _)); have HS6 := Lib.hid (sl_blk hx6 HWF.out (by omega)); clear hb6 hkb hx6)
        | (at_builtin; refine wpList_apf _ (flatInt _) rfl (.tmp 14) (.tmp 16) 38 rfl elemI (v := u3) rfl HO6.out rfl HS6.out (by omega) (by omega) HB6.out.size ?_; intro v7 w7 hown7 hg7 hb7 _))
      have HX : Hid (TouRel w ss (k + 1) v7 w7) := ⟨HB6.out.trans hb7, by rw [HSN.out, List.length_append]; exact hown7⟩
      clear hown7 hg7 hb7
      go_wp2_with fail
      go_roundw
      case rel => exact ⟨k + 1, by omega, by go_num, HX⟩
      case measure => simp [intOf]; omega
    · obtain rfl : k = m := by omega
      have hall : ss.take k = ss := List.take_of_length_le (by have := HMN.out; omega)
      rw [hall] at hown
      have HBR := Lib.hid hbr
      have hfew : (ss.flatMap nodesD).length ≤ 80 := by
        have h1 := nodes_len ss
        have := HM40.out
        omega
      have hlen := Own.len hown (by decide)
      obtain ⟨L, hL⟩ : ∃ L, ss.flatMap nodesD = L := ⟨_, rfl⟩
      have HT := Lib.hid (show touD ss = (Lib.compact (L.mergeSort fun x y => decide (x ≤ y))).drop ((Lib.compact (L.mergeSort fun x y => decide (x ≤ y))).countP (· < 0)) from by
        rw [drop_neg (compact_sorted (sort_sorted L)), ← hL]
        rfl)
      rw [hL] at hown hfew hlen
      clear hall hL HR hbr HSS HK
      obtain ⟨cells, h1, h2⟩ := id hown
      rcases h1.2 with ⟨hv, h0⟩ | ⟨g, cap, cur, hv, hgb, hh, hnc, hcm, hsz, htk⟩
      · subst hv
        have hl0 : L = [] := by
          cases L with
          | nil => rfl
          | cons x r => exact absurd h0 (by simp)
        subst hl0
        have HE := Lib.hid (show touD ss = [] from by
          rw [HT.out]
          have e1 : (([] : List Int).mergeSort fun x y => decide (x ≤ y)) = [] := by simp
          rw [e1]
          rfl)
        have H1 := Lib.hid (fun w => sort_nil w)
        have H2 := Lib.hid (fun w => Tryz.slices_Compact_int_empty none 0 w)
        have H3 := Lib.hid (fun w => Tryz.slices_BinarySearch_int_empty none 0 0 w)
        clear h1 h2 hown HT h0
        go_wp2_with (first
          | (go_at_call 24; refine (H1.out _).mono ?_; rintro e w1 ⟨rfl, rfl⟩)
          | (go_at_call 25; refine (H2.out _).mono ?_; rintro e w1 ⟨rfl, rfl⟩)
          | (go_at_call 26; refine (H3.out _).mono ?_; rintro e w1 ⟨rfl, rfl⟩))
        go_ret
        refine ⟨HBR.out, none, 0, by rw [HE.out]; rfl, ?_⟩
        rw [HE.out]
        exact Sl.nil
      · subst hv
        have HSO := Lib.hid (sortI g L.length cap L wr w.heap.size hown (by omega))
        obtain ⟨S, hS⟩ : ∃ S, (L.mergeSort fun x y => decide (x ≤ y)) = S := ⟨_, rfl⟩
        have hSl : S.length = L.length := by rw [← hS]; exact List.length_mergeSort L
        have HSS2 := Lib.hid (show S.Pairwise (· ≤ ·) from by rw [← hS]; exact sort_sorted L)
        rw [hS] at HSO HT
        have HGB : Hid (w.heap.size ≤ g) := hgb
        clear hown h1 h2 hh hsz htk hgb hS
        go_upto_region 8 with (go_at_call 24; refine HSO.out.mono ?_; rintro e w6 ⟨rfl, hown6, hg6⟩)
        have HB6 := Lib.hid (HBR.out.grown hg6 HBR.out.size (fun k e => by cases e; exact HGB.out))
        have HCO := Lib.hid (compactI g L.length cap S w6 w.heap.size hown6)
        obtain ⟨C, hC⟩ : ∃ C, Lib.compact S = C := ⟨_, rfl⟩
        have hCl : C.length ≤ 80 := by rw [← hC]; have := compact_len S; omega
        have HCS := Lib.hid (show C.Pairwise (· ≤ ·) from by rw [← hC]; exact compact_sorted HSS2.out)
        rw [hC] at HCO HT
        clear hown6 hg6 hC HSO
        go_upto_region 9 with (go_at_call 25; refine HCO.out.mono ?_; rintro e w7 ⟨rfl, hown7, hg7⟩)
        have HB7 := Lib.hid (HB6.out.grown hg7 HB6.out.size (fun k e => by cases e; exact HGB.out))
        have HO7 := Lib.hid hown7
        have hcc : C.length ≤ cap := by
          obtain ⟨_, _, _, _, h3, _⟩ := own_ints hown7
          exact h3
        have HBS := Lib.hid (Tryz.slices_BinarySearch_int g 0 C.length cap C 0 w7 (Nat.le_refl _) (by omega) (fun j hj => by
          obtain ⟨cur7, h1, _, _, _, _, _, h2, _⟩ := own_ints hown7
          refine ints_at h1 h2 j _ ?_
          rw [List.getElem?_map, List.getElem?_eq_getElem hj, List.getD_eq_getElem?_getD, List.getElem?_eq_getElem hj]
          rfl) (by rw [List.take_length]; exact HCS.out))
        rw [List.take_length] at HBS
        have hi := List.countP_le_length (p := fun x : Int => decide (x < 0)) (l := C)
        obtain ⟨i, hie⟩ : ∃ i, C.countP (fun x : Int => decide (x < 0)) = i := ⟨_, rfl⟩
        rw [hie] at HBS HT hi
        clear hown7 hg7 HCO hie
        have j1 : (0 : Int) ≤ (i : Int) := by omega
        have j2 : (i : Int) ≤ (C.length : Int) := by omega
        have j3 : (C.length : Int) ≤ (cap : Int) := by omega
        go_wp2_with (go_at_call 26; refine HBS.out.mono ?_; rintro e w8 ⟨rfl, qd, rfl⟩)
        · go_ret
          have he : touD ss = [] := by rw [HT.out]; exact List.drop_of_length_le (by omega)
          have e0 : C.length - i = 0 := by omega
          refine ⟨HB7.out.trans ⟨rfl, rfl, rfl, Nat.le_refl _, fun _ _ => rfl⟩, some ⟨g, 0, none⟩, 0, by rw [he, e0]; rfl, ?_⟩
          rw [he]
          exact ⟨rfl, Nat.le_refl _, by simp, by simp, by simp, fun h => absurd h (by simp)⟩
        · go_ret
          have hl : (touD ss).length = C.length - i := by rw [HT.out, List.length_drop]
          refine ⟨HB7.out.trans ⟨rfl, rfl, rfl, Nat.le_refl _, fun _ _ => rfl⟩, some ⟨g, i, none⟩, cap - i, by rw [hl]; rfl, ?_⟩
          rw [HT.out]
          obtain ⟨A1, c1, e1, hsl⟩ := OwnF.slr HO7.out (by decide) (by show C.length * 8 ≤ _; omega)
          injection e1 with e1 _ e3
          subst e1 e3
          exact sl_drop (hsl.keep fun _ _ => rfl) hi
end Go.Proofs.YtfeighclpaijoaaGreatDoor
