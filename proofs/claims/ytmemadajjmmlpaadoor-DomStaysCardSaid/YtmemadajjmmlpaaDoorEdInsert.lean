/-
Rows of ints that the call owns: one is put in, one is taken out.
-/
import Derived.Test.YtmemadajjmmlpaaDoorEdLib
namespace Go.Proofs.YtmemadajjmmlpaaDoor
open Go.RowKit Go.Cl
attribute [local go_sem ↓] Go.wp_at_zero Go.wp_at_succ

theorem ints_row {w : World} {D : Nat → Prop} : ∀ ys : List Int, (∀ x ∈ ys, (Lit.int .i64 x).wf = true) → Row (tInt .i64) w D ys (ys.map (Value.int .i64)) := by
  intro ys
  induction ys with
  | nil => intro _; exact Row.nil
  | cons y ys ih => intro hy; exact ⟨[.int .i64 y], _, rfl, ⟨rfl, hy y (by simp)⟩, ih (fun x hx => hy x (by simp [hx]))⟩
theorem row_ints {w : World} {D : Nat → Prop} : ∀ (ys : List Int) (cells : List Value), Row (tInt .i64) w D ys cells → cells = ys.map (Value.int .i64) ∧ ∀ x ∈ ys, (Lit.int .i64 x).wf = true := by
  intro ys
  induction ys with
  | nil => intro cells h; exact ⟨h, fun x hx => by cases hx⟩
  | cons y ys ih =>
    intro cells h
    obtain ⟨c1, c2, rfl, ⟨rfl, hw⟩, h2⟩ := h
    obtain ⟨e, h3⟩ := ih c2 h2
    refine ⟨by rw [e]; rfl, fun x hx => ?_⟩
    rcases List.mem_cons.1 hx with rfl | hx
    · exact hw
    · exact h3 x hx
/-- What an owned row of ints is. -/
theorem own_ints {w : World} {base g n c : Nat} {xs : List Int} (h : OwnF (tInt .i64) w base 3 (.slice (some ⟨g, 0, none⟩) n c) n xs) :
    ∃ cur, w.heap[g]? = some (.cells cur 3 (0, 0)) ∧ base ≤ g ∧ n = xs.length ∧ n ≤ c ∧ c ≤ maxLen ∧ cur.size = c ∧ cur.toList.take n = xs.map (Value.int .i64) ∧ ∀ x ∈ xs, (Lit.int .i64 x).wf = true := by
  have hln := Own.len h (by decide)
  obtain ⟨cells, h1, h2⟩ := h
  obtain ⟨e, hwf⟩ := row_ints _ _ h2
  rcases h1.2 with ⟨hv, h0⟩ | ⟨g', cap, cur, hv, hb, hh, hnc, hcm, hsz, htk⟩
  · cases hv
  · simp only [Value.slice.injEq, Option.some.injEq, Addr.mk.injEq, and_true, true_and] at hv
    obtain ⟨rfl, rfl⟩ := hv
    have hs1 : (tInt .i64).size = 1 := rfl
    rw [hs1, Nat.mul_one] at hsz htk
    exact ⟨cur, hh, hb, hln, hnc, hcm, hsz, by rw [htk, e], hwf⟩
theorem own_of {W : World} {base g m c : Nat} {ys : List Int} {cur : Array Value} (hh : W.heap[g]? = some (.cells cur 3 (0, 0))) (hb : base ≤ g) (hm : m = ys.length) (hc : m ≤ c) (hcm : c ≤ maxLen) (hsz : cur.size = c) (htk : cur.toList.take m = ys.map (Value.int .i64)) (hwf : ∀ x ∈ ys, (Lit.int .i64 x).wf = true) :
    OwnF (tInt .i64) W base 3 (.slice (some ⟨g, 0, none⟩) m c) m ys := by
  have hs1 : (tInt .i64).size = 1 := rfl
  refine ⟨ys.map (Value.int .i64), ⟨by rw [List.length_map, hs1, Nat.mul_one, hm], .inr ⟨g, c, cur, rfl, hb, hh, hc, hcm, by rw [hs1, Nat.mul_one]; exact hsz, by rw [hs1, Nat.mul_one]; exact htk⟩⟩, ints_row ys hwf⟩
theorem ints_at {w : World} {g n : Nat} {cur : Array Value} {xs : List Int} (hh : w.heap[g]? = some (.cells cur 3 (0, 0))) (htk : cur.toList.take n = xs.map (Value.int .i64)) : ∀ (j : Nat) v, (xs.map (Value.int .i64))[j]? = some v → w.cell? ⟨g, 0 + j, none⟩ = some v := fun j v hv => by
  rw [Nat.zero_add]
  rw [← htk, List.getElem?_take] at hv
  split at hv
  · exact cell_blk hh (by simpa using hv)
  · cases hv

/-- slices.Delete of one int. -/
theorem deleteI (g n c i : Nat) (xs : List Int) (w : World) (base : Nat) (hown : OwnF (tInt .i64) w base 3 (.slice (some ⟨g, 0, none⟩) n c) n xs) (hi : i < n) :
    Calls Tryd.prog 127 #[.slice (some ⟨g, 0, none⟩) n c, .int .i64 (i : Int), .int .i64 ((i : Int) + 1)] w fun e w' => e = .returned (.slice (some ⟨g, 0, none⟩) (n - 1) c) ∧ OwnF (tInt .i64) w' base 3 (.slice (some ⟨g, 0, none⟩) (n - 1) c) (n - 1) (xs.eraseIdx i) ∧ w.grownBy w' (some g) := by
  obtain ⟨cur, hh, hb, hn, hnc, hcm, hsz, htk, hwf⟩ := own_ints hown
  have hm := hcm
  unfold maxLen at hm
  have hcell := ints_at hh htk
  have H := Tryd.slices_Delete_int_cells g 0 n c i (i + 1) xs w (by omega) hnc (by omega) (by omega) (by omega) (fun j hj => hcell j _ (by simp [List.getD, hj])) (fun j _ => free_blk hh)
  rw [show ((i + 1 : Nat) : Int) = (i : Int) + 1 from by omega] at H
  refine H.mono ?_
  rintro e w' ⟨rfl, q, rfl⟩
  rw [show i + 1 - i = 1 from by omega]
  have hlen : (((xs.take n).take i ++ (xs.take n).drop (i + 1) ++ List.replicate 1 0).map (Value.int .i64)).length = n := by
    simp
    omega
  obtain ⟨cur', e1, e2, e3⟩ := heap_setCells (((xs.take n).take i ++ (xs.take n).drop (i + 1) ++ List.replicate 1 0).map (Value.int .i64)) 0 (w.drewN q) cur hh (by rw [hlen]; omega)
  have hxn : xs.take n = xs := List.take_of_length_le (by omega)
  refine ⟨rfl, own_of e1 hb (by rw [List.length_eraseIdx]; split <;> omega) (by omega) hcm (by rw [e2, hsz]) ?_ (fun x hx => hwf x (List.mem_of_mem_eraseIdx hx)), ?_⟩
  · rw [e3, List.take_zero, List.nil_append, List.take_append_of_le_length (by rw [hlen]; omega), hxn, List.take_drop_erase, List.map_append, List.take_append_of_le_length (by rw [List.length_map, List.length_eraseIdx]; split <;> omega), List.take_of_length_le (by rw [List.length_map, List.length_eraseIdx]; split <;> omega)]
  · exact grownBy.trans' (b := w.drewN q) ⟨rfl, rfl, rfl, Nat.le_refl _, fun _ _ _ => rfl⟩ (grown_setCells g _ _ _)

theorem grown_dN (w : World) (q : Nat) (row : Option Nat) : w.grownBy (w.drewN q) row := ⟨rfl, rfl, rfl, Nat.le_refl _, fun _ _ _ => rfl⟩
theorem grown_drew (w : World) (row : Option Nat) : w.grownBy w.drew row := ⟨rfl, rfl, rfl, Nat.le_refl _, fun _ _ _ => rfl⟩
theorem grown_al (w : World) (o : Obj) (row : Option Nat) : w.grownBy (w.alloc o) row := ⟨rfl, rfl, rfl, by simp, fun k hk _ => Lib.alloc_old w o k hk⟩
/-- Stores into a block that is new leave what was there. -/
theorem grown_new {a b : World} {g : Nat} (hg : a.heap.size ≤ g) (row : Option Nat) (h : a.grownBy b row) (vs : List Value) (o : Nat) : a.grownBy (b.setCells g o vs) row := by
  have k := grown_setCells g vs o b
  exact ⟨k.os.trans h.os, k.tape.trans h.tape, k.output.trans h.output, Nat.le_trans h.size k.size, fun i hi hn => (k.block i (Nat.lt_of_lt_of_le hi h.size) (fun e => by simp at e; omega)).trans (h.block i hi hn)⟩
theorem grown_row {a b : World} {g : Nat} (h : a.grownBy b (some g)) (vs : List Value) (o : Nat) : a.grownBy (b.setCells g o vs) (some g) := grownBy.trans' h (grown_setCells g vs o b)

/-- slices.Insert of one int: the row's own block, or a new one. -/
theorem insertI (A : Option Addr) (n c i : Nat) (xs : List Int) (y : Int) (vb : Nat) (w : World) (base : Nat) (hown : OwnF (tInt .i64) w base 3 (.slice A n c) n xs) (hi : i ≤ n) (hn : n ≤ 100000) (hbase : base ≤ w.heap.size) (hy : (Lit.int .i64 y).wf = true)
    (hv : w.heap[vb]? = some (.cells #[.int .i64 y] 3 (0, 0))) (hne : (Value.slice A n c).ownBlock ≠ some vb) :
    Calls Tryd.prog 97 #[.slice A n c, .int .i64 (i : Int), .slice (some ⟨vb, 0, none⟩) 1 1] w fun e w' => ∃ v', e = .returned v' ∧ OwnF (tInt .i64) w' base 3 v' (n + 1) (xs.take i ++ y :: xs.drop i) ∧ w.grownBy w' (Value.slice A n c).ownBlock ∧ (v'.ownBlock = (Value.slice A n c).ownBlock ∨ v'.ownBlock = some w.heap.size) := by
  have hvs : ∀ (j : Nat) v, ([.int .i64 y] : List Value)[j]? = some v → w.cell? ⟨vb, 0 + j, none⟩ = some v := fun j v hj => by
    rw [Nat.zero_add]
    exact cell_blk hv (by simpa using hj)
  have ht3 : Tryd.laysInsert_ren.t 3 = 3 := rfl
  have hzc : ∀ k, (Builtin.zeroCells (Value.int .i64 0).cells k).size = k := fun k => by simp [Builtin.zeroCells, Value.cells]
  have h1v : ∀ v ∈ ([.int .i64 y] : List Value), v.oneCell' = true := fun v hv => by
    obtain rfl : v = .int .i64 y := by simpa using hv
    rfl
  have hwf' : ∀ {zs : List Int}, (∀ x ∈ zs, (Lit.int .i64 x).wf = true) → ∀ x ∈ zs.take i ++ y :: zs.drop i, (Lit.int .i64 x).wf = true := fun h x hx => by
    rw [List.perm_middle.mem_iff, List.take_append_drop] at hx
    rcases List.mem_cons.1 hx with rfl | hx
    · exact hy
    · exact h x hx
  rcases A with _ | ⟨g, go, gs⟩
  · have hx0 : n = 0 ∧ c = 0 ∧ xs = [] := by
      have hln := Own.len hown (by decide)
      obtain ⟨_, h1, _⟩ := hown
      rcases h1.2 with ⟨hv', h0⟩ | ⟨g', cap, cur, hv', _⟩
      · injection hv' with _ e1 e2
        exact ⟨e1, e2, List.eq_nil_of_length_eq_zero (by omega)⟩
      · injection hv' with e1
        cases e1
    obtain ⟨rfl, rfl, rfl⟩ := hx0
    obtain rfl : i = 0 := by omega
    refine (Any2.slices_Insert_int_end_grow Tryd.laysInsert none 0 0 vb 0 1 1 [] [.int .i64 y] w (by omega) (by omega) (by omega) (by omega) rfl rfl (fun _ => rfl) (fun a e => by cases e) hvs h1v).mono ?_
    rintro e w' ⟨rfl, rfl⟩
    refine ⟨_, rfl, ?_, grownBy.trans' (grown_drew w _) (grown_al _ _ _), Or.inr rfl⟩
    rw [ht3]
    have hge := grownCap_ge w (0 + 1) 0 3
    have hle := grownCap_le_maxLen w (0 + 1) 0 3 (by unfold maxLen; omega)
    refine own_of (heap_alloc_new _ _) hbase (by simp) hge hle ?_ ?_ (hwf' (by simp))
    · rw [Array.size_append, hzc]
      exact Nat.add_sub_cancel' hge
    · simp
  · obtain ⟨rfl, rfl⟩ : go = 0 ∧ gs = none := by
      obtain ⟨_, h1, _⟩ := hown
      rcases h1.2 with ⟨hv', _⟩ | ⟨g', cap, cur, hv', _⟩
      · cases hv'
      · injection hv' with e1
        simp at e1
        exact ⟨e1.2.1, e1.2.2⟩
    obtain ⟨cur, hh, hb, hln, hnc, hcm, hsz, htk, hwf⟩ := own_ints hown
    have hm := hcm
    unfold maxLen at hm
    have hcell := ints_at hh htk
    have hgl := (Array.getElem?_eq_some_iff.1 hh).1
    have hlm : (xs.map (Value.int .i64)).length = n := by rw [List.length_map]; omega
    have h1c : ∀ v ∈ xs.map (Value.int .i64), v.oneCell' = true := fun v hv => by
      obtain ⟨z, _, rfl⟩ := List.mem_map.1 hv
      rfl
    have hlen : n + 1 = (xs.take i ++ y :: xs.drop i).length := by
      rw [List.perm_middle.length_eq, List.take_append_drop, List.length_cons]
      omega
    have hclen : cur.toList.length = c := by simpa using hsz
    by_cases hin : i < n
    · by_cases hroom : n + 1 ≤ c
      · refine (Any2.slices_Insert_int_shift Tryd.laysInsert g 0 n c i vb 0 1 1 (xs.map (Value.int .i64)) [.int .i64 y] w hin (by omega) hroom (by omega) (fun e => hne (by rw [e]; rfl)) hlm rfl hcell
          (fun j hj => by rw [Nat.zero_add, cell_blk hh (Array.getElem?_eq_getElem (by omega))]; rfl) (fun j _ => free_blk hh) hvs h1c h1v 3 3 1 c (by simp [World.shape?, hv]) (by simp [World.shape?, hh, hsz]) (by omega) (free_blk hv) (free_blk hv)).mono ?_
        rintro e w' ⟨rfl, rfl⟩
        have hdl : ((xs.map (Value.int .i64)).drop i).length = n - i := by rw [List.length_drop, hlm]
        obtain ⟨cur1, a1, a2, a3⟩ := heap_setCells ((xs.map (Value.int .i64)).drop i) (0 + (i + 1)) w.drew cur hh (by rw [hdl]; omega)
        obtain ⟨cur2, b1, b2, b3⟩ := heap_setCells [.int .i64 y] (0 + i) _ cur1 a1 (by simp; omega)
        refine ⟨_, rfl, own_of b1 hb hlen hroom hcm (by omega) ?_ (hwf' hwf), grown_row (grown_row (grown_drew w _) _ _) _ _, Or.inl rfl⟩
        rw [b3, a3, Nat.zero_add, Nat.zero_add]
        have l1 : (cur.toList.take (i + 1)).length = i + 1 := by rw [List.length_take]; omega
        have t1 : (cur.toList.take (i + 1) ++ (xs.map (Value.int .i64)).drop i ++ cur.toList.drop (i + 1 + ((xs.map (Value.int .i64)).drop i).length)).take i = (xs.map (Value.int .i64)).take i := by
          rw [List.append_assoc, List.take_append_of_le_length (by omega), List.take_take, ← htk, List.take_take, Nat.min_eq_left (by omega), Nat.min_eq_left (by omega)]
        have t2 : (cur.toList.take (i + 1) ++ (xs.map (Value.int .i64)).drop i ++ cur.toList.drop (i + 1 + ((xs.map (Value.int .i64)).drop i).length)).drop (i + ([Value.int .i64 y] : List Value).length) = (xs.map (Value.int .i64)).drop i ++ cur.toList.drop (i + 1 + ((xs.map (Value.int .i64)).drop i).length) := by
          rw [List.append_assoc]
          exact List.drop_left' l1
        rw [t1, t2, List.append_assoc, List.map_append, List.map_cons, List.map_take, List.map_drop]
        have l2 : ((xs.map (Value.int .i64)).take i).length = i := by rw [List.length_take]; omega
        rw [List.take_append, l2, List.take_of_length_le (by omega)]
        congr 1
        rw [show n + 1 - i = (n - i) + 1 from by omega]
        show Value.int .i64 y :: List.take (n - i) ((xs.map (Value.int .i64)).drop i ++ _) = _
        rw [List.take_append_of_le_length (by omega), List.take_of_length_le (by omega)]
      · refine (Any2.slices_Insert_int_grow Tryd.laysInsert g 0 n c i vb 0 1 1 (xs.map (Value.int .i64)) [.int .i64 y] w hin (by omega) hnc (by omega) (by omega) hlm rfl hcell hvs h1c h1v).mono ?_
        rintro e w' ⟨rfl, rfl⟩
        have hge := grownCap_ge w (n + 1) c 3
        have hle := grownCap_le_maxLen w (n + 1) c 3 (by unfold maxLen; omega)
        have hdl : ((xs.map (Value.int .i64)).drop i).length = n - i := by rw [List.length_drop, hlm]
        have hci : (xs.map (Value.int .i64)).take i = (xs.take i).map (Value.int .i64) := by rw [List.map_take]
        rw [ht3]
        generalize hG : grownCap w (n + 1) c 3 = G at *
        generalize hr : (((xs.map (Value.int .i64)).take i).toArray ++ Builtin.zeroCells (Value.int .i64 0).cells (n + 1 - i) ++ Builtin.zeroCells (Value.int .i64 0).cells (G - (n + 1))) = cur0
        have hs0 : cur0.size = G := by
          rw [← hr, Array.size_append, Array.size_append, hzc, hzc]
          simp
          omega
        have t0 : cur0.toList.take i = (xs.map (Value.int .i64)).take i := by
          rw [← hr, Array.toList_append, Array.toList_append, List.append_assoc, List.take_append_of_le_length (by simp; omega)]
          show List.take i (List.take i _) = _
          rw [List.take_take, Nat.min_self]
        have hh0 : ((w.alloc (.cells cur0 3)).drew).heap[w.heap.size]? = some (.cells cur0 3 (0, 0)) := heap_alloc_new w _
        obtain ⟨cur1, a1, a2, a3⟩ := heap_setCells [.int .i64 y] i _ cur0 hh0 (by simp; omega)
        obtain ⟨cur2, b1, b2, b3⟩ := heap_setCells ((xs.map (Value.int .i64)).drop i) (i + 1) (((w.alloc (.cells cur0 3)).drew.setCells w.heap.size i [.int .i64 y]).drew) cur1 a1 (by rw [hdl]; omega)
        refine ⟨_, rfl, own_of b1 hbase hlen hge hle (by omega) ?_ (hwf' hwf), ?_, Or.inr rfl⟩
        · rw [b3, a3]
          have l2 : (cur0.toList.take i).length = i := by rw [List.length_take]; simp; omega
          have t1 : (cur0.toList.take i ++ [Value.int .i64 y] ++ cur0.toList.drop (i + ([Value.int .i64 y] : List Value).length)).take (i + 1) = (xs.map (Value.int .i64)).take i ++ [.int .i64 y] := by
            rw [List.take_append_of_le_length (by rw [List.length_append, l2]; simp), List.take_of_length_le (by rw [List.length_append, l2]; simp), t0]
          rw [t1, List.append_assoc, List.append_assoc, List.map_append, List.map_cons, List.map_take, List.map_drop]
          have l3 : ((xs.map (Value.int .i64)).take i).length = i := by rw [List.length_take]; omega
          rw [List.take_append, l3, List.take_of_length_le (by omega)]
          congr 1
          rw [show n + 1 - i = (n - i) + 1 from by omega]
          show Value.int .i64 y :: List.take (n - i) ((xs.map (Value.int .i64)).drop i ++ _) = _
          rw [List.take_append_of_le_length (by omega), List.take_of_length_le (by omega)]
        · exact grown_new (Nat.le_refl _) _ (grownBy.trans' (grown_new (Nat.le_refl _) _ (grownBy.trans' (grown_al w _ _) (grown_drew _ _)) _ _) (grown_drew _ _)) _ _
    · obtain rfl : i = n := by omega
      have hins : (xs.take i ++ y :: xs.drop i).map (Value.int .i64) = xs.map (Value.int .i64) ++ [.int .i64 y] := by
        rw [List.take_of_length_le (by omega), List.drop_of_length_le (by omega), List.map_append]
        rfl
      by_cases hroom : i + 1 ≤ c
      · refine (Any2.slices_Insert_int_end_room Tryd.laysInsert g 0 i c vb 0 1 1 [.int .i64 y] w (by omega) hroom (by omega) rfl
          (fun j hj => by rw [Nat.zero_add, cell_blk hh (Array.getElem?_eq_getElem (by omega))]; rfl) (fun j _ => free_blk hh) hvs h1v).mono ?_
        rintro e w' ⟨rfl, rfl⟩
        obtain ⟨cur1, a1, a2, a3⟩ := heap_setCells [.int .i64 y] (0 + i) w cur hh (by simp; omega)
        refine ⟨_, rfl, own_of a1 hb hlen hroom hcm (by omega) ?_ (hwf' hwf), grown_setCells g _ _ w, Or.inl rfl⟩
        rw [a3, hins, Nat.zero_add, List.take_append_of_le_length (by rw [List.length_append, List.length_take]; simp; omega), List.take_of_length_le (by rw [List.length_append, List.length_take]; simp; omega), htk]
      · refine (Any2.slices_Insert_int_end_grow Tryd.laysInsert (some ⟨g, 0, none⟩) i c vb 0 1 1 (xs.map (Value.int .i64)) [.int .i64 y] w (by omega) hnc (by omega) (by omega) hlm rfl (fun e => by cases e) (fun a e j v hj => by
          obtain rfl := Option.some.inj e
          have := hcell j v hj
          rw [Nat.zero_add] at this
          rw [show (⟨g, 0, none⟩ : Addr).add j = ⟨g, j, none⟩ from by unfold Addr.add; split <;> simp_all]
          exact this) hvs h1v).mono ?_
        rintro e w' ⟨rfl, rfl⟩
        rw [ht3]
        have hge := grownCap_ge w (i + 1) c 3
        have hle := grownCap_le_maxLen w (i + 1) c 3 (by unfold maxLen; omega)
        refine ⟨_, rfl, own_of (heap_alloc_new _ _) hbase hlen hge hle ?_ ?_ (hwf' hwf), grownBy.trans' (grown_drew w _) (grown_al _ _ _), Or.inr rfl⟩
        · rw [Array.size_append, hzc]
          have l5 : (xs.map (Value.int .i64) ++ [Value.int .i64 y]).toArray.size = i + 1 := by simp; omega
          rw [l5]
          exact Nat.add_sub_cancel' hge
        · rw [hins, Array.toList_append]
          show ((xs.map (Value.int .i64) ++ [Value.int .i64 y]) ++ _).take (i + 1) = _
          rw [List.take_append_of_le_length (by rw [List.length_append, hlm]; simp), List.take_of_length_le (by rw [List.length_append, hlm]; simp)]
end Go.Proofs.YtmemadajjmmlpaaDoor
