/-
The walk of package apart: Fold.
-/
import Derived.Test.YthkeciodjomakaaDoorFoldW
import Derived.Test.YthkeciodjomakaaDoorRegionG
import Derived.Test.YthkeciodjomakaaDoorBothLaw
import Derived.Deep.DeepCutAuto
namespace Go.Proofs.YthkeciodjomakaaDoor
open Go.RowKit Go.Cl
attribute [local go_sem ↓] Go.wp_at_zero Go.wp_at_succ

theorem settle_short {st : List Edt} (h : st.length ≤ 1) : settle st = st := by
  match st, h with
  | [], _ => rw [settle]; intro b a r e; cases e
  | [x], _ => rw [settle]; intro b a r e; cases e
theorem settle_no {a b : Edt} {r : List Edt} (h : joinD a b = none) : settle (b :: a :: r) = b :: a :: r := by rw [settle, h]
theorem settle_go {a b : Edt} {r ys : List Edt} (h : joinD a b = some ys) (hy : ys.length ≤ 1) : settle (b :: a :: r) = settle (ys.reverse ++ r) := by
  match ys, h, hy with
  | [], h, _ => rw [settle, h]; rfl
  | [x], h, _ => rw [settle, h]; rfl
/-- What joined leaves behind, its lists as one. -/
theorem jn_cases {w w' : World} {D : Nat → Prop} {a b : Edt} {e' : Ending} {Ab : Option Addr} {nb cb : Nat} {Aj : Option Addr} {nj cj : Nat} (h : JnPost w a b (edtCells b Ab nb cb Aj nj cj) e' w') (hb : EdtOk w D b Ab nb cb Aj nj cj) (hD : ∀ k, D k → k < w.heap.size) (hd : (Lit.int .i64 b.do_).wf = true) :
    Below w.heap.size w w' ∧ ((joinD a b = none ∧ e' = .returned (.tuple #[.slice none 0 0, .bool false])) ∨ ∃ A' m c' ys, joinD a b = some ys ∧ m = ys.length ∧ m ≤ 1 ∧ e' = .returned (.tuple #[.slice A' m c', .bool true]) ∧ Sl tEdt w' (fun k => D k ∨ (w.heap.size ≤ k ∧ k < w'.heap.size)) A' m c' ys) := by
  obtain ⟨hbl, h⟩ := h
  refine ⟨hbl, ?_⟩
  rcases h with ⟨h1, h2⟩ | ⟨h1, h2⟩ | ⟨h1, g, h2, hg, hbx⟩
  · exact Or.inl ⟨h1, h2⟩
  · exact Or.inr ⟨none, 0, 0, [], h1, rfl, by omega, h2, Sl.nil⟩
  · refine Or.inr ⟨some ⟨g, 0, none⟩, 1, 1, [b], h1, rfl, Nat.le_refl _, h2, ?_⟩
    have hgl := (Array.getElem?_eq_some_iff.1 hbx).1
    have hk : ∀ p : Addr, D p.block → w'.cell? p = w.cell? p := fun p hp => hbl.cell (hD _ hp)
    refine ⟨rfl, Nat.le_refl _, by show 1 * 160 ≤ _; omega, by unfold maxLen; omega, (fun e => by cases e), fun _ => ⟨g, 0, (edtCells b Ab nb cb Aj nj cj).toList, rfl, Or.inr ⟨hg, hgl⟩, ⟨(edtCells b Ab nb cb Aj nj cj).toList, [], by simp, ?_, rfl⟩, fun j u hu => ?_⟩⟩
    · refine edt_rep ⟨⟨(hb.node.attrs.keep hk).more fun _ h => Or.inl h, (hb.node.kids.keep hk).more fun _ h => Or.inl h, hb.node.kind, hb.node.name, hb.node.text, hb.node.parent⟩, hb.at_, hb.to_, hb.before, hb.name, hb.value⟩ hd
    · rw [Nat.zero_add]
      exact cell_blk hbx (by simpa using hu)
/-- The list that Fold builds. -/
def FOwn (w : World) (v : Value) (xs : List Edt) (wr : World) : Prop :=
  ∃ D, Own tEdt wr w.heap.size 30 D v xs.length xs ∧ ∀ b, D b → w.heap.size ≤ b ∧ b < wr.heap.size ∧ some b ≠ v.ownBlock
theorem FOwn.next {w wr wr' : World} {v : Value} {xs : List Edt} (h : FOwn w v xs wr) (hb : Below wr.heap.size wr wr') : FOwn w v xs wr' := by
  obtain ⟨D, ho, hD⟩ := h
  exact ⟨D, Own.below ho hb (fun k hk => (Own.lt ho k hk).2) (fun b hb' => (hD b hb').2.1), fun b hb' => ⟨(hD b hb').1, Nat.lt_of_lt_of_le (hD b hb').2.1 hb.size, (hD b hb').2.2⟩⟩
theorem FOwn.sl {w wr : World} {A : Option Addr} {n c : Nat} {xs : List Edt} (h : FOwn w (.slice A n c) xs wr) (hf : xs.length ≤ 1000) : Sl tEdt wr (rg w.heap.size wr.heap.size) A xs.length c xs := by
  obtain ⟨D, ho, hD⟩ := h
  have hn : n = xs.length := by
    obtain ⟨_, h3, _⟩ := ho
    rcases h3.2 with ⟨hv, h4⟩ | ⟨g', cap, cur, hv, _⟩
    · injection hv with _ hv _
      omega
    · injection hv
  subst hn
  refine (Own.sl ho (by decide) (by show xs.length * 160 ≤ _; omega)).more fun k hk => ?_
  rcases hk with hk | hk
  · exact ⟨(hD k hk).1, (hD k hk).2.1⟩
  · exact hk
/-- What Fold leaves behind. -/
def FoPost (w : World) (l : List Nd) (es : List Edt) (e' : Ending) (w' : World) : Prop :=
  Below w.heap.size w w' ∧ (((alR l es).2.2 ≠ 0 ∧ e' = .returned (.tuple #[.slice none 0 0, .int .i64 (alR l es).2.2])) ∨
    ((alR l es).2.2 = 0 ∧ ∃ A' c', e' = .returned (.tuple #[.slice A' (foldR es).length c', .int .i64 0]) ∧ Sl tEdt w' (rg w.heap.size w'.heap.size) A' (foldR es).length c' (foldR es).reverse))
/-- At the head of a round. -/
def FoRel (w : World) (es st : List Edt) (k : Nat) (v : Value) (wr : World) : Prop :=
  st = (es.take k).foldl (fun st e => settle (e :: st)) [] ∧ st.length ≤ k ∧ FOwn w v st.reverse wr ∧ Below w.heap.size w wr
theorem edt_do {w : World} {D : Nat → Prop} {A : Option Addr} {n c : Nat} {es : List Edt} (h : Sl tEdt w D A n c es) {i : Nat} {e : Edt} (he : es[i]? = some e) : (Lit.int .i64 e.do_).wf = true := by
  obtain ⟨_, _, _, _, _, hr, _⟩ := h.get he
  obtain ⟨c1, c2, _, ⟨_, h1⟩, _⟩ := hr
  exact h1
/-- Ahead of the append: the list that is there, and the edit whose lists are new. -/
theorem ap_step {w wr w7 : World} {s3 : Nat} {v : Value} {xs : List Edt} {e : Edt} {Aa : Option Addr} {ca : Nat} {Ak : Option Addr} {ck : Nat} {A5 : Option Addr} {c5 : Nat} {A6 : Option Addr} {c6 : Nat} {na nk : Nat} {W3 : World} {D3 : Nat → Prop} (h : FOwn w v xs wr) (hb : Below w.heap.size w wr) (h7 : Below wr.heap.size wr w7) (hs : wr.heap.size + 1 ≤ s3) (hok : EdtOk W3 D3 e Aa na ca Ak nk ck)
    (hfew : (Lit.int .i64 e.do_).wf = true) (h1 : OwnF tDA w7 s3 74 (.slice A5 e.node.attrs.length c5) e.node.attrs.length e.node.attrs) (h2 : OwnF (tInt .i64) w7 s3 3 (.slice A6 e.node.kids.length c6) e.node.kids.length e.node.kids) :
    ∃ D', Own tEdt (w7.alloc (.cells (edtCells e A5 e.node.attrs.length c5 A6 e.node.kids.length c6) 30)) w.heap.size 30 D' v xs.length xs ∧ (∀ b, D' b → b < (w7.alloc (.cells (edtCells e A5 e.node.attrs.length c5 A6 e.node.kids.length c6) 30)).heap.size ∧ some b ≠ v.ownBlock) ∧
      tEdt.rep (w7.alloc (.cells (edtCells e A5 e.node.attrs.length c5 A6 e.node.kids.length c6) 30)) D' e (edtCells e A5 e.node.attrs.length c5 A6 e.node.kids.length c6).toList ∧ ∀ b, D' b → w.heap.size ≤ b := by
  obtain ⟨D, ho, hD⟩ := h
  have ho7 := Own.below ho h7 (fun k hk => (Own.lt ho k hk).2) (fun b hb' => (hD b hb').2.1)
  have hlow : ∀ k, v.ownBlock = some k → k < wr.heap.size := fun k hk => (Own.lt ho k hk).2
  refine ⟨fun b => D b ∨ (s3 ≤ b ∧ b < w7.heap.size), ?_, fun b hb' => ?_, ?_, fun b hb' => ?_⟩
  · exact Own.alloc (ho7.more fun _ h => Or.inl h) _ fun b hb' => by
      rcases hb' with hb' | hb'
      · exact Nat.lt_of_lt_of_le (hD b hb').2.1 h7.size
      · exact hb'.2
  · rcases hb' with hb' | hb'
    · exact ⟨by rw [World.size_alloc]; have := (hD b hb').2.1; have := h7.size; omega, (hD b hb').2.2⟩
    · refine ⟨by rw [World.size_alloc]; omega, fun e' => ?_⟩
      have := hlow b e'.symm
      omega
  · obtain ⟨X1, d1, e1, s1⟩ := OwnF.slr h1 (by decide) (by have h := hok.node.attrs.hb; rw [hok.node.attrs.hn] at h; exact h)
    obtain ⟨X2, d2, e2, s2⟩ := OwnF.slr h2 (by decide) (by have h := hok.node.kids.hb; rw [hok.node.kids.hn] at h; exact h)
    injection e1 with e1 _ e3
    injection e2 with e2 _ e4
    subst e1 e2 e3 e4
    have hk : ∀ p : Addr, (s3 ≤ p.block ∧ p.block < w7.heap.size) → (w7.alloc (.cells (edtCells e A5 e.node.attrs.length c5 A6 e.node.kids.length c6) 30)).cell? p = w7.cell? p := fun p hp => World.cell?_alloc_lt w7 _ p hp.2
    exact edt_rep ⟨⟨(s1.keep hk).more fun _ h => Or.inr h, (s2.keep hk).more fun _ h => Or.inr h, hok.node.kind, hok.node.name, hok.node.text, hok.node.parent⟩, hok.at_, hok.to_, hok.before, hok.name, hok.value⟩ hfew
  · rcases hb' with hb' | hb'
    · exact (hD b hb').1
    · have := hb.size; omega
/-- Inside a round: what has been settled so far. -/
def FInn (w : World) (e : Edt) (st : List Edt) (k : Nat) (st2 : List Edt) (v : Value) (wr : World) : Prop :=
  settle st2 = settle (e :: st) ∧ st2.length ≤ k + 1 ∧ FOwn w v st2.reverse wr ∧ Below w.heap.size w wr
theorem Own.cap {α : Type} {T : Ty α} {w : World} {base n m c : Nat} {e : TypeId} {D : Nat → Prop} {A : Option Addr} {xs : List α} (h : Own T w base e D (.slice A m c) n xs) : n ≤ c := by
  obtain ⟨_, h3, _⟩ := h
  rcases h3.2 with ⟨hv, h0⟩ | ⟨g, cap, cur, hv, _, _, hnc, _⟩
  · injection hv with _ _ h2
    omega
  · injection hv with _ _ h2
    omega
/-- One edit of an own list. -/
theorem own_edt {w : World} {base g n c : Nat} {D : Nat → Prop} {xs : List Edt} (h : Own tEdt w base 30 D (.slice (some ⟨g, 0, none⟩) n c) n xs) {i : Nat} {e : Edt} (he : xs[i]? = some e) :
    ∃ Aa na ca Ak nk ck, EdtOk w D e Aa na ca Ak nk ck ∧ (Lit.int .i64 e.do_).wf = true ∧ ∀ (j : Nat) u, (edtCells e Aa na ca Ak nk ck)[j]? = some u → w.cell? ⟨g, i * 12 + j, none⟩ = some u := by
  have hi := (List.getElem?_eq_some_iff.1 he).1
  have hn := Own.len h (by decide)
  obtain ⟨g', cells, eg, _, _, hr, hc, _⟩ := Own.block h (by omega)
  simp only [Option.some.injEq, Addr.mk.injEq, and_true] at eg
  subst eg
  obtain ⟨cs, hrep, hj⟩ := hr.at_ he
  obtain ⟨d1, d2, _, ⟨_, hd⟩, _⟩ := id hrep
  obtain ⟨Aa, na, ca, Ak, nk, ck, rfl, hok⟩ := edt_cells hrep
  exact ⟨Aa, na, ca, Ak, nk, ck, hok, hd, fun j u hu => hc _ _ (hj j u (by simpa using hu))⟩
theorem edt_drew {w : World} {D : Nat → Prop} {e : Edt} {Aa : Option Addr} {na ca : Nat} {Ak : Option Addr} {nk ck : Nat} (h : EdtOk w D e Aa na ca Ak nk ck) : EdtOk w.drew D e Aa na ca Ak nk ck :=
  ⟨⟨h.node.attrs.drew, h.node.kids.drew, h.node.kind, h.node.name, h.node.text, h.node.parent⟩, h.at_, h.to_, h.before, h.name, h.value⟩
set_option maxRecDepth 100000 in
set_option maxHeartbeats 8000000 in
theorem fold_any (A : Option Addr) (n c : Nat) (l : List Nd) (q : Bool) (A2 : Option Addr) (m c2 : Nat) (es : List Edt) (w : World) (B : Nat) (hl : Sl tNd w (lt B) A n c l) (hes : Sl tEdt w (lt B) A2 m c2 es) (hB : B ≤ w.heap.size) :
    Calls Tryd.prog 18 #[.agg #[.slice A n c, .bool q], .slice A2 m c2] w (FoPost w l es) := by
  obtain ⟨w0, hw0⟩ : ∃ w0, w0 = w.alloc (.cells #[.slice A n c, .bool q] 24) := ⟨_, rfl⟩
  have hbx : w0.heap[w.heap.size]? = some (.cells #[.slice A n c, .bool q] 24 (0, 0)) := by rw [hw0]; exact heap_alloc_new w _
  have x0 : w0.cell? ⟨w.heap.size, 0, none⟩ = some (.slice A n c) := cell_blk hbx rfl
  have x1 : w0.cell? ⟨w.heap.size, 1, none⟩ = some (.bool q) := cell_blk hbx rfl
  have hb0 : Below w.heap.size w w0 := by rw [hw0]; exact (Below.refl _ _).alloc (Nat.le_refl _) _
  have HB0 := Lib.hid hb0
  have HES := Lib.hid hes
  have HM := Lib.hid hes.hn
  have hmc := hes.hc
  have HBW : Hid (B ≤ w.heap.size) := hB
  have HAL := Lib.hid (all_any A n c l q A2 m c2 es w0 B (hl.below hb0 hB) (hes.below hb0 hB) (Nat.le_trans hB hb0.size))
  clear hbx hb0 hl hes hB
  go_enter Tryd.func18, Tryd.ntmps18
  go_upto_region 1 with fail
  rw [← hw0]
  clear hw0
  go_upto_region 2 with (go_at_call 17; refine HAL.out.mono ?_; rintro e' w1 ⟨hb1, ⟨her, rfl⟩ | ⟨her, A', c', rfl, _⟩⟩)
  · have t1 : ((alR l es).2.2 != 0) = true := by simpa using her
    obtain ⟨w2, hw2⟩ : ∃ w2, w2 = w1.alloc (.cells #[.slice none 0 0, .bool false] 24) := ⟨_, rfl⟩
    have HB2 := Lib.hid (show Below w.heap.size w w2 by rw [hw2]; exact (HB0.out.trans (hb1.mono HB0.out.size)).alloc (Nat.le_trans HB0.out.size hb1.size) _)
    obtain ⟨er, her2⟩ : ∃ er, (alR l es).2.2 = er := ⟨_, rfl⟩
    obtain ⟨i0, hi0⟩ : ∃ i0, (alR l es).2.1 = i0 := ⟨_, rfl⟩
    have HR := Lib.hid her2
    have HER := Lib.hid her
    rw [her2] at t1
    rw [← hw2, her2, hi0]
    clear hw2 her her2 hi0 x0 x1 HAL hb1
    go_wp2_with fail
    exact bodyPost_ret (v := .tuple #[.slice none 0 0, .int .i64 er]) (by simp [results, Tryd.results18, go_sem]) rfl ⟨HB2.out, Or.inl ⟨HER.out, by rw [HR.out]⟩⟩
  · have HER := Lib.hid her
    have HM40 : Hid (m ≤ 40) := by
      have h1 : alErr l es = 0 := by
        by_cases h : alErr l es = 0
        · exact h
        · unfold alR at her
          rw [if_pos h] at her
          exact absurd her h
      unfold alErr at h1
      by_cases hc : checkD l = 0
      · rw [if_neg (by rw [hc]; simp)] at h1
        by_cases h40 : 40 < es.length
        · rw [if_pos h40] at h1; cases h1
        · have := HM.out; show m ≤ 40; omega
      · rw [if_pos hc] at h1; exact absurd h1 hc
    obtain ⟨w2, hw2⟩ : ∃ w2, w2 = w1.alloc (.cells #[.slice A' (alR l es).1.length c', .bool q] 24) := ⟨_, rfl⟩
    have HB2 := Lib.hid (show Below w.heap.size w w2 by rw [hw2]; exact (HB0.out.trans (hb1.mono HB0.out.size)).alloc (Nat.le_trans HB0.out.size hb1.size) _)
    have H0 : Hid (FoRel w es [] 0 (.slice none 0 0) w2) := ⟨by simp, Nat.le_refl _, ⟨fun _ => False, Own.nil _ _ _ _, fun _ h => h.elim⟩, HB2.out⟩
    have hm40 := HM40.out
    rw [← hw2]
    clear hw2 her x0 x1 HAL hb1
    go_upto_region 6 with fail
    go_loopw [9, 27] (fun v s wr => ∃ (k : Nat) (st : List Edt), k ≤ m ∧ s = .int .i64 (k : Int) ∧ Hid (FoRel w es st k v wr)) (fun _ s _ => m - (intOf s).toNat)
    case atStart => exact ⟨0, [], Nat.zero_le _, rfl, H0⟩
    case round =>
      obtain ⟨k, st, hk, rfl, HR⟩ := hrel
      by_cases hlt : k < m
      · obtain ⟨e, he⟩ : ∃ e, es[k]? = some e := get_some (by have := HM.out; omega)
        have hbr := HR.out.2.2.2
        obtain ⟨b, o, Aa, na, ca, Ak, nk, ck, rfl, hbb, hok, hce⟩ := edt_get (HES.out.below hbr HBW.out) he
        obtain rfl : na = e.node.attrs.length := hok.node.attrs.hn
        obtain rfl : nk = e.node.kids.length := hok.node.kids.hn
        have HBR := Lib.hid hbr
        have HE := Lib.hid he
        obtain ⟨w3, hw3⟩ : ∃ w3, w3 = wr.alloc (.cells (edtCells e Aa e.node.attrs.length ca Ak e.node.kids.length ck) 30) := ⟨_, rfl⟩
        have hz3 : w3.heap.size = wr.heap.size + 1 := by rw [hw3]; exact World.size_alloc wr _
        have hb3 : Below wr.heap.size wr w3 := by rw [hw3]; exact (Below.refl _ _).alloc (Nat.le_refl _) _
        have hbx3 : w3.heap[wr.heap.size]? = some (.cells (edtCells e Aa e.node.attrs.length ca Ak e.node.kids.length ck) 30 (0, 0)) := by rw [hw3]; exact heap_alloc_new wr _
        have HB3 := Lib.hid hb3
        have HZ3 := Lib.hid hz3
        have HBX3 := Lib.hid hbx3
        have HOK := Lib.hid (hok.below hb3 (Nat.le_trans HBW.out hbr.size))
        have q0 : wr.cell? ⟨b, o + k * 12, none⟩ = some (.int .i64 e.do_) := by exact hce 0 _ rfl
        have q1 : wr.cell? ⟨b, o + k * 12 + 1, none⟩ = some (.int .i64 e.at_) := by rw [Nat.add_assoc]; exact hce 1 _ rfl
        have q2 : wr.cell? ⟨b, o + k * 12 + 2, none⟩ = some (.int .i64 e.to_) := by rw [Nat.add_assoc]; exact hce 2 _ rfl
        have q3 : wr.cell? ⟨b, o + k * 12 + 3, none⟩ = some (.int .i64 e.before) := by rw [Nat.add_assoc]; exact hce 3 _ rfl
        have q4 : wr.cell? ⟨b, o + k * 12 + 4, none⟩ = some (.string e.name) := by rw [Nat.add_assoc]; exact hce 4 _ rfl
        have q5 : wr.cell? ⟨b, o + k * 12 + 5, none⟩ = some (.string e.value) := by rw [Nat.add_assoc]; exact hce 5 _ rfl
        have q6 : wr.cell? ⟨b, o + k * 12 + 6, none⟩ = some (.int .i64 e.node.kind) := by rw [Nat.add_assoc]; exact hce 6 _ rfl
        have q7 : wr.cell? ⟨b, o + k * 12 + 7, none⟩ = some (.string e.node.name) := by rw [Nat.add_assoc]; exact hce 7 _ rfl
        have q8 : wr.cell? ⟨b, o + k * 12 + 8, none⟩ = some (.slice Aa e.node.attrs.length ca) := by rw [Nat.add_assoc]; exact hce 8 _ rfl
        have q9 : wr.cell? ⟨b, o + k * 12 + 9, none⟩ = some (.string e.node.text) := by rw [Nat.add_assoc]; exact hce 9 _ rfl
        have q10 : wr.cell? ⟨b, o + k * 12 + 10, none⟩ = some (.int .i64 e.node.parent) := by rw [Nat.add_assoc]; exact hce 10 _ rfl
        have q11 : wr.cell? ⟨b, o + k * 12 + 11, none⟩ = some (.slice Ak e.node.kids.length ck) := by rw [Nat.add_assoc]; exact hce 11 _ rfl
        have i1 : (0 : Int) ≤ (k : Int) := by omega
        have i2 : (k : Int) < (m : Int) := by omega
        clear hok hce he hbr hz3 hb3 hbx3
        go_upto_region 8 with fail
        unfold edtCells at hw3
        rw [← hw3]
        clear hw3 q0 q1 q2 q3 q4 q5 q6 q7 q8 q9 q10 q11
        have k8 : w3.cell? ⟨wr.heap.size, 8, none⟩ = some (.slice Aa e.node.attrs.length ca) := cell_blk HBX3.out rfl
        have k11 : w3.cell? ⟨wr.heap.size, 11, none⟩ = some (.slice Ak e.node.kids.length ck) := cell_blk HBX3.out rfl
        have HC1 := Lib.hid (cloneDA Aa e.node.attrs.length ca e.node.attrs w3.drew B HOK.out.node.attrs.drew (Nat.le_trans HBW.out (Nat.le_trans HBR.out.size HB3.out.size)))
        have HC2 := Lib.hid (fun W (hs : Sl (tInt .i64) W (lt B) Ak e.node.kids.length ck e.node.kids) (hz : B ≤ W.heap.size) => cloneI Ak e.node.kids.length ck e.node.kids W B hs hz)
        refine wp_region_G (S := (fun w' : World => w'.cell? ⟨wr.heap.size, 8, none⟩ = some (.slice Aa e.node.attrs.length ca) ∧ w'.cell? ⟨wr.heap.size, 11, none⟩ = some (.slice Ak e.node.kids.length ck))) (T := [10, 11, 12, 13]) (by kernel_rfl) ?_
        have hS : (fun w' : World => w'.cell? ⟨wr.heap.size, 8, none⟩ = some (.slice Aa e.node.attrs.length ca) ∧ w'.cell? ⟨wr.heap.size, 11, none⟩ = some (.slice Ak e.node.kids.length ck)) w3.drew := ⟨k8, k11⟩
        refine wpAnyG_pure (i := 0) (v := ?_) rfl (by kernel_rfl) (by kernel_rfl) (by kernel_rfl) (fun _ _ _ h => h) rfl ?_ ?_
        rotate_left
        · intro w'
          first | (go_simp; done) | (go_simp; with_reducible rfl)
        refine wpAnyG_pure (i := 1) (v := ?_) rfl (by kernel_rfl) (by kernel_rfl) (by kernel_rfl) (fun _ _ _ h => h) rfl ?_ ?_
        rotate_left
        · intro w'
          first | (go_simp; done) | (go_simp; with_reducible rfl)
        refine wpAnyG_pure (i := 4) (v := ?_) rfl (by kernel_rfl) (by kernel_rfl) (by kernel_rfl) (fun _ _ _ h => h) rfl ?_ ?_
        rotate_left
        · intro w'
          first | (go_simp; done) | (go_simp; with_reducible rfl)
        refine wpAnyG_pure (i := 5) (v := ?_) rfl (by kernel_rfl) (by kernel_rfl) (by kernel_rfl) (fun _ _ _ h => h) rfl ?_ ?_
        rotate_left
        · intro w'
          first | (go_simp; done) | (go_simp; with_reducible rfl)
        refine wpAnyG_take (i := 2) (v := ?_) rfl (by kernel_rfl) (by kernel_rfl) (by kernel_rfl) (by kernel_rfl) (fun _ _ _ h => h) hS rfl ?_ ?_
        rotate_left
        · intro w' hSw
          (try dsimp only at hSw)
          first | (go_simp; done) | (go_simp; with_reducible rfl)
        refine wpAnyG_take (i := 6) (v := ?_) rfl (by kernel_rfl) (by kernel_rfl) (by kernel_rfl) (by kernel_rfl) (fun _ _ _ h => h) hS rfl ?_ ?_
        rotate_left
        · intro w' hSw
          (try dsimp only at hSw)
          first | (go_simp; done) | (go_simp; with_reducible rfl)
        refine wpAnyG_one (i := 3) (by kernel_rfl) rfl rfl (fun K hK => ?_)
        go_simp
        go_at_call 45
        refine HC1.out.mono ?_
        rintro e' w5 ⟨A5, c5, rfl, hb5, ho5⟩
        have m8 := cell_be (w := w3.drew) k8 hb5
        have m11 := cell_be (w := w3.drew) k11 hb5
        go_wp2_with fail
        refine hK.out _ _ (fun _ _ => ⟨m8, m11⟩) ?_
        clear hK K hS
        refine wpAnyG_pure (i := 8) (v := ?_) rfl (by kernel_rfl) (by kernel_rfl) (by kernel_rfl) (fun _ _ _ h => h) rfl ?_ ?_
        rotate_left
        · intro w'
          first | (go_simp; done) | (go_simp; with_reducible rfl)
        refine wpAnyG_pure (i := 9) (v := ?_) rfl (by kernel_rfl) (by kernel_rfl) (by kernel_rfl) (fun _ _ _ h => h) rfl ?_ ?_
        rotate_left
        · intro w'
          first | (go_simp; done) | (go_simp; with_reducible rfl)
        refine wpAnyG_one (i := 7) (by kernel_rfl) rfl rfl (fun K hK => ?_)
        go_simp
        go_at_call 46
        refine (HC2.out _ ((HOK.out.node.kids.drew).below hb5 (Nat.le_trans HBW.out (Nat.le_trans HBR.out.size HB3.out.size))) (Nat.le_trans HBW.out (Nat.le_trans HBR.out.size (Nat.le_trans HB3.out.size hb5.size)))).mono ?_
        rintro e' w6 ⟨A6, c6, rfl, hb6, ho6⟩
        have n8 := cell_be m8 hb6
        have n11 := cell_be m11 hb6
        go_wp2_with fail
        refine hK.out _ _ (fun _ _ => ⟨n8, n11⟩) ?_
        clear hK K
        have hb36 : Below w3.heap.size w3 w6 := ((Below.refl _ w3).drew.trans (hb5.mono (Nat.le_refl _))).trans (hb6.mono hb5.size)
        have hv1 : OwnF tDA w6 w3.heap.size 74 (.slice A5 e.node.attrs.length c5) e.node.attrs.length e.node.attrs := OwnF.below (ho5.flat (flatPair flatStr flatStr)) hb6 (Nat.le_refl _)
        have hv2 : OwnF (tInt .i64) w6 w3.heap.size 3 (.slice A6 e.node.kids.length c6) e.node.kids.length e.node.kids := (ho6.flat (flatInt _)).down hb5.size
        have hbx6 := (hb36.block wr.heap.size (by rw [HZ3.out]; omega)).trans HBX3.out
        have f8 : w6.frozen? ⟨wr.heap.size, 8, none⟩ = false := free_blk hbx6
        have f11 : w6.frozen? ⟨wr.heap.size, 11, none⟩ = false := free_blk hbx6
        have HV1 := Lib.hid hv1
        have HV2 := Lib.hid hv2
        have HB36 := Lib.hid hb36
        have HBX6 := Lib.hid hbx6
        clear hb36 hv1 hv2 hb5 hb6 ho5 ho6 m8 m11 k8 k11 HC1 HC2 hbx6
        refine wpAnyG_one (i := 10) (by kernel_rfl) rfl rfl (fun K hK => ?_)
        go_simp
        refine hK.out _ _ (fun h => absurd (by decide) h) ?_
        clear hK K
        refine wpAnyG_one (i := 11) (by kernel_rfl) rfl rfl (fun K hK => ?_)
        go_simp
        refine hK.out _ _ (fun _ h => h) ?_
        clear hK K
        refine wpAnyG_one (i := 12) (by kernel_rfl) rfl rfl (fun K hK => ?_)
        go_simp
        refine hK.out _ _ (fun _ h => h) ?_
        clear hK K
        refine wpAnyG_one (i := 13) (by kernel_rfl) rfl rfl (fun K hK => ?_)
        go_simp
        refine hK.out _ _ (fun h => absurd (by decide) h) ?_
        clear hK K
        refine wpAnyG_done (by kernel_rfl) ?_ _
        obtain ⟨w7, hw7⟩ : ∃ w7, w7 = (w6.setCell ⟨wr.heap.size, 8, none⟩ (.slice A5 e.node.attrs.length c5)).setCell ⟨wr.heap.size, 11, none⟩ (.slice A6 e.node.kids.length c6) := ⟨_, rfl⟩
        have hbx7 : w7.heap[wr.heap.size]? = some (.cells (edtCells e A5 e.node.attrs.length c5 A6 e.node.kids.length c6) 30 (0, 0)) := by rw [hw7]; exact set_blk (set_blk HBX6.out _) _
        rw [← hw7]
        have HB37 := Lib.hid (show Below w3.heap.size wr w7 ∧ Below w3.heap.size w6 w7 ∨ True from Or.inr trivial)
        have HB7 := Lib.hid (show Below wr.heap.size wr w7 by
          rw [hw7]
          exact ((HB3.out.trans (HB36.out.mono HB3.out.size)).setCell (p := ⟨wr.heap.size, 8, none⟩) (Nat.le_refl _) _).setCell (p := ⟨wr.heap.size, 11, none⟩) (Nat.le_refl _) _)
        have HZ7 := Lib.hid (show w6.heap.size ≤ w7.heap.size by rw [hw7]; simp)
        have hg67 : ∀ {row : Nat}, row = wr.heap.size → w6.grownBy w7 (some row) := fun {row} h => by
          subst h
          rw [hw7]
          exact grownBy.trans' (grown_set _ _ _ _) (grown_set _ _ _ _)
        have HV3 := Lib.hid (ownF_kept HV1.out (hg67 rfl) (Or.inr fun e => by
          have := (Own.lt HV1.out wr.heap.size e).1
          rw [HZ3.out] at this
          omega))
        have HV4 := Lib.hid (ownF_kept HV2.out (hg67 rfl) (Or.inr fun e => by
          have := (Own.lt HV2.out wr.heap.size e).1
          rw [HZ3.out] at this
          omega))
        have HBX7 := Lib.hid hbx7
        clear hw7 hbx7 HV1 HV2 HB36 HBX6 HB37 hg67 n8 n11 f8 f11
        have r0 : w7.cell? ⟨wr.heap.size, 0, none⟩ = some (.int .i64 e.do_) := cell_blk HBX7.out rfl
        have r1 : w7.cell? ⟨wr.heap.size, 1, none⟩ = some (.int .i64 e.at_) := cell_blk HBX7.out rfl
        have r2 : w7.cell? ⟨wr.heap.size, 2, none⟩ = some (.int .i64 e.to_) := cell_blk HBX7.out rfl
        have r3 : w7.cell? ⟨wr.heap.size, 3, none⟩ = some (.int .i64 e.before) := cell_blk HBX7.out rfl
        have r4 : w7.cell? ⟨wr.heap.size, 4, none⟩ = some (.string e.name) := cell_blk HBX7.out rfl
        have r5 : w7.cell? ⟨wr.heap.size, 5, none⟩ = some (.string e.value) := cell_blk HBX7.out rfl
        have r6 : w7.cell? ⟨wr.heap.size, 6, none⟩ = some (.int .i64 e.node.kind) := cell_blk HBX7.out rfl
        have r7 : w7.cell? ⟨wr.heap.size, 7, none⟩ = some (.string e.node.name) := cell_blk HBX7.out rfl
        have r8 : w7.cell? ⟨wr.heap.size, 8, none⟩ = some (.slice A5 e.node.attrs.length c5) := cell_blk HBX7.out rfl
        have r9 : w7.cell? ⟨wr.heap.size, 9, none⟩ = some (.string e.node.text) := cell_blk HBX7.out rfl
        have r10 : w7.cell? ⟨wr.heap.size, 10, none⟩ = some (.int .i64 e.node.parent) := cell_blk HBX7.out rfl
        have r11 : w7.cell? ⟨wr.heap.size, 11, none⟩ = some (.slice A6 e.node.kids.length c6) := cell_blk HBX7.out rfl
        have hAP := ap_step HR.out.2.2.1 HR.out.2.2.2 HB7.out (by rw [HZ3.out]; omega) HOK.out (edt_do HES.out HE.out) HV3.out HV4.out
        obtain ⟨D', hown, hD', hrep, hlo⟩ := hAP
        have HLO := Lib.hid hlo
        have HAPO := Lib.hid hown
        have HAPD := Lib.hid hD'
        have HREP := Lib.hid hrep
        have hlen : st.reverse.length ≤ m := by rw [List.length_reverse]; have := HR.out.2.1; omega
        have HB07 := Lib.hid (HBR.out.trans (HB7.out.mono HBR.out.size))
        clear hown hD' hrep hlo
        go_upto_region 10 with (at_builtin; refine wpList_ap1 _ rfl (.tmp 43) (.tmp 45) 43 rfl elemEdt (v := u9) (n := st.reverse.length) (xs := st.reverse) (base := w.heap.size) (D := D') rfl HAPO.out HAPD.out (y := e) (cs := (edtCells e A5 e.node.attrs.length c5 A6 e.node.kids.length c6).toList) rfl HREP.out (cell_new w7 _ _) (by omega) (by omega) (by rw [World.size_alloc]; have := HB07.out.size; omega) ?_; intro v9 w9 hown9 hg9 hbl9 hv9)
        have hF9 : FOwn w v9 (e :: st).reverse w9 := by
          rw [List.reverse_cons]
          refine ⟨D', by rw [List.length_append]; exact hown9, fun b hb' => ⟨HLO.out b hb', Nat.lt_of_lt_of_le (HAPD.out b hb').1 hbl9.size, ?_⟩⟩
          rcases hv9 with hv | hv
          · rw [hv]; exact (HAPD.out b hb').2
          · rw [hv]; intro e'; exact absurd (Option.some.inj e') (Nat.ne_of_lt (HAPD.out b hb').1)
        have hn9 : (e :: st).reverse.length = st.reverse.length + 1 := by simp
        have hB9 := HB07.out.trans (((Below.refl w.heap.size w7).alloc HB07.out.size (.cells (edtCells e A5 e.node.attrs.length c5 A6 e.node.kids.length c6) 30)).trans hbl9)
        have HF9 : Hid (FInn w e st k (e :: st) v9 w9) := ⟨rfl, by have := HR.out.2.1; simp; omega, hF9, hB9⟩
        obtain ⟨g9, c9, rfl, _⟩ := own_some hown9 (by omega)
        have hcap9 : st.reverse.length + 1 ≤ c9 := Own.cap hown9
        rw [List.length_reverse] at hlen hcap9
        have HNX := Lib.hid (show ∀ st2, settle st2 = settle (e :: st) → settle st2 = st2 → st2 = (es.take (k + 1)).foldl (fun st e => settle (e :: st)) [] from fun st2 h1 h2 => by
          rw [take_snoc HE.out, List.foldl_append, ← HR.out.1, ← h2, h1]
          rfl)
        clear hF9 hn9 hB9 hown9 hg9 hbl9 hv9 r0 r1 r2 r3 r4 r5 r6 r7 r8 r9 r10 r11 HAPO HAPD HREP HLO HV3 HV4 HBX7 HZ7 HB7 HB07 HB3 HZ3 HBX3 HOK HBR
        obtain ⟨N9, hN9⟩ : ∃ N9, st.reverse.length + 1 = N9 := ⟨_, rfl⟩
        rw [hN9] at HF9 ⊢
        have HN9 := Lib.hid hN9
        clear hN9
        go_upto_region 11 with fail
        obtain ⟨wo, hwo⟩ : ∃ wo : World, wo = wr := ⟨_, rfl⟩
        rw [← hwo] at HR
        clear hwo
        go_loopw [9, 12] (fun v s wr => ∃ st2 : List Edt, s = .int .i64 (st2.length : Int) ∧ Hid (FInn w e st k st2 v wr) ∧ st2.length ≤ k + 1) (fun _ s _ => (intOf s).toNat)
        case atStart => exact ⟨e :: st, by rw [← HN9.out]; simp, HF9, HF9.out.2.1⟩
        case round =>
          obtain ⟨st2, rfl, HI, hl2⟩ := hrel
          match st2, HI, hl2 with
          | b2 :: a2 :: r2, HI, hl2 =>
            obtain ⟨D, ho, hD⟩ := HI.out.2.2.1
            obtain ⟨L, hL⟩ : ∃ L, r2.length = L := ⟨_, rfl⟩
            have hL2 : (b2 :: a2 :: r2).reverse.length = L + 2 := by simp [hL]
            have hL3 : (b2 :: a2 :: r2).length = L + 2 := by simp [hL]
            rw [hL2] at ho
            obtain ⟨g, cc, rfl, hgw⟩ := own_some ho (by omega)
            have hcap := Own.cap ho
            obtain ⟨A1, n1, c1, A2, n2, c2, hokA, _, hcA⟩ := own_edt ho (i := L) (e := a2) (by simp [hL])
            obtain ⟨A3, n3, c3, A4, n4, c4, hokB, hdB, hcB⟩ := own_edt ho (i := L + 1) (e := b2) (by simp [hL])
            have hL40 : L + 2 ≤ k + 1 := by omega
            have u0 : wr.cell? ⟨g, L * 12, none⟩ = some (.int .i64 a2.do_) := by exact hcA 0 _ rfl
            have u1 : wr.cell? ⟨g, L * 12 + 1, none⟩ = some (.int .i64 a2.at_) := by exact hcA 1 _ rfl
            have u2 : wr.cell? ⟨g, L * 12 + 2, none⟩ = some (.int .i64 a2.to_) := by exact hcA 2 _ rfl
            have u3 : wr.cell? ⟨g, L * 12 + 3, none⟩ = some (.int .i64 a2.before) := by exact hcA 3 _ rfl
            have u4 : wr.cell? ⟨g, L * 12 + 4, none⟩ = some (.string a2.name) := by exact hcA 4 _ rfl
            have u5 : wr.cell? ⟨g, L * 12 + 5, none⟩ = some (.string a2.value) := by exact hcA 5 _ rfl
            have u6 : wr.cell? ⟨g, L * 12 + 6, none⟩ = some (.int .i64 a2.node.kind) := by exact hcA 6 _ rfl
            have u7 : wr.cell? ⟨g, L * 12 + 7, none⟩ = some (.string a2.node.name) := by exact hcA 7 _ rfl
            have u8 : wr.cell? ⟨g, L * 12 + 8, none⟩ = some (.slice A1 n1 c1) := by exact hcA 8 _ rfl
            have u9 : wr.cell? ⟨g, L * 12 + 9, none⟩ = some (.string a2.node.text) := by exact hcA 9 _ rfl
            have u10 : wr.cell? ⟨g, L * 12 + 10, none⟩ = some (.int .i64 a2.node.parent) := by exact hcA 10 _ rfl
            have u11 : wr.cell? ⟨g, L * 12 + 11, none⟩ = some (.slice A2 n2 c2) := by exact hcA 11 _ rfl
            have v0 : wr.cell? ⟨g, (L + 1) * 12, none⟩ = some (.int .i64 b2.do_) := by exact hcB 0 _ rfl
            have v1 : wr.cell? ⟨g, (L + 1) * 12 + 1, none⟩ = some (.int .i64 b2.at_) := by exact hcB 1 _ rfl
            have v2 : wr.cell? ⟨g, (L + 1) * 12 + 2, none⟩ = some (.int .i64 b2.to_) := by exact hcB 2 _ rfl
            have v3 : wr.cell? ⟨g, (L + 1) * 12 + 3, none⟩ = some (.int .i64 b2.before) := by exact hcB 3 _ rfl
            have v4 : wr.cell? ⟨g, (L + 1) * 12 + 4, none⟩ = some (.string b2.name) := by exact hcB 4 _ rfl
            have v5 : wr.cell? ⟨g, (L + 1) * 12 + 5, none⟩ = some (.string b2.value) := by exact hcB 5 _ rfl
            have v6 : wr.cell? ⟨g, (L + 1) * 12 + 6, none⟩ = some (.int .i64 b2.node.kind) := by exact hcB 6 _ rfl
            have v7 : wr.cell? ⟨g, (L + 1) * 12 + 7, none⟩ = some (.string b2.node.name) := by exact hcB 7 _ rfl
            have v8 : wr.cell? ⟨g, (L + 1) * 12 + 8, none⟩ = some (.slice A3 n3 c3) := by exact hcB 8 _ rfl
            have v9 : wr.cell? ⟨g, (L + 1) * 12 + 9, none⟩ = some (.string b2.node.text) := by exact hcB 9 _ rfl
            have v10 : wr.cell? ⟨g, (L + 1) * 12 + 10, none⟩ = some (.int .i64 b2.node.parent) := by exact hcB 10 _ rfl
            have v11 : wr.cell? ⟨g, (L + 1) * 12 + 11, none⟩ = some (.slice A4 n4 c4) := by exact hcB 11 _ rfl
            have HSS : Hid (∀ W, Below wr.heap.size wr W → (fun w' : World => w'.cell? ⟨g, L * 12, none⟩ = some (.int .i64 a2.do_) ∧ w'.cell? ⟨g, L * 12 + 1, none⟩ = some (.int .i64 a2.at_) ∧ w'.cell? ⟨g, L * 12 + 2, none⟩ = some (.int .i64 a2.to_) ∧ w'.cell? ⟨g, L * 12 + 3, none⟩ = some (.int .i64 a2.before) ∧ w'.cell? ⟨g, L * 12 + 4, none⟩ = some (.string a2.name) ∧ w'.cell? ⟨g, L * 12 + 5, none⟩ = some (.string a2.value) ∧ w'.cell? ⟨g, L * 12 + 6, none⟩ = some (.int .i64 a2.node.kind) ∧ w'.cell? ⟨g, L * 12 + 7, none⟩ = some (.string a2.node.name) ∧ w'.cell? ⟨g, L * 12 + 8, none⟩ = some (.slice A1 n1 c1) ∧ w'.cell? ⟨g, L * 12 + 9, none⟩ = some (.string a2.node.text) ∧ w'.cell? ⟨g, L * 12 + 10, none⟩ = some (.int .i64 a2.node.parent) ∧ w'.cell? ⟨g, L * 12 + 11, none⟩ = some (.slice A2 n2 c2) ∧ w'.cell? ⟨g, (L + 1) * 12, none⟩ = some (.int .i64 b2.do_) ∧ w'.cell? ⟨g, (L + 1) * 12 + 1, none⟩ = some (.int .i64 b2.at_) ∧ w'.cell? ⟨g, (L + 1) * 12 + 2, none⟩ = some (.int .i64 b2.to_) ∧ w'.cell? ⟨g, (L + 1) * 12 + 3, none⟩ = some (.int .i64 b2.before) ∧ w'.cell? ⟨g, (L + 1) * 12 + 4, none⟩ = some (.string b2.name) ∧ w'.cell? ⟨g, (L + 1) * 12 + 5, none⟩ = some (.string b2.value) ∧ w'.cell? ⟨g, (L + 1) * 12 + 6, none⟩ = some (.int .i64 b2.node.kind) ∧ w'.cell? ⟨g, (L + 1) * 12 + 7, none⟩ = some (.string b2.node.name) ∧ w'.cell? ⟨g, (L + 1) * 12 + 8, none⟩ = some (.slice A3 n3 c3) ∧ w'.cell? ⟨g, (L + 1) * 12 + 9, none⟩ = some (.string b2.node.text) ∧ w'.cell? ⟨g, (L + 1) * 12 + 10, none⟩ = some (.int .i64 b2.node.parent) ∧ w'.cell? ⟨g, (L + 1) * 12 + 11, none⟩ = some (.slice A4 n4 c4)) W) := fun W h => ⟨cell_be u0 h, cell_be u1 h, cell_be u2 h, cell_be u3 h, cell_be u4 h, cell_be u5 h, cell_be u6 h, cell_be u7 h, cell_be u8 h, cell_be u9 h, cell_be u10 h, cell_be u11 h, cell_be v0 h, cell_be v1 h, cell_be v2 h, cell_be v3 h, cell_be v4 h, cell_be v5 h, cell_be v6 h, cell_be v7 h, cell_be v8 h, cell_be v9 h, cell_be v10 h, cell_be v11 h⟩
            have HW2 := Lib.hid (show IntKind.i64.wrap (L : Int) = (L : Int) from IntWalk.i64_in _ (by omega))
            have HW1 := Lib.hid (show IntKind.i64.wrap ((L : Int) + 2 - 1) = (L : Int) + 1 from by rw [show (L : Int) + 2 - 1 = (L : Int) + 1 from by omega]; exact IntWalk.i64_in _ (by omega))
            have HT1 := Lib.hid (show ((L : Int) + 1).toNat = L + 1 from by omega)
            have HJN := Lib.hid (joined_any a2 A1 n1 c1 A2 n2 c2 b2 A3 n3 c3 A4 n4 c4 wr.drew)
            have HOB := Lib.hid hokB
            have HDB := Lib.hid hdB
            have HDD := Lib.hid hD
            have HBLW : Hid (w.heap.size ≤ wr.heap.size) := HI.out.2.2.2.size
            have HOW := Lib.hid ho
            rw [hL3]
            clear hcA hcB hokA hokB hdB hD ho hL2 hL3
            go_upto_region 13 with fail
            refine wp_region_G (S := (fun w' : World => w'.cell? ⟨g, L * 12, none⟩ = some (.int .i64 a2.do_) ∧ w'.cell? ⟨g, L * 12 + 1, none⟩ = some (.int .i64 a2.at_) ∧ w'.cell? ⟨g, L * 12 + 2, none⟩ = some (.int .i64 a2.to_) ∧ w'.cell? ⟨g, L * 12 + 3, none⟩ = some (.int .i64 a2.before) ∧ w'.cell? ⟨g, L * 12 + 4, none⟩ = some (.string a2.name) ∧ w'.cell? ⟨g, L * 12 + 5, none⟩ = some (.string a2.value) ∧ w'.cell? ⟨g, L * 12 + 6, none⟩ = some (.int .i64 a2.node.kind) ∧ w'.cell? ⟨g, L * 12 + 7, none⟩ = some (.string a2.node.name) ∧ w'.cell? ⟨g, L * 12 + 8, none⟩ = some (.slice A1 n1 c1) ∧ w'.cell? ⟨g, L * 12 + 9, none⟩ = some (.string a2.node.text) ∧ w'.cell? ⟨g, L * 12 + 10, none⟩ = some (.int .i64 a2.node.parent) ∧ w'.cell? ⟨g, L * 12 + 11, none⟩ = some (.slice A2 n2 c2) ∧ w'.cell? ⟨g, (L + 1) * 12, none⟩ = some (.int .i64 b2.do_) ∧ w'.cell? ⟨g, (L + 1) * 12 + 1, none⟩ = some (.int .i64 b2.at_) ∧ w'.cell? ⟨g, (L + 1) * 12 + 2, none⟩ = some (.int .i64 b2.to_) ∧ w'.cell? ⟨g, (L + 1) * 12 + 3, none⟩ = some (.int .i64 b2.before) ∧ w'.cell? ⟨g, (L + 1) * 12 + 4, none⟩ = some (.string b2.name) ∧ w'.cell? ⟨g, (L + 1) * 12 + 5, none⟩ = some (.string b2.value) ∧ w'.cell? ⟨g, (L + 1) * 12 + 6, none⟩ = some (.int .i64 b2.node.kind) ∧ w'.cell? ⟨g, (L + 1) * 12 + 7, none⟩ = some (.string b2.node.name) ∧ w'.cell? ⟨g, (L + 1) * 12 + 8, none⟩ = some (.slice A3 n3 c3) ∧ w'.cell? ⟨g, (L + 1) * 12 + 9, none⟩ = some (.string b2.node.text) ∧ w'.cell? ⟨g, (L + 1) * 12 + 10, none⟩ = some (.int .i64 b2.node.parent) ∧ w'.cell? ⟨g, (L + 1) * 12 + 11, none⟩ = some (.slice A4 n4 c4))) (T := []) (by kernel_rfl) ?_
            have hS : (fun w' : World => w'.cell? ⟨g, L * 12, none⟩ = some (.int .i64 a2.do_) ∧ w'.cell? ⟨g, L * 12 + 1, none⟩ = some (.int .i64 a2.at_) ∧ w'.cell? ⟨g, L * 12 + 2, none⟩ = some (.int .i64 a2.to_) ∧ w'.cell? ⟨g, L * 12 + 3, none⟩ = some (.int .i64 a2.before) ∧ w'.cell? ⟨g, L * 12 + 4, none⟩ = some (.string a2.name) ∧ w'.cell? ⟨g, L * 12 + 5, none⟩ = some (.string a2.value) ∧ w'.cell? ⟨g, L * 12 + 6, none⟩ = some (.int .i64 a2.node.kind) ∧ w'.cell? ⟨g, L * 12 + 7, none⟩ = some (.string a2.node.name) ∧ w'.cell? ⟨g, L * 12 + 8, none⟩ = some (.slice A1 n1 c1) ∧ w'.cell? ⟨g, L * 12 + 9, none⟩ = some (.string a2.node.text) ∧ w'.cell? ⟨g, L * 12 + 10, none⟩ = some (.int .i64 a2.node.parent) ∧ w'.cell? ⟨g, L * 12 + 11, none⟩ = some (.slice A2 n2 c2) ∧ w'.cell? ⟨g, (L + 1) * 12, none⟩ = some (.int .i64 b2.do_) ∧ w'.cell? ⟨g, (L + 1) * 12 + 1, none⟩ = some (.int .i64 b2.at_) ∧ w'.cell? ⟨g, (L + 1) * 12 + 2, none⟩ = some (.int .i64 b2.to_) ∧ w'.cell? ⟨g, (L + 1) * 12 + 3, none⟩ = some (.int .i64 b2.before) ∧ w'.cell? ⟨g, (L + 1) * 12 + 4, none⟩ = some (.string b2.name) ∧ w'.cell? ⟨g, (L + 1) * 12 + 5, none⟩ = some (.string b2.value) ∧ w'.cell? ⟨g, (L + 1) * 12 + 6, none⟩ = some (.int .i64 b2.node.kind) ∧ w'.cell? ⟨g, (L + 1) * 12 + 7, none⟩ = some (.string b2.node.name) ∧ w'.cell? ⟨g, (L + 1) * 12 + 8, none⟩ = some (.slice A3 n3 c3) ∧ w'.cell? ⟨g, (L + 1) * 12 + 9, none⟩ = some (.string b2.node.text) ∧ w'.cell? ⟨g, (L + 1) * 12 + 10, none⟩ = some (.int .i64 b2.node.parent) ∧ w'.cell? ⟨g, (L + 1) * 12 + 11, none⟩ = some (.slice A4 n4 c4)) wr.drew := HSS.out _ (Below.refl _ wr).drew
            clear u0 v0 u1 v1 u2 v2 u3 v3 u4 v4 u5 v5 u6 v6 u7 v7 u8 v8 u9 v9 u10 v10 u11 v11
            refine wpAnyG_pure (i := 0) (v := ?_) rfl (by kernel_rfl) (by kernel_rfl) (by kernel_rfl) (fun _ _ _ h => h) rfl ?_ ?_
            rotate_left
            · intro w'
              first | (go_simp; done) | (go_simp; with_reducible rfl)
            refine wpAnyG_pure (i := 1) (v := ?_) rfl (by kernel_rfl) (by kernel_rfl) (by kernel_rfl) (fun _ _ _ h => h) rfl ?_ ?_
            rotate_left
            · intro w'
              first | (go_simp; done) | (go_simp; with_reducible rfl)
            refine wpAnyG_pure (i := 2) (v := .int .i64 (L : Int)) rfl (by kernel_rfl) (by kernel_rfl) (by kernel_rfl) (fun _ _ _ h => h) rfl ?_ ?_
            · intro w'
              go_simp; rw [HW2.out]
            refine wpAnyG_pure (i := 3) (v := .pointer (some ⟨g, L * 12, none⟩)) rfl (by kernel_rfl) (by kernel_rfl) (by kernel_rfl) (fun _ _ _ h => h) rfl ?_ ?_
            · intro w'
              go_simp; intro hbad; omega
            refine wpAnyG_take (i := 4) (v := ?_) rfl (by kernel_rfl) (by kernel_rfl) (by kernel_rfl) (by kernel_rfl) (fun _ _ _ h => h) hS rfl ?_ ?_
            rotate_left
            · intro w' hSw
              (try dsimp only at hSw)
              first | (go_simp; done) | (go_simp; with_reducible rfl)
            refine wpAnyG_pure (i := 5) (v := ?_) rfl (by kernel_rfl) (by kernel_rfl) (by kernel_rfl) (fun _ _ _ h => h) rfl ?_ ?_
            rotate_left
            · intro w'
              first | (go_simp; done) | (go_simp; with_reducible rfl)
            refine wpAnyG_pure (i := 6) (v := ?_) rfl (by kernel_rfl) (by kernel_rfl) (by kernel_rfl) (fun _ _ _ h => h) rfl ?_ ?_
            rotate_left
            · intro w'
              first | (go_simp; done) | (go_simp; with_reducible rfl)
            refine wpAnyG_pure (i := 7) (v := .int .i64 ((L : Int) + 1)) rfl (by kernel_rfl) (by kernel_rfl) (by kernel_rfl) (fun _ _ _ h => h) rfl ?_ ?_
            · intro w'
              go_simp; rw [HW1.out]
            refine wpAnyG_pure (i := 8) (v := .pointer (some ⟨g, (L + 1) * 12, none⟩)) rfl (by kernel_rfl) (by kernel_rfl) (by kernel_rfl) (fun _ _ _ h => h) rfl ?_ ?_
            · intro w'
              go_simp; intro hbad; omega
            refine wpAnyG_take (i := 9) (v := ?_) rfl (by kernel_rfl) (by kernel_rfl) (by kernel_rfl) (by kernel_rfl) (fun _ _ _ h => h) hS rfl ?_ ?_
            rotate_left
            · intro w' hSw
              (try dsimp only at hSw)
              first | (go_simp; done) | (go_simp; with_reducible rfl)
            refine wpAnyG_one (i := 10) (by kernel_rfl) rfl rfl (fun K hK => ?_)
            go_simp
            go_at_call 47
            refine HJN.out.mono ?_
            rintro e' w6 hj
            obtain ⟨hb6, hj⟩ := jn_cases hj (edt_drew HOB.out) (fun b hb => (HDD.out b hb).2.1) HDB.out
            have HB6 := Lib.hid (((Below.refl _ wr).drew).trans hb6)
            rcases hj with ⟨hjn, rfl⟩ | ⟨A', mm, c', ys, hjs, hm, hm1, rfl, hys⟩
            · have HNEW := Lib.hid (show FoRel w es (b2 :: a2 :: r2) (k + 1) (.slice (some ⟨g, 0, none⟩) (L + 2) cc) w6 from ⟨HNX.out _ HI.out.1 (settle_no hjn), hl2, FOwn.next HI.out.2.2.1 HB6.out, HI.out.2.2.2.trans (HB6.out.mono HI.out.2.2.2.size)⟩)
              clear hjn hb6 HI
              go_wp2_with fail
              refine hK.out _ _ (fun _ _ => HSS.out _ HB6.out) ?_
              clear hK K hS
              refine wpAnyG_pure (i := 11) (v := ?_) rfl (by kernel_rfl) (by kernel_rfl) (by kernel_rfl) (fun _ _ _ h => h) rfl ?_ ?_
              rotate_left
              · intro w'
                first | (go_simp; done) | (go_simp; with_reducible rfl)
              refine wpAnyG_pure (i := 12) (v := ?_) rfl (by kernel_rfl) (by kernel_rfl) (by kernel_rfl) (fun _ _ _ h => h) rfl ?_ ?_
              rotate_left
              · intro w'
                first | (go_simp; done) | (go_simp; with_reducible rfl)
              refine wpAnyG_pure (i := 13) (v := ?_) rfl (by kernel_rfl) (by kernel_rfl) (by kernel_rfl) (fun _ _ _ h => h) rfl ?_ ?_
              rotate_left
              · intro w'
                first | (go_simp; done) | (go_simp; with_reducible rfl)
              refine wpAnyG_one (i := 14) (by kernel_rfl) rfl rfl (fun K hK => ?_)
              go_simp
              refine hK.out _ _ (fun _ h => h) ?_
              clear hK K
              refine wpAnyG_one (i := 15) (by kernel_rfl) rfl rfl (fun K hK => ?_)
              go_simp
              refine hK.out _ _ (fun _ h => h) ?_
              clear hK K
              refine wpAnyG_done (by kernel_rfl) ?_ _
              go_wp2_with fail
              go_roundw
              case rel => exact ⟨k + 1, _, by omega, by go_num, HNEW⟩
              case measure => simp [intOf]; omega
            · have HD6 := Lib.hid (show ∀ b, D b → b < w6.heap.size ∧ some b ≠ (Value.slice (some ⟨g, 0, none⟩) L cc).ownBlock from fun b hb => ⟨Nat.lt_of_lt_of_le (HDD.out b hb).2.1 HB6.out.size, (HDD.out b hb).2.2⟩)
              have HGW : Hid (g < wr.heap.size) := (Own.lt HOW.out g rfl).2
              have HDY := Lib.hid (show ∀ b, (D b ∨ (wr.drew.heap.size ≤ b ∧ b < w6.heap.size)) → b < w6.heap.size ∧ some b ≠ (Value.slice (some ⟨g, 0, none⟩) L cc).ownBlock from fun b hb => by
                rcases hb with hb | hb
                · exact HD6.out b hb
                · refine ⟨hb.2, fun e => ?_⟩
                  have h1 : b = g := Option.some.inj e
                  have h2 := hb.1
                  have h3 := HGW.out
                  change wr.heap.size ≤ b at h2
                  omega)
              have hcut := Own.cut_to (Own.below HOW.out HB6.out (fun k hk => (Own.lt HOW.out k hk).2) (fun b hb => (HDD.out b hb).2.1)) (k := L) (by omega)
              have htk : (b2 :: a2 :: r2).reverse.take L = r2.reverse := by
                rw [List.reverse_cons, List.reverse_cons, List.append_assoc, List.take_append_of_le_length (by rw [List.length_reverse]; omega), List.take_of_length_le (by rw [List.length_reverse]; omega)]
              rw [htk] at hcut
              have HCUT := Lib.hid hcut
              have HYS := Lib.hid hys
              have HMM := Lib.hid hm
              have HSE := Lib.hid (show settle (ys.reverse ++ r2) = settle (e :: st) from (settle_go hjs (by omega)).symm.trans HI.out.1)
              have hb26 : w.heap.size ≤ w6.heap.size := Nat.le_trans HI.out.2.2.2.size HB6.out.size
              have HBL6 := Lib.hid (HI.out.2.2.2.trans (HB6.out.mono HI.out.2.2.2.size))
              have i3 : (0 : Int) ≤ (L : Int) := by omega
              have i4 : (L : Int) ≤ (cc : Int) := by omega
              have HYL : Hid (ys.length ≤ 1) := by show ys.length ≤ 1; omega
              clear hjs hb6 htk hcut hys hm HI
              go_wp2_with fail
              refine hK.out _ _ (fun _ _ => HSS.out _ HB6.out) ?_
              clear hK K hS
              refine wpAnyG_pure (i := 11) (v := ?_) rfl (by kernel_rfl) (by kernel_rfl) (by kernel_rfl) (fun _ _ _ h => h) rfl ?_ ?_
              rotate_left
              · intro w'
                first | (go_simp; done) | (go_simp; with_reducible rfl)
              refine wpAnyG_pure (i := 12) (v := ?_) rfl (by kernel_rfl) (by kernel_rfl) (by kernel_rfl) (fun _ _ _ h => h) rfl ?_ ?_
              rotate_left
              · intro w'
                first | (go_simp; done) | (go_simp; with_reducible rfl)
              refine wpAnyG_pure (i := 13) (v := ?_) rfl (by kernel_rfl) (by kernel_rfl) (by kernel_rfl) (fun _ _ _ h => h) rfl ?_ ?_
              rotate_left
              · intro w'
                first | (go_simp; done) | (go_simp; with_reducible rfl)
              refine wpAnyG_one (i := 14) (by kernel_rfl) rfl rfl (fun K hK => ?_)
              go_simp
              refine hK.out _ _ (fun _ h => h) ?_
              clear hK K
              refine wpAnyG_one (i := 15) (by kernel_rfl) rfl rfl (fun K hK => ?_)
              go_simp
              refine hK.out _ _ (fun _ h => h) ?_
              clear hK K
              refine wpAnyG_done (by kernel_rfl) ?_ _
              go_upto_region 12 with (at_builtin; refine wpList_apo _ rfl (.tmp 72) (.tmp 73) 43 rfl elemEdt (v := .slice (some ⟨g, 0, none⟩) L cc) (xs := r2.reverse) (base := w.heap.size) (D := D) rfl HCUT.out HD6.out rfl HYS.out HDY.out (by omega) (by omega) hb26 ?_; intro v9 w9 hown9 hg9 hbl9 hv9)
              have hF9 : FOwn w v9 (ys.reverse ++ r2).reverse w9 := by
                rw [List.reverse_append, List.reverse_reverse]
                refine ⟨_, by rw [List.length_append, List.length_reverse, hL, ← HMM.out]; exact hown9, fun b hb' => ?_⟩
                have hbw : w.heap.size ≤ b ∧ b < w6.heap.size ∧ some b ≠ (Value.slice (some ⟨g, 0, none⟩) L cc).ownBlock := by
                  rcases hb' with hb' | hb' | hb'
                  · exact ⟨(HDD.out b hb').1, (HD6.out b hb').1, (HD6.out b hb').2⟩
                  · exact ⟨(HDD.out b hb').1, (HD6.out b hb').1, (HD6.out b hb').2⟩
                  · refine ⟨?_, hb'.2, (HDY.out b (Or.inr hb')).2⟩
                    have h1 := hb'.1
                    have h2 := HBLW.out
                    change wr.heap.size ≤ b at h1
                    omega
                refine ⟨hbw.1, Nat.lt_of_lt_of_le hbw.2.1 hbl9.size, ?_⟩
                rcases hv9 with hv | hv
                · rw [hv]; exact hbw.2.2
                · rw [hv]; intro e'; exact absurd (Option.some.inj e') (Nat.ne_of_lt hbw.2.1)
              have hlen9 : (ys.reverse ++ r2).length = L + mm := by rw [List.length_append, List.length_reverse, HMM.out]; omega
              have HF9 : Hid (FInn w e st k (ys.reverse ++ r2) v9 w9) := ⟨HSE.out, by rw [hlen9]; have := HMM.out; have := HYL.out; omega, hF9, HBL6.out.trans hbl9⟩
              obtain ⟨A9, c9, rfl⟩ := Own.form hown9
              clear hF9 hown9 hg9 hbl9 hv9
              go_wp2_with fail
              go_roundw
              case rel => exact ⟨ys.reverse ++ r2, by rw [hlen9]; simp, HF9, by rw [hlen9]; omega⟩
              case measure => simp [intOf]; omega
          | [x2], HI, hl2 =>
            have HNEW := Lib.hid (show FoRel w es [x2] (k + 1) u9 wr from ⟨HNX.out _ HI.out.1 (settle_short (by simp)), by simp, HI.out.2.2.1, HI.out.2.2.2⟩)
            go_wp2_with fail
            go_roundw
            case rel => exact ⟨k + 1, [x2], by omega, by go_num, HNEW⟩
            case measure => simp [intOf]; omega
          | [], HI, hl2 =>
            have HNEW := Lib.hid (show FoRel w es [] (k + 1) u9 wr from ⟨HNX.out _ HI.out.1 (settle_short (by simp)), by simp, HI.out.2.2.1, HI.out.2.2.2⟩)
            go_wp2_with fail
            go_roundw
            case rel => exact ⟨k + 1, [], by omega, by go_num, HNEW⟩
            case measure => simp [intOf]; omega
      · obtain rfl : k = m := by omega
        have hfin : st = foldR es := by
          rw [HR.out.1, List.take_of_length_le (by have := HM.out; omega)]
          rfl
        obtain ⟨A9, n9, c9, rfl⟩ : ∃ A n c, u9 = .slice A n c := by
          obtain ⟨D, ho, _⟩ := HR.out.2.2.1
          obtain ⟨A, c, e'⟩ := Own.form ho
          exact ⟨A, _, c, e'⟩
        have hs := FOwn.sl HR.out.2.2.1 (by rw [List.length_reverse]; have := HR.out.2.1; omega)
        have hn9 : n9 = (foldR es).length := by
          obtain ⟨D, ho, _⟩ := HR.out.2.2.1
          obtain ⟨A, c, e'⟩ := Own.form ho
          injection e' with _ e2 _
          rw [e2, List.length_reverse, hfin]
        rw [List.length_reverse, hfin] at hs
        have HS := Lib.hid hs
        have HBF := Lib.hid HR.out.2.2.2
        subst hn9
        clear hs hfin
        go_wp2_with fail
        exact bodyPost_ret (v := .tuple #[.slice A9 (foldR es).length c9, .int .i64 0]) (by simp [results, Tryd.results18, go_sem]) rfl ⟨HBF.out, Or.inr ⟨HER.out, A9, c9, rfl, HS.out⟩⟩
end Go.Proofs.YthkeciodjomakaaDoor
