/-
The walks of package active.
-/
import Derived.Test.YtabilpahmmkjkaaActiveKit
namespace Go.Proofs.Ytabilpahmmkjkaa
open Go.RowKit Go.Cl

theorem marker_any (k : Int) (nm : ByteArray) (A : Option Addr) (n c : Nat) (w : World) :
    Calls Try.prog 52 #[.agg #[.int .i64 k, .string nm, .slice A n c]] w fun e w' => e = .returned (.bool (k == -1)) ∧ Below w.heap.size w w' := by
  go_enter Try.func52, Try.ntmps52
  go_wp2
  go_ret
  exact ⟨rfl, (Below.refl _ _).alloc (Nat.le_refl _) _⟩

/-- An item's cells. -/
theorem item_cells {w : World} {D : Nat → Prop} {x : Item} {cells : List Value} (h : tItem.rep w D x cells) :
    ∃ A n c, cells = [.int .i64 x.node, .string x.name, .slice A n c] ∧ Sl tAttr w D A n c x.attrs ∧ (Lit.int .i64 x.node).wf = true ∧ x.name.size ≤ 1152921504606846976 := by
  obtain ⟨c1, c2, rfl, ⟨rfl, hw⟩, c3, c4, rfl, ⟨rfl, hs⟩, A, n, c, rfl, hl⟩ := h
  exact ⟨A, n, c, rfl, hl, hw, hs⟩
theorem attr_cells {w : World} {D : Nat → Prop} {x : Attr} {cells : List Value} (h : tAttr.rep w D x cells) :
    cells = [.string x.1, .string x.2] ∧ x.1.size ≤ 1152921504606846976 ∧ x.2.size ≤ 1152921504606846976 := by
  obtain ⟨c1, c2, rfl, ⟨rfl, hw⟩, rfl, hs⟩ := h
  exact ⟨rfl, hw, hs⟩

def badB (x : Item) : Bool := decide (x.node < -1) || ((x.node == -1) && (!x.name.toList.isEmpty || decide (0 < x.attrs.length)))

theorem bad_any (x : Item) (A : Option Addr) (n c : Nat) (w : World) (D : Nat → Prop) (hs : Sl tAttr w D A n c x.attrs) (hw : (Lit.int .i64 x.node).wf = true) :
    Calls Try.prog 51 #[.agg #[.int .i64 x.node, .string x.name, .slice A n c]] w fun e w' => e = .returned (.bool (badB x)) ∧ Below w.heap.size w w' := by
  have HN := Lib.hid hs.hn
  have hn1 := hs.small
  obtain ⟨k, nm, ats⟩ := x
  dsimp only at *
  clear hw
  by_cases h1 : k < -1
  · go_enter Try.func51, Try.ntmps51
    go_wp2_with fail
    go_ret
    exact ⟨retB (by simp [badB, h1]), (Below.refl _ _).alloc (Nat.le_refl _) _⟩
  · have hz : ∀ o, (w.alloc o).heap.size = w.heap.size + 1 := World.size_alloc w
    have c1 : ∀ w1, Below (w.heap.size + 1) (w.alloc (.cells #[.int .i64 k, .string nm, .slice A n c] 26)) w1 → w1.cell? ⟨w.heap.size, 1, none⟩ = some (.string nm) ∧ w1.cell? ⟨w.heap.size, 2, none⟩ = some (.slice A n c) := fun w1 h => by
      have hg := (h.block w.heap.size (by omega)).trans (heap_alloc_new w _)
      exact ⟨cell_blk hg rfl, cell_blk hg rfl⟩
    have e1 : decide (k < -1) = false := by simpa using h1
    clear h1
    go_enter Try.func51, Try.ntmps51
    go_wp2_with fail
    refine (marker_any k nm A n c _).mono ?_
    rintro e w1 ⟨rfl, hb⟩
    rw [hz] at hb
    obtain ⟨c2, c3⟩ := c1 w1 hb
    have HB := Lib.hid (((Below.refl w.heap.size w).alloc (Nat.le_refl _) _).trans (hb.mono (by omega)))
    clear c1 hz hb
    cases h2 : (k == -1) with
    | false =>
      have H2 := Lib.hid h2
      clear h2
      go_wp2_with fail
      go_ret
      exact ⟨retB (by simp [badB, e1, H2.out]), HB.out⟩
    | true =>
      have H2 := Lib.hid h2
      clear h2
      cases h3 : nm.toList.isEmpty with
      | false =>
        go_wp2_with fail
        go_ret
        exact ⟨retB (by simp [badB, e1, H2.out, h3]), HB.out⟩
      | true =>
        go_wp2_with fail
        go_ret
        exact ⟨retB (by simp only [badB, e1, H2.out, h3, HN.out]; simp), HB.out⟩

/-- slices.IndexFunc, as far as slices.ContainsFunc looks. -/
theorem anyBad_idx  (A : Option Addr) (n c : Nat) (xs : List Item) (p : Item → Bool) (w : World) (B : Nat) (hl : Sl tItem w (lt B) A n c xs) (hB : B ≤ w.heap.size)
    (hp : ∀ W : World, Below w.heap.size w W → ∀ x ∈ xs, ∀ cells, tItem.rep W (lt B) x cells → Calls Try.prog 51 #[.agg cells.toArray] W fun e W' => e = .returned (.bool (p x)) ∧ Below W.heap.size W W') :
    Calls Try.prog 70 #[.slice A n c, .func (.func 51) #[] #[]] w fun e w' => ∃ r : Int, e = .returned (.int .i64 r) ∧ Below w.heap.size w w' ∧ decide (0 ≤ r) = xs.any p := by
  have hn1 := hl.small
  have HL := Lib.hid hl.hn
  go_enter Try.func70, Try.ntmps70
  go_wp2_with fail
  go_loopw [8] (fun i wr => ∃ k : Nat, k ≤ n ∧ i = .int .i64 (k : Int) ∧ Below w.heap.size w wr ∧ (xs.take k).any p = false) (fun i _ => n - (intOf i).toNat)
  case atStart => exact ⟨0, Nat.zero_le _, rfl, Below.refl _ _, by simp⟩
  case round =>
    obtain ⟨k, hk, rfl, hb, hany⟩ := hrel
    have HA := Lib.hid hany
    clear hany
    by_cases hlt : k < n
    · obtain ⟨x, hx⟩ : ∃ x, xs[k]? = some x := get_some (by have := HL.out; omega)
      have HX := Lib.hid hx
      have hmem : x ∈ xs := List.mem_of_getElem? hx
      obtain ⟨bq, oq, cells, rfl, hD, hrep, hcells⟩ := (hl.below hb hB).get hx
      have hcall := hp wr hb x hmem cells hrep
      obtain ⟨A1, n1, c1, rfl, _, _, _⟩ := item_cells hrep
      have hc0 := hcells 0 _ rfl
      have hc1 := hcells 1 _ rfl
      have hc2 := hcells 2 _ rfl
      clear hcells hrep
      simp only [tItem, tMap, tPair, tInt, tStr, tSlice, Nat.reduceAdd, Nat.add_zero, ← Nat.add_assoc] at hc0 hc1 hc2
      clear hx
      have HCALL := Lib.hid hcall
      clear hcall
      have HTS := Lib.hid (take_snoc HX.out)
      cases hpx : p x with
      | true =>
        have HP := Lib.hid hpx
        clear hpx
        go_wp2_with (go_at_call 51; refine HCALL.out.mono ?_; rintro e w1 ⟨rfl, hb1⟩; rw [HP.out])
        have hb2 := Lib.hid (hb.trans (hb1.mono hb.size))
        clear hb hb1
        go_wp2_with fail
        go_ret
        exact ⟨k, rfl, hb2.out, by
          have h1 : xs.any p = true := List.any_eq_true.2 ⟨x, hmem, HP.out⟩
          rw [h1]; simp⟩
      | false =>
        have HP := Lib.hid hpx
        clear hpx
        go_wp2_with (go_at_call 51; refine HCALL.out.mono ?_; rintro e w1 ⟨rfl, hb1⟩; rw [HP.out])
        have hb2 := Lib.hid (hb.trans (hb1.mono hb.size))
        clear hb hb1
        go_wp2_with fail
        go_roundw
        case rel => exact ⟨k + 1, by omega, by go_num, hb2.out, by rw [HTS.out, List.any_append, HA.out]; simp [HP.out]⟩
        case measure => simp [intOf]; omega
    · go_wp2_with fail
      go_ret
      exact ⟨-1, rfl, hb, by
        have h1 : xs.take k = xs := List.take_of_length_le (by have := HL.out; omega)
        have h2 := HA.out
        rw [h1] at h2
        rw [h2]; rfl⟩
theorem anyBad  (A : Option Addr) (n c : Nat) (xs : List Item) (p : Item → Bool) (w : World) (B : Nat) (hl : Sl tItem w (lt B) A n c xs) (hB : B ≤ w.heap.size)
    (hp : ∀ W : World, Below w.heap.size w W → ∀ x ∈ xs, ∀ cells, tItem.rep W (lt B) x cells → Calls Try.prog 51 #[.agg cells.toArray] W fun e W' => e = .returned (.bool (p x)) ∧ Below W.heap.size W W') :
    Calls Try.prog 50 #[.slice A n c, .func (.func 51) #[] #[]] w fun e w' => e = .returned (.bool (xs.any p)) ∧ Below w.heap.size w w' := by
  have HC := Lib.hid (anyBad_idx  A n c xs p w B hl hB hp)
  clear hp
  go_enter Try.func50, Try.ntmps50
  go_wp2_with fail
  refine HC.out.mono ?_
  rintro e w1 ⟨r, rfl, hb, hr⟩
  have HR := Lib.hid hr
  clear hr
  go_wp2_with fail
  go_ret
  exact ⟨retB HR.out, hb⟩

def checkE (l : List Item) : Int := if 60 < l.length then 2 else if l.any badB then 3 else 0

theorem check_any (A : Option Addr) (n c : Nat) (l : List Item) (w : World) (B : Nat) (hl : Sl tItem w (lt B) A n c l) (hB : B ≤ w.heap.size) :
    Calls Try.prog 31 #[.slice A n c] w fun e w' => e = .returned (.int .i64 (checkE l)) ∧ Below w.heap.size w w' := by
  have HL := Lib.hid hl.hn
  have hn1 := hl.small
  by_cases h60 : 60 < n
  · go_enter Try.func31, Try.ntmps31
    go_wp2_with fail
    go_ret
    exact ⟨retI (by rw [checkE, if_pos (by rw [← HL.out]; exact h60)]), Below.refl _ _⟩
  · have HC := Lib.hid (anyBad A n c l badB w B hl hB fun W hW x hx cells hr => by
      obtain ⟨A1, n1, c1, rfl, h1, h2, _⟩ := item_cells hr
      exact bad_any x A1 n1 c1 W _ h1 h2)
    go_enter Try.func31, Try.ntmps31
    go_wp2_with fail
    refine HC.out.mono ?_
    rintro e w1 ⟨rfl, hb⟩
    cases hq : l.any badB with
    | true =>
      have HQ := Lib.hid hq
      clear hq
      go_wp2_with fail
      go_ret
      exact ⟨retI (by rw [checkE, if_neg (by rw [← HL.out]; exact h60), if_pos HQ.out]), hb⟩
    | false =>
      have HQ := Lib.hid hq
      clear hq
      go_wp2_with fail
      go_ret
      exact ⟨retI (by rw [checkE, if_neg (by rw [← HL.out]; exact h60), if_neg (by rw [HQ.out]; simp)]), hb⟩

def eqAB (v x : Attr) : Bool := v.1.toList == x.1.toList && v.2.toList == x.2.toList

theorem indexAttr_any (A : Option Addr) (n c : Nat) (l : List Attr) (v : Attr) (w : World) (B : Nat) (hl : Sl tAttr w (lt B) A n c l) (hB : B ≤ w.heap.size) :
    Calls Try.prog 87 #[.slice A n c, .agg #[.string v.1, .string v.2]] w fun e w' => ∃ r : Int, e = .returned (.int .i64 r) ∧ Below w.heap.size w w' ∧ decide (0 ≤ r) = l.any (eqAB v) := by
  have hn1 := hl.small
  have HL := Lib.hid hl.hn
  go_enter Try.func87, Try.ntmps87
  go_wp2_with fail
  go_loopw [8] (fun i wr => ∃ k : Nat, k ≤ n ∧ i = .int .i64 (k : Int) ∧ Below (w.heap.size + 1) (w.alloc (.cells #[.string v.1, .string v.2] 80)) wr ∧ (l.take k).any (eqAB v) = false) (fun i _ => n - (intOf i).toNat)
  case atStart => exact ⟨0, Nat.zero_le _, rfl, Below.refl _ _, by simp⟩
  case round =>
    obtain ⟨k, hk, rfl, hb, hany⟩ := hrel
    have HA := Lib.hid hany
    clear hany
    have hg := (hb.block w.heap.size (by omega)).trans (heap_alloc_new w _)
    have b0 : wr.cell? ⟨w.heap.size, 0, none⟩ = some (.string v.1) := cell_blk hg rfl
    have b1 : wr.cell? ⟨w.heap.size, 1, none⟩ = some (.string v.2) := cell_blk hg rfl
    have hbw : Below w.heap.size w wr := ((Below.refl _ _).alloc (Nat.le_refl _) _).trans (hb.mono (by omega))
    clear hg
    by_cases hlt : k < n
    · obtain ⟨x, hx⟩ : ∃ x, l[k]? = some x := get_some (by have := HL.out; omega)
      have HX := Lib.hid hx
      obtain ⟨bq, oq, cells, rfl, hD, hrep, hcells⟩ := (hl.below hbw hB).get hx
      clear hx
      obtain ⟨rfl, _, _⟩ := attr_cells hrep
      have hc0 := hcells 0 _ rfl
      have hc1 := hcells 1 _ rfl
      clear hcells hrep
      simp only [tAttr, tPair, tStr, Nat.reduceAdd, Nat.add_zero, ← Nat.add_assoc] at hc0 hc1
      have hlt' : (k : Int) < (n : Int) := by omega
      have heq := eqlAttr
      have hgd : ∀ (w : World) (x y : Operand) (xs ys : Array Value), (eqGuard .eql 80 x y (.agg xs) (.agg ys)).run Try.prog w = .ok () w := fun w x y xs ys => run_eqGuard_agg w .eql _ x y xs ys (by kernel_rfl)
      have HTS := Lib.hid (take_snoc HX.out)
      have hmem : x ∈ l := List.mem_of_getElem? HX.out
      have HM := Lib.hid hmem
      clear hmem
      have HB := Lib.hid hb
      clear hb
      cases h1 : eqAB v x with
      | true =>
        have H1 := Lib.hid h1
        have H1' : Hid ((v.1.toList == x.1.toList && v.2.toList == x.2.toList) = true) := H1
        clear h1
        go_wp2_with fail
        go_quiet (fail)
        rw [H1'.out]
        go_wp2_with fail
        go_ret
        exact ⟨k, rfl, below_drewN hbw _, by
          have h2 : l.any (eqAB v) = true := List.any_eq_true.2 ⟨x, HM.out, H1.out⟩
          rw [h2]; simp⟩
      | false =>
        have H1 := Lib.hid h1
        have H1' : Hid ((v.1.toList == x.1.toList && v.2.toList == x.2.toList) = false) := H1
        clear h1
        go_wp2_with fail
        go_quiet (fail)
        rw [H1'.out]
        go_wp2_with fail
        go_roundw
        case rel => exact ⟨k + 1, by omega, by go_num, below_drewN HB.out _, by rw [HTS.out, List.any_append, HA.out]; simp [H1.out]⟩
        case measure => simp [intOf]; omega
    · go_wp2_with fail
      go_ret
      exact ⟨-1, rfl, hbw, by
        have h1 : l.take k = l := List.take_of_length_le (by have := HL.out; omega)
        have h2 := HA.out
        rw [h1] at h2
        rw [h2]; rfl⟩

theorem containsAttr_any (A : Option Addr) (n c : Nat) (l : List Attr) (v : Attr) (w : World) (B : Nat) (hl : Sl tAttr w (lt B) A n c l) (hB : B ≤ w.heap.size) :
    Calls Try.prog 81 #[.slice A n c, .agg #[.string v.1, .string v.2]] w fun e w' => e = .returned (.bool (l.any (eqAB v))) ∧ Below w.heap.size w w' := by
  have HC := Lib.hid (indexAttr_any A n c l v (w.alloc (.cells #[.string v.1, .string v.2] 80)) B (hl.al hB _) (by simp; omega))
  have hz : ∀ o, (w.alloc o).heap.size = w.heap.size + 1 := World.size_alloc w
  go_enter Try.func81, Try.ntmps81
  go_wp2_with fail
  refine HC.out.mono ?_
  rintro e w1 ⟨r, rfl, hb, hr⟩
  have HR := Lib.hid hr
  have HB := Lib.hid (((Below.refl w.heap.size w).alloc (Nat.le_refl _) _).trans (hb.mono (by rw [hz]; omega)))
  clear hr hb hz
  go_wp2_with fail
  go_ret
  exact ⟨retB HR.out, HB.out⟩

theorem withinOne_any (x : Attr) (b : List Attr) (g : Nat) (A : Option Addr) (n c : Nat) (w : World) (B : Nat) (hl : Sl tAttr w (lt B) A n c b) (hB : B ≤ w.heap.size) (hg : w.cell? ⟨g, 0, none⟩ = some (.slice A n c)) :
    Calls Try.prog 80 #[.agg #[.string x.1, .string x.2], .pointer (some ⟨g, 0, none⟩)] w fun e w' => e = .returned (.bool (!b.any (eqAB x))) ∧ Below w.heap.size w w' := by
  have HC := Lib.hid (containsAttr_any A n c b x (w.alloc (.cells #[.string x.1, .string x.2] 80)) B (hl.al hB _) (by simp; omega))
  have hg2 := cell_al hg
  have hz : ∀ o, (w.alloc o).heap.size = w.heap.size + 1 := World.size_alloc w
  go_enter Try.func80, Try.ntmps80
  go_wp2_with fail
  refine HC.out.mono ?_
  rintro e w1 ⟨rfl, hb⟩
  have HB := Lib.hid (((Below.refl w.heap.size w).alloc (Nat.le_refl _) _).trans (hb.mono (by rw [hz]; omega)))
  clear hb hz
  have HQ : ∃ q, Hid (b.any (eqAB x) = q) := ⟨_, rfl⟩
  obtain ⟨q, HQ⟩ := HQ
  rw [HQ.out]
  go_wp2_with fail
  go_ret
  exact ⟨retB (by rw [HQ.out]), HB.out⟩

/-- slices.IndexFunc, as far as slices.ContainsFunc looks. -/
theorem anyNotIn_idx (g : Nat) (A : Option Addr) (n c : Nat) (xs : List Attr) (p : Attr → Bool) (w : World) (B : Nat) (hl : Sl tAttr w (lt B) A n c xs) (hB : B ≤ w.heap.size)
    (hp : ∀ W : World, Below w.heap.size w W → ∀ x ∈ xs, ∀ cells, tAttr.rep W (lt B) x cells → Calls Try.prog 80 #[.agg cells.toArray, .pointer (some ⟨g, 0, none⟩)] W fun e W' => e = .returned (.bool (p x)) ∧ Below W.heap.size W W') :
    Calls Try.prog 86 #[.slice A n c, .func (.func 80) #[] #[.pointer (some ⟨g, 0, none⟩)]] w fun e w' => ∃ r : Int, e = .returned (.int .i64 r) ∧ Below w.heap.size w w' ∧ decide (0 ≤ r) = xs.any p := by
  have hn1 := hl.small
  have HL := Lib.hid hl.hn
  go_enter Try.func86, Try.ntmps86
  go_wp2_with fail
  go_loopw [8] (fun i wr => ∃ k : Nat, k ≤ n ∧ i = .int .i64 (k : Int) ∧ Below w.heap.size w wr ∧ (xs.take k).any p = false) (fun i _ => n - (intOf i).toNat)
  case atStart => exact ⟨0, Nat.zero_le _, rfl, Below.refl _ _, by simp⟩
  case round =>
    obtain ⟨k, hk, rfl, hb, hany⟩ := hrel
    have HA := Lib.hid hany
    clear hany
    by_cases hlt : k < n
    · obtain ⟨x, hx⟩ : ∃ x, xs[k]? = some x := get_some (by have := HL.out; omega)
      have HX := Lib.hid hx
      have hmem : x ∈ xs := List.mem_of_getElem? hx
      obtain ⟨bq, oq, cells, rfl, hD, hrep, hcells⟩ := (hl.below hb hB).get hx
      have hcall := hp wr hb x hmem cells hrep
      obtain ⟨rfl, _, _⟩ := attr_cells hrep
      have hc0 := hcells 0 _ rfl
      have hc1 := hcells 1 _ rfl
      clear hcells hrep
      simp only [tAttr, tPair, tStr, Nat.reduceAdd, Nat.add_zero, ← Nat.add_assoc] at hc0 hc1
      clear hx
      have HCALL := Lib.hid hcall
      clear hcall
      have HTS := Lib.hid (take_snoc HX.out)
      cases hpx : p x with
      | true =>
        have HP := Lib.hid hpx
        clear hpx
        go_wp2_with (go_at_call 80; refine HCALL.out.mono ?_; rintro e w1 ⟨rfl, hb1⟩; rw [HP.out])
        have hb2 := Lib.hid (hb.trans (hb1.mono hb.size))
        clear hb hb1
        go_wp2_with fail
        go_ret
        exact ⟨k, rfl, hb2.out, by
          have h1 : xs.any p = true := List.any_eq_true.2 ⟨x, hmem, HP.out⟩
          rw [h1]; simp⟩
      | false =>
        have HP := Lib.hid hpx
        clear hpx
        go_wp2_with (go_at_call 80; refine HCALL.out.mono ?_; rintro e w1 ⟨rfl, hb1⟩; rw [HP.out])
        have hb2 := Lib.hid (hb.trans (hb1.mono hb.size))
        clear hb hb1
        go_wp2_with fail
        go_roundw
        case rel => exact ⟨k + 1, by omega, by go_num, hb2.out, by rw [HTS.out, List.any_append, HA.out]; simp [HP.out]⟩
        case measure => simp [intOf]; omega
    · go_wp2_with fail
      go_ret
      exact ⟨-1, rfl, hb, by
        have h1 : xs.take k = xs := List.take_of_length_le (by have := HL.out; omega)
        have h2 := HA.out
        rw [h1] at h2
        rw [h2]; rfl⟩
theorem anyNotIn (g : Nat) (A : Option Addr) (n c : Nat) (xs : List Attr) (p : Attr → Bool) (w : World) (B : Nat) (hl : Sl tAttr w (lt B) A n c xs) (hB : B ≤ w.heap.size)
    (hp : ∀ W : World, Below w.heap.size w W → ∀ x ∈ xs, ∀ cells, tAttr.rep W (lt B) x cells → Calls Try.prog 80 #[.agg cells.toArray, .pointer (some ⟨g, 0, none⟩)] W fun e W' => e = .returned (.bool (p x)) ∧ Below W.heap.size W W') :
    Calls Try.prog 79 #[.slice A n c, .func (.func 80) #[] #[.pointer (some ⟨g, 0, none⟩)]] w fun e w' => e = .returned (.bool (xs.any p)) ∧ Below w.heap.size w w' := by
  have HC := Lib.hid (anyNotIn_idx g A n c xs p w B hl hB hp)
  clear hp
  go_enter Try.func79, Try.ntmps79
  go_wp2_with fail
  refine HC.out.mono ?_
  rintro e w1 ⟨r, rfl, hb, hr⟩
  have HR := Lib.hid hr
  clear hr
  go_wp2_with fail
  go_ret
  exact ⟨retB HR.out, hb⟩

def withinB (a b : List Attr) : Bool := !a.any fun x => !b.any (eqAB x)

theorem within_any (A : Option Addr) (n c : Nat) (a : List Attr) (A' : Option Addr) (n' c' : Nat) (b : List Attr) (w : World) (B : Nat) (hB : B ≤ w.heap.size) (ha : Sl tAttr w (lt B) A n c a) (hb : Sl tAttr w (lt B) A' n' c' b) :
    Calls Try.prog 71 #[.slice A n c, .slice A' n' c'] w fun e w' => e = .returned (.bool (withinB a b)) ∧ Below w.heap.size w w' := by
  have hz : ∀ o, (w.alloc o).heap.size = w.heap.size + 1 := World.size_alloc w
  have HC := Lib.hid (anyNotIn w.heap.size A n c a (fun x => !b.any (eqAB x)) (w.alloc (.cells #[.slice A' n' c'] 24)) B (ha.al hB _) (by rw [hz]; omega) (fun W hW x hx cells hr => by
    obtain ⟨rfl, _, _⟩ := attr_cells hr
    have hg := (hW.block w.heap.size (by rw [hz]; omega)).trans (heap_alloc_new w _)
    exact withinOne_any x b w.heap.size A' n' c' W B (((hb.al hB _).below hW (by rw [hz]; omega))) (Nat.le_trans (by rw [hz]; omega) hW.size) (cell_blk hg rfl)))
  go_enter Try.func71, Try.ntmps71
  go_wp2_with fail
  refine HC.out.mono ?_
  rintro e w1 ⟨rfl, hb⟩
  have HB := Lib.hid (((Below.refl w.heap.size w).alloc (Nat.le_refl _) _).trans (hb.mono (by rw [hz]; omega)))
  clear hb hz
  have HW : Hid ((!a.any fun x => !b.any (eqAB x)) = withinB a b) := rfl
  generalize (a.any fun x => !b.any (eqAB x)) = q at HW ⊢
  go_wp2_with fail
  go_ret
  exact ⟨retB HW.out, HB.out⟩

def alikeB (a b : Item) : Bool := a.name.toList == b.name.toList && a.attrs.length == b.attrs.length && withinB a.attrs b.attrs && withinB b.attrs a.attrs

theorem alike_any (x y : Item) (A : Option Addr) (n c : Nat) (A' : Option Addr) (n' c' : Nat) (w : World) (B : Nat) (hB : B ≤ w.heap.size) (ha : Sl tAttr w (lt B) A n c x.attrs) (hb : Sl tAttr w (lt B) A' n' c' y.attrs) :
    Calls Try.prog 54 #[.agg #[.int .i64 x.node, .string x.name, .slice A n c], .agg #[.int .i64 y.node, .string y.name, .slice A' n' c']] w fun e w' => e = .returned (.bool (alikeB x y)) ∧ Below w.heap.size w w' := by
  have HN := Lib.hid ha.hn
  have HN' := Lib.hid hb.hn
  have hn1 := ha.small
  have hn2 := hb.small
  have hz : ∀ o, (w.alloc o).heap.size = w.heap.size + 1 := World.size_alloc w
  have hzz : ∀ o o', ((w.alloc o).alloc o').heap.size = w.heap.size + 1 + 1 := fun o o' => by rw [World.size_alloc, World.size_alloc]
  have ha2 := fun o o' => (ha.al hB o).al (by rw [hz]; omega) o'
  have hb2 := fun o o' => (hb.al hB o).al (by rw [hz]; omega) o'
  have hbase := fun o o' => ((Below.refl w.heap.size w).alloc (Nat.le_refl _) o).alloc (by rw [hz]; omega) o'
  have hblk0 : ∀ o o', ((w.alloc o).alloc o').heap[w.heap.size]? = some o := fun o o' => (Below.heap_alloc _ o' w.heap.size (by rw [hz]; omega)).trans (heap_alloc_new w o)
  have hblk1 : ∀ o o', ((w.alloc o).alloc o').heap[w.heap.size + 1]? = some o' := fun o o' => by have := heap_alloc_new (w.alloc o) o'; rw [hz] at this; exact this
  cases h1 : (x.name.toList == y.name.toList) with
  | false =>
    have HB := Lib.hid hbase
    clear ha2 hb2 hbase hblk0 hblk1 hz hzz
    go_enter Try.func54, Try.ntmps54
    go_wp2_with fail
    go_ret
    exact ⟨retB (by simp [alikeB, h1]), HB.out _ _⟩
  | true =>
    cases h2 : ((n : Int) == (n' : Int)) with
    | false =>
      have HB := Lib.hid hbase
      clear ha2 hb2 hbase hblk0 hblk1 hz hzz
      go_enter Try.func54, Try.ntmps54
      go_wp2_with fail
      go_ret
      exact ⟨retB (by
        have : (x.attrs.length == y.attrs.length) = false := by rw [← HN.out, ← HN'.out, beq_eq_false_iff_ne]; rw [beq_eq_false_iff_ne] at h2; omega
        simp [alikeB, this]), HB.out _ _⟩
    | true =>
      have H2 : Hid ((x.attrs.length == y.attrs.length) = true) := by show _ = true; rw [← HN.out, ← HN'.out, beq_iff_eq]; rw [beq_iff_eq] at h2; omega
      obtain rfl : n = n' := by rw [beq_iff_eq] at h2; omega
      clear h2
      have HA2 := Lib.hid ha2
      have HB2 := Lib.hid hb2
      have HK0 := Lib.hid hblk0
      have HK1 := Lib.hid hblk1
      have HZZ := Lib.hid hzz
      have HB := Lib.hid hbase
      clear ha2 hb2 hbase hblk0 hblk1 hz hzz
      go_enter Try.func54, Try.ntmps54
      go_wp2_with fail
      refine (within_any A n c x.attrs A' n c' y.attrs _ B (by rw [HZZ.out]; omega) (HA2.out _ _) (HB2.out _ _)).mono ?_
      rintro e w1 ⟨rfl, hb1⟩
      rw [HZZ.out] at hb1
      cases h3 : withinB x.attrs y.attrs with
      | false =>
        have H3 := Lib.hid h3
        have HB' := Lib.hid ((HB.out _ _).trans (hb1.mono (by omega)))
        clear h3 hb1
        go_wp2_with fail
        go_ret
        exact ⟨retB (by simp [alikeB, H3.out]), HB'.out⟩
      | true =>
        have H3 := Lib.hid h3
        have HB' := Lib.hid ((HB.out _ _).trans (hb1.mono (by omega)))
        have ha3 := (HA2.out _ _).below hb1 (by omega)
        have hb3 := (HB2.out _ _).below hb1 (by omega)
        have k0 := cell_blk (i := 2) ((hb1.block w.heap.size (by omega)).trans (HK0.out _ _)) rfl
        have k1 := cell_blk (i := 2) ((hb1.block (w.heap.size + 1) (by omega)).trans (HK1.out _ _)) rfl
        have hz1 := hb1.size
        rw [HZZ.out] at hz1
        clear h3 hb1
        go_wp2_with fail
        refine (within_any A' n c' y.attrs A n c x.attrs _ B (by omega) hb3 ha3).mono ?_
        rintro e w2 ⟨rfl, hb2⟩
        have HB2' := Lib.hid (HB'.out.trans (hb2.mono (by omega)))
        clear hb2 ha3 hb3 k0 k1
        have HR : Hid (withinB y.attrs x.attrs = alikeB x y) := by show _ = _; simp [alikeB, h1, H2.out, H3.out]
        generalize withinB y.attrs x.attrs = q at HR ⊢
        go_wp2_with fail
        go_ret
        exact ⟨retB HR.out, HB2'.out⟩

/-- Where the last marker is: so many items are up to it. -/
def lastN (l : List Item) : Nat := l.length - (l.reverse.takeWhile fun x => !(x.node == -1)).length

theorem last_any (A : Option Addr) (n c : Nat) (l : List Item) (w : World) (B : Nat) (hl : Sl tItem w (lt B) A n c l) (hB : B ≤ w.heap.size) :
    Calls Try.prog 53 #[.slice A n c] w fun e w' => e = .returned (.int .i64 (lastN l)) ∧ Below w.heap.size w w' := by
  have hn1 := hl.small
  have HL := Lib.hid hl.hn
  go_enter Try.func53, Try.ntmps53
  go_wp2_with fail
  go_loopw [3] (fun i wr => ∃ k : Nat, k ≤ n ∧ i = .int .i64 (k : Int) ∧ Below w.heap.size w wr ∧ lastN l = lastN (l.take k)) (fun i _ => (intOf i).toNat)
  case atStart => exact ⟨n, Nat.le_refl _, rfl, Below.refl _ _, by rw [HL.out, List.take_length]⟩
  case round =>
    obtain ⟨k, hk, rfl, hb, hany⟩ := hrel
    have HA := Lib.hid hany
    clear hany
    by_cases hlt : 0 < k
    · obtain ⟨x, hx⟩ : ∃ x, l[k - 1]? = some x := get_some (by have := HL.out; omega)
      have HX := Lib.hid (take_rev hlt hx)
      have HT := Lib.hid (take_pred hlt hx)
      have HLK : Hid ((l.take k).length = k) := by have := HL.out; show _ = _; rw [List.length_take]; omega
      obtain ⟨bq, oq, cells, rfl, hD, hrep, hcells⟩ := (hl.below hb hB).get hx
      obtain ⟨A1, n1, c1, rfl, _, _, _⟩ := item_cells hrep
      have hc0 := hcells 0 _ rfl
      have hc1 := hcells 1 _ rfl
      have hc2 := hcells 2 _ rfl
      clear hcells hrep hx
      simp only [tItem, tMap, tPair, tInt, tStr, tSlice, Nat.reduceAdd, Nat.add_zero, ← Nat.add_assoc] at hc0 hc1 hc2
      go_wp2_with fail
      refine (marker_any x.node x.name A1 n1 c1 _).mono ?_
      rintro e w1 ⟨rfl, hb1⟩
      have HB := Lib.hid (hb.trans (hb1.mono hb.size))
      clear hb hb1
      cases h1 : (x.node == -1) with
      | true =>
        have H1 := Lib.hid h1
        clear h1
        go_wp2_with fail
        go_ret
        exact ⟨retI (by rw [HA.out, lastN, HX.out, List.takeWhile_cons, H1.out, HLK.out]; simp), HB.out⟩
      | false =>
        have H1 := Lib.hid h1
        clear h1
        go_wp2_with fail
        go_roundw
        case rel => exact ⟨k - 1, by omega, by go_num, HB.out, by
          have h2 : (l.take (k - 1)).length = k - 1 := by have := HL.out; rw [List.length_take]; omega
          rw [HA.out, lastN, HX.out, List.takeWhile_cons, H1.out, HLK.out, lastN, h2]; simp; omega⟩
        case measure => simp [intOf]; omega
    · go_wp2_with fail
      go_ret
      obtain rfl : k = 0 := by omega
      exact ⟨retI (by rw [HA.out]; simp [lastN]), hb⟩

theorem lastN_le (l : List Item) : lastN l ≤ l.length := Nat.sub_le _ _
theorem lastN_cons {l : List Item} {x : Item} {r : List Item} (h : l.reverse = x :: r) : lastN l = if x.node == -1 then l.length else lastN r.reverse := by
  have hl : l.length = r.length + 1 := by rw [← List.length_reverse, h, List.length_cons]
  rw [lastN, h, List.takeWhile_cons]
  cases hx : (x.node == -1)
  · simp [lastN]; omega
  · simp

/-- From the end: the first of a name, ahead of which no marker stands; -1: there is none. -/
def foundRev (name : ByteArray) : List Item → Int
  | [] => -1
  | x :: r => if x.node == -1 then -1 else if x.name.toList == name.toList then r.length else foundRev name r

theorem found_any (A : Option Addr) (n c : Nat) (l : List Item) (name : ByteArray) (w : World) (B : Nat) (hl : Sl tItem w (lt B) A n c l) (hB : B ≤ w.heap.size) :
    Calls Try.prog 33 #[.slice A n c, .string name] w fun e w' => e = .returned (.int .i64 (foundRev name l.reverse)) ∧ Below w.heap.size w w' := by
  have hn1 := hl.small
  have HL := Lib.hid hl.hn
  go_enter Try.func33, Try.ntmps33
  go_wp2_with fail
  go_loopw [5] (fun i wr => ∃ k : Nat, k ≤ n ∧ i = .int .i64 ((k : Int) - 1) ∧ Below w.heap.size w wr ∧ lastN l = lastN (l.take k) ∧ foundRev name l.reverse = foundRev name (l.take k).reverse) (fun i _ => (intOf i + 1).toNat)
  case atStart => exact ⟨n, Nat.le_refl _, rfl, Below.refl _ _, by rw [HL.out, List.take_length], by rw [HL.out, List.take_length]⟩
  case round =>
    obtain ⟨k, hk, rfl, hb, hlast, hfound⟩ := hrel
    have HA := Lib.hid hlast
    have HF := Lib.hid hfound
    clear hlast hfound
    have hlen : (l.take k).length = k := by have := HL.out; rw [List.length_take]; omega
    have HLK := Lib.hid hlen
    have hle := lastN_le (l.take k)
    rw [hlen, ← HA.out] at hle
    clear hlen
    by_cases hlt : 0 < k
    · obtain ⟨x, hx⟩ : ∃ x, l[k - 1]? = some x := get_some (by have := HL.out; omega)
      have HX := Lib.hid (take_rev hlt hx)
      have HC := Lib.hid (lastN_cons (take_rev hlt hx))
      have hlr := hl.below hb hB
      obtain ⟨bq, oq, cells, rfl, hD, hrep, hcells⟩ := hlr.get hx
      obtain ⟨A1, n1, c1, rfl, _, _, _⟩ := item_cells hrep
      have hcall := Lib.hid (last_any _ n c l wr B hlr (Nat.le_trans hB hb.size))
      have HCE := Lib.hid hcells
      clear hcells hrep hx
      generalize hq : lastN l = q at *
      have HQ := Lib.hid hq
      clear hq
      go_wp2_with fail
      refine hcall.out.mono ?_
      rintro e w1 ⟨rfl, hb1⟩
      have hD' : bq < wr.heap.size := Nat.lt_of_lt_of_le hD (Nat.le_trans hB hb.size)
      have hc1 := (hb1.cell (p := ⟨bq, _, none⟩) hD').trans (HCE.out 1 _ rfl)
      simp only [tItem, tMap, tPair, tInt, tStr, tSlice, Nat.reduceAdd, ← Nat.add_assoc] at hc1
      have HB := Lib.hid (hb.trans (hb1.mono hb.size))
      clear hb hb1 hlr
      cases h1 : (x.node == -1) with
      | true =>
        obtain rfl : q = k := by have := HC.out; rw [h1, if_pos rfl, HLK.out] at this; rw [HA.out, this]
        go_wp2_with fail
        go_ret
        exact ⟨retI (by rw [HF.out, HX.out, foundRev, h1]; rfl), HB.out⟩
      | false =>
        have hqk : q ≤ k - 1 := by
          have h2 := HC.out
          rw [h1, if_neg (by simp), List.reverse_reverse] at h2
          have h3 := lastN_le (l.take (k - 1))
          have h4 := HA.out
          rw [List.length_take] at h3
          omega
        have H1 := Lib.hid h1
        clear h1
        cases h2 : (x.name.toList == name.toList) with
        | true =>
          go_wp2_with fail
          go_ret
          exact ⟨retI (by
            have h3 : (l.take (k - 1)).reverse.length = k - 1 := by have := HL.out; rw [List.length_reverse, List.length_take]; omega
            rw [HF.out, HX.out, foundRev, H1.out, h2, h3]; simp; omega), HB.out⟩
        | false =>
          go_wp2_with fail
          go_roundw
          case rel => exact ⟨k - 1, by omega, by go_num, HB.out, by
            have h3 := HC.out
            rw [H1.out, if_neg (by simp), List.reverse_reverse] at h3
            rw [HA.out, h3], by rw [HF.out, HX.out, foundRev, H1.out, h2]; rfl⟩
          case measure => simp [intOf]; omega
    · obtain rfl : k = 0 := by omega
      have hcall := Lib.hid (last_any _ n c l wr B (hl.below hb hB) (Nat.le_trans hB hb.size))
      generalize hq : lastN l = q at *
      go_wp2_with fail
      refine hcall.out.mono ?_
      rintro e w1 ⟨rfl, hb1⟩
      have HB := Lib.hid (hb.trans (hb1.mono hb.size))
      clear hb hb1
      go_wp2_with fail
      go_ret
      exact ⟨retI (by rw [HF.out]; simp [foundRev]), HB.out⟩

theorem find_any (A : Option Addr) (n c : Nat) (l : List Item) (name : ByteArray) (w : World) (B : Nat) (hl : Sl tItem w (lt B) A n c l) (hB : B ≤ w.heap.size) (h0 : checkE l = 0) :
    Calls Try.prog 11 #[.slice A n c, .string name] w fun e w' => e = .returned (.tuple #[.int .i64 (max (foundRev name l.reverse) 0), .bool (decide (0 ≤ foundRev name l.reverse)), .int .i64 0]) ∧ Below w.heap.size w w' := by
  have HC := Lib.hid (check_any A n c l w B hl hB)
  have H0 := Lib.hid h0
  clear h0
  go_enter Try.func11, Try.ntmps11
  go_wp2_with fail
  refine HC.out.mono ?_
  rintro e w1 ⟨rfl, hb⟩
  rw [H0.out]
  go_wp2_with fail
  refine (found_any A n c l name w1 B (hl.below hb hB) (Nat.le_trans hB hb.size)).mono ?_
  rintro e w2 ⟨rfl, hb2⟩
  have HB := Lib.hid (hb.trans (hb2.mono hb.size))
  clear hb hb2
  go_wp2_with fail
  go_ret3
  exact ⟨rfl, HB.out⟩

/-- From the end: so many items are up to the last one that need not be made again. -/
def missRev (op : List Int) : List Item → Nat
  | [] => 0
  | x :: r => if x.node == -1 then r.length + 1 else if op.contains x.node then r.length + 1 else missRev op r

theorem missing_any (A : Option Addr) (n c : Nat) (l : List Item) (A' : Option Addr) (n' c' : Nat) (op : List Int) (w : World) (B : Nat) (hl : Sl tItem w (lt B) A n c l) (ho : Sl (tInt .i64) w (lt B) A' n' c' op) (hB : B ≤ w.heap.size) :
    Calls Try.prog 34 #[.slice A n c, .slice A' n' c'] w fun e w' => e = .returned (.int .i64 (missRev op l.reverse)) ∧ Below w.heap.size w w' := by
  have hn1 := hl.small
  have HL := Lib.hid hl.hn
  go_enter Try.func34, Try.ntmps34
  go_wp2_with fail
  go_loopw [5] (fun i wr => ∃ k : Nat, k ≤ n ∧ i = .int .i64 (k : Int) ∧ Below w.heap.size w wr ∧ lastN l = lastN (l.take k) ∧ missRev op l.reverse = missRev op (l.take k).reverse) (fun i _ => (intOf i).toNat)
  case atStart => exact ⟨n, Nat.le_refl _, rfl, Below.refl _ _, by rw [HL.out, List.take_length], by rw [HL.out, List.take_length]⟩
  case round =>
    obtain ⟨k, hk, rfl, hb, hlast, hfound⟩ := hrel
    have HA := Lib.hid hlast
    have HF := Lib.hid hfound
    clear hlast hfound
    have hlen : (l.take k).length = k := by have := HL.out; rw [List.length_take]; omega
    have HLK := Lib.hid hlen
    have hle := lastN_le (l.take k)
    rw [hlen, ← HA.out] at hle
    clear hlen
    by_cases hlt : 0 < k
    · obtain ⟨x, hx⟩ : ∃ x, l[k - 1]? = some x := get_some (by have := HL.out; omega)
      have HX := Lib.hid (take_rev hlt hx)
      have HC := Lib.hid (lastN_cons (take_rev hlt hx))
      have hlr := hl.below hb hB
      obtain ⟨bq, oq, cells, rfl, hD, hrep, hcells⟩ := hlr.get hx
      obtain ⟨A1, n1, c1, rfl, _, _, _⟩ := item_cells hrep
      have hcall := Lib.hid (last_any _ n c l wr B hlr (Nat.le_trans hB hb.size))
      have HCE := Lib.hid hcells
      clear hcells hrep hx
      generalize hq : lastN l = q at *
      have HQ := Lib.hid hq
      clear hq
      have hD' : bq < wr.heap.size := Nat.lt_of_lt_of_le hD (Nat.le_trans hB hb.size)
      cases h1 : (x.node == -1) with
      | true =>
        obtain rfl : q = k := by have := HC.out; rw [h1, if_pos rfl, HLK.out] at this; rw [HA.out, this]
        go_wp2_with fail
        refine hcall.out.mono ?_
        rintro e w1 ⟨rfl, hb1⟩
        have HB := Lib.hid (hb.trans (hb1.mono hb.size))
        clear hb hb1 hlr
        go_wp2_with fail
        go_ret
        exact ⟨retI (by
            have h3 : (l.take (q - 1)).reverse.length = q - 1 := by have := HL.out; rw [List.length_reverse, List.length_take]; omega
            rw [HF.out, HX.out, missRev, h1, h3]; simp; omega), HB.out⟩
      | false =>
        have hqk : q ≤ k - 1 := by
          have h2 := HC.out
          rw [h1, if_neg (by simp), List.reverse_reverse] at h2
          have h3 := lastN_le (l.take (k - 1))
          have h4 := HA.out
          rw [List.length_take] at h3
          omega
        have hqk' : q < k := by omega
        have H1 := Lib.hid h1
        clear h1
        go_wp2_with fail
        refine hcall.out.mono ?_
        rintro e w1 ⟨rfl, hb1⟩
        have hc0 := (hb1.cell (p := ⟨bq, _, none⟩) hD').trans (HCE.out 0 _ rfl)
        simp only [tItem, tMap, tPair, tInt, tStr, tSlice, Nat.reduceAdd, Nat.add_zero] at hc0
        have HB := Lib.hid (hb.trans (hb1.mono hb.size))
        have ho' := (ho.below hb hB).below hb1 (Nat.le_trans hB hb.size)
        clear hb hb1 hlr
        go_wp2_with fail
        refine (containsInt_any A' n' c' op x.node w1 _ ho').mono ?_
        rintro e w2 ⟨rfl, rfl⟩
        cases h2 : op.contains x.node with
        | true =>
          have H2 := Lib.hid h2
          clear h2
          go_wp2_with fail
          go_ret
          exact ⟨retI (by
            have h3 : (l.take (k - 1)).reverse.length = k - 1 := by have := HL.out; rw [List.length_reverse, List.length_take]; omega
            rw [HF.out, HX.out, missRev, H1.out, H2.out, h3]; simp; omega), HB.out⟩
        | false =>
          have H2 := Lib.hid h2
          clear h2
          go_wp2_with fail
          go_roundw
          case rel => exact ⟨k - 1, by omega, by go_num, HB.out, by
            have h3 := HC.out
            rw [H1.out, if_neg (by simp), List.reverse_reverse] at h3
            rw [HA.out, h3], by rw [HF.out, HX.out, missRev, H1.out, H2.out]; rfl⟩
          case measure => simp [intOf]; omega
    · obtain rfl : k = 0 := by omega
      have hcall := Lib.hid (last_any _ n c l wr B (hl.below hb hB) (Nat.le_trans hB hb.size))
      generalize hq : lastN l = q at *
      go_wp2_with fail
      refine hcall.out.mono ?_
      rintro e w1 ⟨rfl, hb1⟩
      have HB := Lib.hid (hb.trans (hb1.mono hb.size))
      clear hb hb1
      go_wp2_with fail
      go_ret
      exact ⟨retI (by rw [HF.out]; simp [missRev]), HB.out⟩

end Go.Proofs.Ytabilpahmmkjkaa
