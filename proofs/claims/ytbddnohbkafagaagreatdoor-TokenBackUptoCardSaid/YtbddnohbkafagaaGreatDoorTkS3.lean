/-
Tokens: Show.
-/
import Derived.Test.YtbddnohbkafagaaGreatDoorTkShow1
import Derived.Test.YtbddnohbkafagaaGreatDoorTkR5
namespace Go.Proofs.YtbddnohbkafagaaGreatDoor
open Go.RowKit Go.Cl
attribute [local go_sem ↓] Go.wp_at_zero Go.wp_at_succ
/-- What Show says of tokens, from a shower and what is written on. -/
def showE : Sh → List UInt8 → List Tk → List UInt8 × Int
  | _, acc, [] => (acc, 0)
  | s, acc, t :: l => if rightE t ≠ 0 then ([], rightE t) else if fitsB s t = false then ([], 9) else if 4000 < (acc ++ showS s t).length then ([], 2) else showE (stepS s t) (acc ++ showS s t) l
theorem right_zero {t : Tk} (h : rightE t = 0) : rightB t = true := by
  unfold rightE at h
  cases hb : rightB t with
  | true => rfl
  | false =>
    rw [hb] at h
    split at h
    · exact absurd ‹false = true› (by decide)
    · split at h <;> cases h
theorem showE_ok {l : List Tk} : ∀ {s : Sh} {acc x : List UInt8}, acc.length ≤ 4000 → showE s acc l = (x, 0) → x.length ≤ 4000 ∧ ∃ y, showAll s l = some y ∧ x = acc ++ y := by
  induction l with
  | nil =>
    intro s acc x ha h
    obtain ⟨rfl, _⟩ := Prod.mk.inj h
    exact ⟨ha, [], rfl, by simp⟩
  | cons t l ih =>
    intro s acc x ha h
    unfold showE at h
    split at h
    · rename_i h1
      exact absurd (Prod.mk.inj h).2 h1
    · rename_i h1
      split at h
      · cases (Prod.mk.inj h).2
      · rename_i h2
        split at h
        · cases (Prod.mk.inj h).2
        · rename_i h3
          obtain ⟨k1, y, k2, k3⟩ := ih (by omega) h
          refine ⟨k1, showS s t ++ y, ?_, by rw [k3, List.append_assoc]⟩
          have h1' : rightB t = true := right_zero (by simpa using h1)
          have h2' : fitsB s t = true := by simpa using h2
          unfold showAll
          rw [h1', h2', k2]
          rfl
theorem showE_no {l : List Tk} : ∀ {s : Sh} {acc x : List UInt8} {e : Int}, showE s acc l = (x, e) → e ≠ 0 → x = [] := by
  induction l with
  | nil =>
    intro s acc x e h he
    exact absurd (Prod.mk.inj h).2.symm he
  | cons t l ih =>
    intro s acc x e h he
    unfold showE at h
    split at h
    · exact (Prod.mk.inj h).1.symm
    · split at h
      · exact (Prod.mk.inj h).1.symm
      · split at h
        · exact (Prod.mk.inj h).1.symm
        · exact ih h he
theorem bld_row {B b Y : Nat} {l : List Value} {w w' : World} (h : Bld B b l w) (hg : w.grownBy w' (some Y)) (hY : Y < B) : Bld B b l w' := by
  have hn : ∀ v : Value, ∀ n xs, w.ownsRow B 5 1 v n xs → v.ownBlock = none ∨ v.ownBlock ≠ some Y := fun v n xs ho => by
    cases hv : v.ownBlock with
    | none => exact .inl rfl
    | some g =>
      right
      intro e
      have := (ho.lt g hv).1
      injection e with e
      omega
  have hbY : B ≤ b → some b ≠ some Y := fun h e => by injection e with e; omega
  rcases h with ⟨hB, v, hbk, hown, hv⟩ | ⟨hB, v, hbk, hown, hv⟩
  · exact Or.inl ⟨hB, v, (hg.block b (Lib.BuilderAt.lt ⟨hB, v, hbk, hown, hv⟩) (hbY hB)).trans hbk, hown.kept hg (hn v _ _ hown), hv⟩
  · exact Or.inr ⟨hB, v, (hg.block b (Lib.BuilderAt.lt ⟨hB, v, hbk, hown, hv⟩) (hbY hB)).trans hbk, hown.kept hg (hn v _ _ hown), hv⟩
/-- Between two rounds of Show. -/
structure ShI (w wr : World) (Y : Nat) (s : Sh) (acc : List UInt8) : Prop where
  low : Below w.heap.size w wr
  box : ∃ rw, ShM wr Y rw s.step s.text ∧ rw.data.toList = s.raw
  bld : Bld (Y + 1) (Y + 1) (Lib.byteCells acc) wr
  few : acc.length ≤ 4000
  ok : ShOk s
  raw : s.raw = [] ∨ 0 < rawN s.raw
theorem sh_step {s : Sh} (h : ShOk s) : -100 ≤ s.step ∧ s.step ≤ 100 := by
  rcases h with h | ⟨h, _⟩ | ⟨h, _⟩ <;> omega
theorem sh_raw {s : Sh} (h : s.raw = [] ∨ 0 < rawN s.raw) : s.raw.length ≤ 1000 ∧ ∀ b ∈ s.raw, b.toNat < 128 := by
  rcases h with h | h
  · rw [h]; exact ⟨by simp, by simp⟩
  · exact rawN_small h
theorem sh_next {s : Sh} {t : Tk} (h : s.raw = [] ∨ 0 < rawN s.raw) : (stepS s t).raw = [] ∨ 0 < rawN (stepS s t).raw := by
  unfold stepS
  split
  · rename_i h1; exact .inr h1.2
  · split
    · exact h
    · exact h
theorem right_kinds {t : Tk} (h : rightE t = 0) : 1 ≤ t.kind ∧ t.kind ≤ 5 := by
  have := right_kind (right_zero h)
  omega
theorem showS_len {s : Sh} {t : Tk} (h : attW t.attrs ≤ 1048576 ∧ t.name.size ≤ 1048576 ∧ t.text.size ≤ 1048576) : (showS s t).length ≤ 3000000000 := by
  obtain ⟨h1, h2, h3⟩ := h
  have h4 : t.name.size = (nmL t).length := Lib.size_eq t.name
  have h5 : t.text.size = (txL t).length := Lib.size_eq t.text
  have h6 : (escL false (txL t)).length ≤ 1296 * (txL t).length := esc_len false t.text.data.toList
  have h7 := attrs_len t.attrs t.attrs.length
  rw [List.take_length] at h7
  unfold showS startS
  split
  · simp only [List.length_append, List.length_cons, List.length_nil]
    split <;> simp only [List.length_cons, List.length_nil] <;> omega
  · split
    · simp only [List.length_append, List.length_cons, List.length_nil]; omega
    · split
      · simp only [List.length_append, List.length_cons, List.length_nil]; omega
      · split
        · simp only [List.length_append, List.length_cons, List.length_nil]; omega
        · split
          · omega
          · omega
/-- What is asked of the tokens' sizes. -/
def TkSmall (x : Tk) : Prop := attW x.attrs ≤ 1048576 ∧ x.name.size ≤ 1048576 ∧ x.text.size ≤ 1048576
set_option maxRecDepth 100000 in
set_option maxHeartbeats 4000000 in
theorem tkShowAll_any (xs : List TkP) (A : Option Addr) (n c : Nat) (w : World) (B : Nat) (hB : B ≤ w.heap.size) (hl : Sl tTok w (lt B) A n c xs) (hsz : ∀ x ∈ xs, TkSmall x.1) (hn6 : n ≤ 2000000) (m : Int) (hm : maxLenAt w m) (hT : FoldTabs w) :
    Calls Tryz.prog 7 #[.slice A n c] w fun e w' => e = .returned (.tuple #[.string (bs (showE ⟨[], 0, false⟩ [] (xs.map Prod.fst)).1), .int .i64 (showE ⟨[], 0, false⟩ [] (xs.map Prod.fst)).2]) ∧ Below w.heap.size w w' := by
  obtain ⟨r, hr⟩ : ∃ r, showE ⟨[], 0, false⟩ [] (xs.map Prod.fst) = r := ⟨_, rfl⟩
  rw [hr]
  have HR := Lib.hid hr
  have HL := Lib.hid hl
  have HN := Lib.hid hl.hn
  have HSZ := Lib.hid hsz
  have HM := Lib.hid hm
  have HT := Lib.hid hT
  have hY0 : w.heap.size ≠ 0 := by
    intro e
    have := World.block_lt_of_cell? w _ hm
    dsimp only at this
    omega
  clear hr hl hsz hm hT
  obtain ⟨w1, hw1⟩ : ∃ w1, w1 = w.alloc (.cells #[.string ⟨#[]⟩, .int .i64 0, .bool false] 41) := ⟨_, rfl⟩
  obtain ⟨w2, hw2⟩ : ∃ w2, w2 = w1.alloc (.cells #[.pointer none, .slice none 0 0] 44) := ⟨_, rfl⟩
  have z1 : w1.heap.size = w.heap.size + 1 := by rw [hw1]; exact World.size_alloc _ _
  have HI0 : Hid (ShI w w2 w.heap.size ⟨[], 0, false⟩ []) := by
    refine ⟨?_, ⟨⟨#[]⟩, ?_, rfl⟩, ?_, by simp, .inl rfl, .inl rfl⟩
    · rw [hw2, hw1]; exact tal (tal (Below.refl _ _) _) _
    · show w2.heap[w.heap.size]? = _
      rw [hw2, Lib.alloc_old _ _ _ (by omega), hw1]; exact heap_alloc_new w _
    · rw [hw2, ← z1]; exact bld_new w1
  go_enter Tryz.func7, Tryz.ntmps7
  go_upto_region 3 with fail
  rw [← hw1, ← hw2]
  clear hw1 hw2 z1
  go_wp2_with fail
  go_loopw [11] (fun i wr => ∃ (j : Nat) (s : Sh) (acc : List UInt8), j ≤ n ∧ i = .int .i64 (j : Int) ∧ Hid (ShI w wr w.heap.size s acc) ∧ Hid (showE s acc ((xs.map Prod.fst).drop j) = r)) (fun i _ => n - (intOf i).toNat)
  case atStart => exact ⟨0, _, _, Nat.zero_le _, rfl, HI0, HR⟩
  case round =>
    obtain ⟨j, s, acc, hj, rfl, HI, HE⟩ := hrel
    by_cases hlt : j < n
    · obtain ⟨x, hx⟩ : ∃ x, xs[j]? = some x := get_some (by have := HN.out; omega)
      have HI2 := HI
      obtain ⟨b, o, cs, rfl, hD, hrep, hc⟩ := (HL.out.below HI.out.low hB).get hx
      obtain ⟨A2, n2, c2, rfl, hat⟩ := tok_cells hrep
      have g0 : wr.cell? ⟨b, o + j * 7, none⟩ = some (.int .i64 x.1.kind) := hc 0 _ rfl
      have g1 : wr.cell? ⟨b, o + j * 7 + 1, none⟩ = some (.string x.1.name) := hc 1 _ rfl
      have g2 : wr.cell? ⟨b, o + j * 7 + 2, none⟩ = some (.slice A2 n2 c2) := hc 2 _ rfl
      have g3 : wr.cell? ⟨b, o + j * 7 + 3, none⟩ = some (.string x.1.text) := hc 3 _ rfl
      have g4 : wr.cell? ⟨b, o + j * 7 + 4, none⟩ = some (.bool x.1.self) := hc 4 _ rfl
      have g5 : wr.cell? ⟨b, o + j * 7 + 5, none⟩ = some (.int .i64 x.2.1) := hc 5 _ rfl
      have g6 : wr.cell? ⟨b, o + j * 7 + 6, none⟩ = some (.int .i64 x.2.2) := hc 6 _ rfl
      have HAT := Lib.hid hat.attrs
      have HSX := Lib.hid (HSZ.out x (List.mem_of_getElem? hx))
      have hdrop : (xs.map Prod.fst).drop j = x.1 :: (xs.map Prod.fst).drop (j + 1) := by
        have h1 : (xs.map Prod.fst)[j]? = some x.1 := by rw [List.getElem?_map, hx]; rfl
        have h2 := List.getElem?_eq_some_iff.1 h1
        rw [List.drop_eq_getElem_cons h2.1, h2.2]
      have HE2 := HE.out
      rw [hdrop] at HE2
      unfold showE at HE2
      have HE3 := Lib.hid HE2
      clear HE2 hdrop hat hrep hc hx hD HE HI
      obtain ⟨w4, hw4⟩ : ∃ w4, w4 = wr.alloc (.cells (tokC x.1.kind x.1.name (.slice A2 n2 c2) x.1.text x.1.self x.2.1 x.2.2) 32) := ⟨_, rfl⟩
      have HX4 := Lib.hid (show w4.heap[wr.heap.size]? = some (.cells (tokC x.1.kind x.1.name (.slice A2 n2 c2) x.1.text x.1.self x.2.1 x.2.2) 32 (0, 0)) from by rw [hw4]; exact heap_alloc_new wr _)
      have HB4 := Lib.hid (show Below wr.heap.size wr w4 from by rw [hw4]; exact tal (Below.refl _ _) _)
      have HNX : Hid (∀ W, Below w4.heap.size w4 W → W.heap[wr.heap.size]? = some (.cells (tokC x.1.kind x.1.name (.slice A2 n2 c2) x.1.text x.1.self x.2.1 x.2.2) 32 (0, 0))) := fun W hb => (hb.block _ (Array.getElem?_eq_some_iff.1 HX4.out).1).trans HX4.out
      have HWL : Hid (∀ W, Below w4.heap.size w4 W → Below wr.heap.size wr W) := fun W hb => HB4.out.trans (hb.mono HB4.out.size)
      have HW0 : Hid (∀ W, Below wr.heap.size wr W → Below w.heap.size w W) := fun W hb => HI2.out.low.trans (hb.mono HI2.out.low.size)
      have HBR : Hid (B ≤ wr.heap.size) := Nat.le_trans hB HI2.out.low.size
      have HRI := Lib.hid (tkRight_any x A2 n2 c2 w4 B (Nat.le_trans HBR.out HB4.out.size) (HAT.out.below HB4.out HBR.out) (fun a ha => by have h1 := attW_mem ha; have h2 := HSX.out.1; omega) (by have h1 := attW_len x.1.attrs; have h2 := HSX.out.1; omega) (by have := HSX.out.2.2; omega) m (cell_be HM.out (HW0.out _ HB4.out)))
      obtain ⟨rw, hsh, hraw⟩ := HI2.out.box
      have HSH := Lib.hid hsh
      have HRW := Lib.hid hraw
      have hst := sh_step HI2.out.ok
      have hrz := sh_raw HI2.out.raw
      rw [← hraw] at hrz
      have HFI := Lib.hid (fun (W : World) (hW : Below w4.heap.size w4 W) => tkFits_any x A2 n2 c2 W w.heap.size rw s.step s.text ((HSH.out.next HB4.out).next hW) (by rw [Lib.size_eq]; exact hrz.1) hrz.2 HSX.out.2.2 (HT.out.next (Nat.le_refl _) (HW0.out _ (HWL.out W hW))))
      have HSO := Lib.hid (fun (W : World) (hW : Below w4.heap.size w4 W) (hk : 1 ≤ x.1.kind ∧ x.1.kind ≤ 5) => tkShow_any x A2 n2 c2 W w.heap.size B (Nat.le_trans HBR.out (HWL.out W hW).size) (HAT.out.below (HWL.out W hW) HBR.out) hB HSX.out.1 HSX.out.2.1 HSX.out.2.2 hk m (cell_be HM.out (HW0.out _ (HWL.out W hW))) hY0 rw s.step s.text ((HSH.out.next HB4.out).next hW) hst)
      have hse : (⟨rw.data.toList, s.step, s.text⟩ : Sh) = s := by rw [hraw]
      rw [hse] at HFI HSO
      clear hsh hraw hst hrz hse
      obtain ⟨v1, hv1⟩ : ∃ v1, rightE x.1 = v1 := ⟨_, rfl⟩
      rw [hv1] at HRI HE3
      have HV1 := Lib.hid hv1
      clear hv1
      by_cases h0 : v1 = 0
      · subst h0
        obtain ⟨v2, hv2⟩ : ∃ v2, fitsB s x.1 = v2 := ⟨_, rfl⟩
        rw [hv2] at HFI HE3
        have HV2 := Lib.hid hv2
        clear hv2
        cases v2 with
        | false =>
          have HRR : Hid (r = ([], 9)) := by
            have h1 := HE3.out
            rw [if_neg (by simp), if_pos rfl] at h1
            exact h1.symm
          go_upto_region 6 with fail
          rw [← hw4]
          clear hw4 g0 g1 g2 g3 g4 g5 g6
          have x0 := cell_blk (i := 0) HX4.out rfl
          have x1 := cell_blk (i := 1) HX4.out rfl
          have x2 := cell_blk (i := 2) HX4.out rfl
          have x3 := cell_blk (i := 3) HX4.out rfl
          have x4 := cell_blk (i := 4) HX4.out rfl
          have x5 := cell_blk (i := 5) HX4.out rfl
          have x6 := cell_blk (i := 6) HX4.out rfl
          go_wp2_with (first | (go_at_call 13; refine HRI.out.mono ?_; rintro e w5 ⟨rfl, hb5⟩; have HB5 := Lib.hid hb5; have y0 := cell_blk (i := 0) (HNX.out w5 hb5) rfl; have y1 := cell_blk (i := 1) (HNX.out w5 hb5) rfl; have y2 := cell_blk (i := 2) (HNX.out w5 hb5) rfl; have y3 := cell_blk (i := 3) (HNX.out w5 hb5) rfl; have y4 := cell_blk (i := 4) (HNX.out w5 hb5) rfl; have y5 := cell_blk (i := 5) (HNX.out w5 hb5) rfl; have y6 := cell_blk (i := 6) (HNX.out w5 hb5) rfl; clear hb5) | (go_at_call 14; refine (HFI.out _ HB5.out).mono ?_; rintro e w6 ⟨rfl, hb6⟩; have HB6 := Lib.hid (tst HB5.out hb6); clear hb6))
          go_ret2
          exact ⟨by rw [HRR.out]; rfl, HW0.out _ (HWL.out _ HB6.out)⟩
        | true =>
          have hkd := right_kinds HV1.out
          obtain ⟨S, hS⟩ : ∃ S, showS s x.1 = S := ⟨_, rfl⟩
          have hSl : S.length ≤ 3000000000 := by rw [← hS]; exact showS_len HSX.out
          rw [hS] at HSO HE3
          clear hS
          obtain ⟨L, hLL⟩ : ∃ L, (acc ++ S).length = L := ⟨_, rfl⟩
          have HLL := Lib.hid hLL
          have HBL := Lib.hid (fun (W V : World) (hW : Below w4.heap.size w4 W) (hg : W.grownBy V (some w.heap.size)) => bld_row (bld_below HI2.out.bld (HWL.out W hW)) hg (Nat.lt_succ_self _))
          have HWR := Lib.hid (fun (V : World) (hb : Bld (w.heap.size + 1) (w.heap.size + 1) (Lib.byteCells acc) V) => writeString_any (w.heap.size + 1) (w.heap.size + 1) (Lib.byteCells acc) (bs S) V hb (by rw [Lib.byteCells_length]; have := HI2.out.few; show _ + S.length ≤ _; omega) (by have := hb.elim Lib.BuilderAt.lt Lib.BuilderAt.lt; omega))
          have HLN := Lib.hid (fun (V : World) (hb : Bld (w.heap.size + 1) (w.heap.size + 1) (Lib.byteCells acc ++ Lib.strCells (bs S)) V) => (show Calls Tryz.prog 17 #[.pointer (some ⟨w.heap.size + 1, 0, none⟩)] V fun e w' => e = .returned (.int .i64 (L : Int)) ∧ w' = V from by
            have h1 := Tryz.Builder_Len (w.heap.size + 1) (w.heap.size + 1) _ V hb
            rw [show (Lib.byteCells acc ++ Lib.strCells (bs S)).length = L from by rw [List.length_append, Lib.byteCells_length, Lib.strCells_length, ← HLL.out, List.length_append]; rfl] at h1
            exact h1))
          clear hLL
          by_cases hL : 4000 < L
          · have hL' : decide ((4000 : Int) < (L : Int)) = true := decide_eq_true (by omega)
            have hL2 : (4000 : Int) < (L : Int) := by omega
            have HRR : Hid (r = ([], 2)) := by
              have h1 := HE3.out
              rw [if_neg (by simp), if_neg (by simp), HLL.out, if_pos hL] at h1
              exact h1.symm
            go_upto_region 6 with fail
            rw [← hw4]
            clear hw4 g0 g1 g2 g3 g4 g5 g6
            have x0 := cell_blk (i := 0) HX4.out rfl
            have x1 := cell_blk (i := 1) HX4.out rfl
            have x2 := cell_blk (i := 2) HX4.out rfl
            have x3 := cell_blk (i := 3) HX4.out rfl
            have x4 := cell_blk (i := 4) HX4.out rfl
            have x5 := cell_blk (i := 5) HX4.out rfl
            have x6 := cell_blk (i := 6) HX4.out rfl
            go_wp2_with (first | (go_at_call 13; refine HRI.out.mono ?_; rintro e w5 ⟨rfl, hb5⟩; have HB5 := Lib.hid hb5; have y0 := cell_blk (i := 0) (HNX.out w5 hb5) rfl; have y1 := cell_blk (i := 1) (HNX.out w5 hb5) rfl; have y2 := cell_blk (i := 2) (HNX.out w5 hb5) rfl; have y3 := cell_blk (i := 3) (HNX.out w5 hb5) rfl; have y4 := cell_blk (i := 4) (HNX.out w5 hb5) rfl; have y5 := cell_blk (i := 5) (HNX.out w5 hb5) rfl; have y6 := cell_blk (i := 6) (HNX.out w5 hb5) rfl; clear hb5) | (go_at_call 14; refine (HFI.out _ HB5.out).mono ?_; rintro e w6 ⟨rfl, hb6⟩; have HB6 := Lib.hid (tst HB5.out hb6); have z0 := cell_blk (i := 0) (HNX.out w6 (tst HB5.out hb6)) rfl; have z1 := cell_blk (i := 1) (HNX.out w6 (tst HB5.out hb6)) rfl; have z2 := cell_blk (i := 2) (HNX.out w6 (tst HB5.out hb6)) rfl; have z3 := cell_blk (i := 3) (HNX.out w6 (tst HB5.out hb6)) rfl; have z4 := cell_blk (i := 4) (HNX.out w6 (tst HB5.out hb6)) rfl; have z5 := cell_blk (i := 5) (HNX.out w6 (tst HB5.out hb6)) rfl; have z6 := cell_blk (i := 6) (HNX.out w6 (tst HB5.out hb6)) rfl; clear hb6) | (go_at_call 16; refine (HSO.out _ HB6.out hkd).mono ?_; rintro e w7 ⟨rfl, hg7, hsh7⟩; have HG7 := Lib.hid hg7; have HSH7 := Lib.hid hsh7; have HBD7 := Lib.hid (HBL.out _ _ HB6.out hg7); clear hg7 hsh7) | (go_at_call 15; refine (HWR.out _ HBD7.out).mono ?_; rintro e w8 ⟨rfl, hbd8, hb8⟩; have HBD8 := Lib.hid hbd8; have HB8 := Lib.hid (((HW0.out _ (HWL.out _ HB6.out)).grown HG7.out (HW0.out _ (HWL.out _ HB6.out)).size (fun k e => by cases e; exact Nat.le_refl _)).trans (hb8.mono (Nat.le_succ _))); have HSH8 : Hid (∃ rw, ShM w8 w.heap.size rw (stepS s x.1).step (stepS s x.1).text ∧ rw.data.toList = (stepS s x.1).raw) := (by obtain ⟨rw7, h1, h2⟩ := HSH7.out; exact ⟨rw7, (hb8.block _ (Nat.lt_succ_self _)).trans h1, h2⟩); clear hbd8 hb8) | (go_at_call 17; refine (HLN.out _ HBD8.out).mono ?_; rintro e w9 ⟨rfl, hw9⟩; rw [hw9]; clear hw9))
            go_ret2
            exact ⟨by rw [HRR.out]; rfl, HB8.out⟩
          · have hL' : decide ((4000 : Int) < (L : Int)) = false := decide_eq_false (by omega)
            have hL2 : ¬ (4000 : Int) < (L : Int) := by omega
            have HE4 : Hid (showE (stepS s x.1) (acc ++ S) ((xs.map Prod.fst).drop (j + 1)) = r) := by
              have h1 := HE3.out
              rw [if_neg (by simp), if_neg (by simp), HLL.out, if_neg hL] at h1
              exact h1
            go_upto_region 6 with fail
            rw [← hw4]
            clear hw4 g0 g1 g2 g3 g4 g5 g6
            have x0 := cell_blk (i := 0) HX4.out rfl
            have x1 := cell_blk (i := 1) HX4.out rfl
            have x2 := cell_blk (i := 2) HX4.out rfl
            have x3 := cell_blk (i := 3) HX4.out rfl
            have x4 := cell_blk (i := 4) HX4.out rfl
            have x5 := cell_blk (i := 5) HX4.out rfl
            have x6 := cell_blk (i := 6) HX4.out rfl
            go_wp2_with (first | (go_at_call 13; refine HRI.out.mono ?_; rintro e w5 ⟨rfl, hb5⟩; have HB5 := Lib.hid hb5; have y0 := cell_blk (i := 0) (HNX.out w5 hb5) rfl; have y1 := cell_blk (i := 1) (HNX.out w5 hb5) rfl; have y2 := cell_blk (i := 2) (HNX.out w5 hb5) rfl; have y3 := cell_blk (i := 3) (HNX.out w5 hb5) rfl; have y4 := cell_blk (i := 4) (HNX.out w5 hb5) rfl; have y5 := cell_blk (i := 5) (HNX.out w5 hb5) rfl; have y6 := cell_blk (i := 6) (HNX.out w5 hb5) rfl; clear hb5) | (go_at_call 14; refine (HFI.out _ HB5.out).mono ?_; rintro e w6 ⟨rfl, hb6⟩; have HB6 := Lib.hid (tst HB5.out hb6); have z0 := cell_blk (i := 0) (HNX.out w6 (tst HB5.out hb6)) rfl; have z1 := cell_blk (i := 1) (HNX.out w6 (tst HB5.out hb6)) rfl; have z2 := cell_blk (i := 2) (HNX.out w6 (tst HB5.out hb6)) rfl; have z3 := cell_blk (i := 3) (HNX.out w6 (tst HB5.out hb6)) rfl; have z4 := cell_blk (i := 4) (HNX.out w6 (tst HB5.out hb6)) rfl; have z5 := cell_blk (i := 5) (HNX.out w6 (tst HB5.out hb6)) rfl; have z6 := cell_blk (i := 6) (HNX.out w6 (tst HB5.out hb6)) rfl; clear hb6) | (go_at_call 16; refine (HSO.out _ HB6.out hkd).mono ?_; rintro e w7 ⟨rfl, hg7, hsh7⟩; have HG7 := Lib.hid hg7; have HSH7 := Lib.hid hsh7; have HBD7 := Lib.hid (HBL.out _ _ HB6.out hg7); clear hg7 hsh7) | (go_at_call 15; refine (HWR.out _ HBD7.out).mono ?_; rintro e w8 ⟨rfl, hbd8, hb8⟩; have HBD8 := Lib.hid hbd8; have HB8 := Lib.hid (((HW0.out _ (HWL.out _ HB6.out)).grown HG7.out (HW0.out _ (HWL.out _ HB6.out)).size (fun k e => by cases e; exact Nat.le_refl _)).trans (hb8.mono (Nat.le_succ _))); have HSH8 : Hid (∃ rw, ShM w8 w.heap.size rw (stepS s x.1).step (stepS s x.1).text ∧ rw.data.toList = (stepS s x.1).raw) := (by obtain ⟨rw7, h1, h2⟩ := HSH7.out; exact ⟨rw7, (hb8.block _ (Nat.lt_succ_self _)).trans h1, h2⟩); clear hbd8 hb8) | (go_at_call 17; refine (HLN.out _ HBD8.out).mono ?_; rintro e w9 ⟨rfl, hw9⟩; rw [hw9]; clear hw9))
            go_roundw
            case rel => exact ⟨j + 1, stepS s x.1, acc ++ S, by omega, by first | rfl | (congr 1; omega), ⟨HB8.out, HSH8.out, by have h1 := HBD8.out; rw [Lib.strCells_eq, ← Lib.byteCells_append] at h1; exact h1, by rw [HLL.out]; omega, step_ok HI2.out.ok HV2.out, sh_next HI2.out.raw⟩, HE4⟩
            case measure => simp [intOf]; omega
      · have h0' : (v1 == 0) = false := beq_eq_false_iff_ne.2 h0
        have HRR : Hid (r = ([], v1)) := by
          have h1 := HE3.out
          rw [if_pos h0] at h1
          exact h1.symm
        go_upto_region 6 with fail
        rw [← hw4]
        clear hw4 g0 g1 g2 g3 g4 g5 g6
        have x0 := cell_blk (i := 0) HX4.out rfl
        have x1 := cell_blk (i := 1) HX4.out rfl
        have x2 := cell_blk (i := 2) HX4.out rfl
        have x3 := cell_blk (i := 3) HX4.out rfl
        have x4 := cell_blk (i := 4) HX4.out rfl
        have x5 := cell_blk (i := 5) HX4.out rfl
        have x6 := cell_blk (i := 6) HX4.out rfl
        go_wp2_with (go_at_call 13; refine HRI.out.mono ?_; rintro e w5 ⟨rfl, hb5⟩; have HB5 := Lib.hid hb5; have y0 := cell_blk (i := 0) (HNX.out w5 hb5) rfl; have y1 := cell_blk (i := 1) (HNX.out w5 hb5) rfl; have y2 := cell_blk (i := 2) (HNX.out w5 hb5) rfl; have y3 := cell_blk (i := 3) (HNX.out w5 hb5) rfl; have y4 := cell_blk (i := 4) (HNX.out w5 hb5) rfl; have y5 := cell_blk (i := 5) (HNX.out w5 hb5) rfl; have y6 := cell_blk (i := 6) (HNX.out w5 hb5) rfl; clear hb5)
        go_ret2
        exact ⟨by rw [HRR.out]; rfl, HW0.out _ (HWL.out _ HB5.out)⟩
    · obtain rfl : j = n := by omega
      have HRR : Hid (r = (acc, 0)) := by
        have h1 := HE.out
        rw [HN.out, List.drop_eq_nil_of_le (by simp)] at h1
        exact h1.symm
      have HST := Lib.hid (Tryz.Builder_String_any (w.heap.size + 1) (w.heap.size + 1) acc wr HI.out.bld (by have := HI.out.bld.elim Lib.BuilderAt.lt Lib.BuilderAt.lt; omega))
      go_wp2_with (go_at_call 18; refine HST.out.mono ?_; rintro e w5 ⟨rfl, hb5⟩; have HB5 := Lib.hid hb5; clear hb5)
      go_ret2
      exact ⟨by rw [HRR.out]; rfl, HI.out.low.trans (HB5.out.mono (by omega))⟩
end Go.Proofs.YtbddnohbkafagaaGreatDoor

/-
Tokens: what must be in any case.
-/
namespace Go.Proofs.YtbddnohbkafagaaGreatDoor
open Go.RowKit Go.Cl
attribute [local go_sem ↓] Go.wp_at_zero Go.wp_at_succ
def begA : List DAttr := [((⟨#[98]⟩ : ByteArray), (⟨#[34]⟩ : ByteArray))]
def begL : List TkP := [(⟨1, (⟨#[97]⟩ : ByteArray), begA, ⟨#[]⟩, false⟩, 0, 0), (⟨3, ⟨#[]⟩, [], (⟨#[60]⟩ : ByteArray), false⟩, 0, 0)]
theorem beg_shown : showE ⟨[], 0, false⟩ [] (begL.map Prod.fst) = (([60, 97, 32, 98, 61, 34, 38, 113, 117, 111, 116, 59, 34, 62, 38, 108, 116, 59] : List UInt8), 0) := by kernel_rfl
set_option maxRecDepth 100000 in
set_option maxHeartbeats 4000000 in
theorem tkBegun_any (w : World) (m : Int) (hm : maxLenAt w m) (hT : FoldTabs w) : Calls Tryz.prog 8 #[] w fun e w' => e = .returned (.bool true) ∧ Below w.heap.size w w' := by
  obtain ⟨w1, hw1⟩ : ∃ w1, w1 = w.alloc (.cells #[.string (⟨#[98]⟩ : ByteArray), .string (⟨#[34]⟩ : ByteArray)] 55) := ⟨_, rfl⟩
  obtain ⟨w2, hw2⟩ : ∃ w2, w2 = w1.alloc (.cells #[.int .i64 1, .string (⟨#[97]⟩ : ByteArray), .slice (some ⟨w.heap.size, 0, none⟩) 1 1, .string ⟨#[]⟩, .bool false, .int .i64 0, .int .i64 0, .int .i64 3, .string ⟨#[]⟩, .slice none 0 0, .string (⟨#[60]⟩ : ByteArray), .bool false, .int .i64 0, .int .i64 0] 32) := ⟨_, rfl⟩
  have z1 : w1.heap.size = w.heap.size + 1 := by rw [hw1]; exact World.size_alloc _ _
  have hs1 : Sl tDA w1 (lt w1.heap.size) (some ⟨w.heap.size, 0, none⟩) 1 1 begA := by
    have h := Sl.fresh (n := 1) (w := w) (B := w.heap.size) 55 (T := tDA) (xs := begA) ⟨[.string (⟨#[98]⟩ : ByteArray), .string (⟨#[34]⟩ : ByteArray)], _, rfl, ⟨[_], [_], rfl, ⟨rfl, by decide⟩, rfl, by decide⟩, rfl⟩ (Nat.le_refl _) rfl (by decide)
    rw [z1, hw1]
    exact h
  have hs2 : Sl tTok w2 (lt w2.heap.size) (some ⟨w1.heap.size, 0, none⟩) 2 2 begL := by
    have h := Sl.fresh (n := 2) (w := w1) (B := w1.heap.size) 32 (T := tTok) (xs := begL) ⟨tokCells (⟨1, (⟨#[97]⟩ : ByteArray), begA, ⟨#[]⟩, false⟩, 0, 0) (some ⟨w.heap.size, 0, none⟩) 1 1, _, rfl, tok_rep ⟨hs1, by decide, by decide, by decide, by decide, by decide⟩, tokCells (⟨3, ⟨#[]⟩, [], (⟨#[60]⟩ : ByteArray), false⟩, 0, 0) none 0 0, [], rfl, tok_rep ⟨Sl.nil, by decide, by decide, by decide, by decide, by decide⟩, rfl⟩ (Nat.le_refl _) rfl (by decide)
    rw [hw2, World.size_alloc]
    exact h
  have hb02 : Below w.heap.size w w2 := by rw [hw2, hw1]; exact tal (tal (Below.refl _ _) _) _
  have HC := Lib.hid (tkShowAll_any begL _ 2 2 w2 w2.heap.size (Nat.le_refl _) hs2 (by
    intro x hx
    rcases List.mem_cons.1 hx with rfl | hx
    · exact ⟨by decide, by decide, by decide⟩
    · rcases List.mem_cons.1 hx with rfl | hx
      · exact ⟨by decide, by decide, by decide⟩
      · cases hx) (by decide) m (cell_be hm hb02) (hT.next (Nat.le_refl _) hb02))
  rw [beg_shown, z1] at HC
  have HB := Lib.hid hb02
  clear hs1 hs2 hb02
  go_enter Tryz.func8, Tryz.ntmps8
  go_wp2_with (rw [← hw1, ← hw2]; clear hw1 hw2 z1; refine HC.out.mono ?_; rintro e w3 ⟨rfl, hb3⟩; have HB3 := Lib.hid (tst HB.out hb3); clear hb3)
  go_ret
  exact ⟨congrArg (fun z => Ending.returned (Value.bool z)) (by rw [ByteArray.toList_eq]; rfl), HB3.out⟩
end Go.Proofs.YtbddnohbkafagaaGreatDoor
