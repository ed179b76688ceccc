/-
The walk of record.Redo: where all may be done again.
-/
import Derived.Test.YtfeighclpaijoaaGreatDoorUndo
namespace Go.Proofs.YtfeighclpaijoaaGreatDoor
open Go.RowKit Go.Cl
attribute [local go_sem ↓] Go.wp_at_zero Go.wp_at_succ

/-- Values that are stored one behind the other. -/
def putL : World → Nat → Nat → List Value → World
  | w, _, _, [] => w
  | w, g, o, v :: r => putL (w.setCell ⟨g, o, none⟩ v) g (o + 1) r
theorem putL_blk {g : Nat} {e : TypeId} : ∀ (vs pre post : List Value) (w : World), w.heap[g]? = some (.cells (pre ++ post).toArray e (0, 0)) → vs.length ≤ post.length →
    (putL w g pre.length vs).heap[g]? = some (.cells (pre ++ vs ++ post.drop vs.length).toArray e (0, 0)) ∧ w.grownBy (putL w g pre.length vs) (some g) := by
  intro vs
  induction vs with
  | nil => intro pre post w h _; exact ⟨by simpa [putL] using h, World.grownBy.refl w _⟩
  | cons v r ih =>
    intro pre post w h hl
    cases post with
    | nil => simp at hl
    | cons p post =>
      have h1 : (w.setCell ⟨g, pre.length, none⟩ v).heap[g]? = some (.cells ((pre ++ [v]) ++ post).toArray e (0, 0)) := by
        rw [set_blk h]
        congr 2
        apply Array.toList_inj.1
        rw [Array.toList_setIfInBounds]
        simp
      have h2 := ih (pre ++ [v]) post _ h1 (by simpa using hl)
      rw [List.length_append, List.length_singleton] at h2
      refine ⟨?_, grownBy.trans' (grown_set w g pre.length v) h2.2⟩
      have h3 := h2.1
      simpa [putL] using h3
theorem make_edits (w : World) (n : Nat) (hn : n ≤ 1000) : ∃ arr : List Value, arr.length = n * 12 ∧ (Instr.makeSlice 25 (.int .i64 (n : Int)) (.int .i64 (n : Int))).run Tryz.prog w = .ok (.slice (some ⟨w.heap.size, 0, none⟩) n n) (w.alloc (.cells arr.toArray 45)) := by
  obtain ⟨i0, hi, hz0, hz1, hz2⟩ := info_parts (show (Tryz.prog.info? 45).map (fun i => (i.zero, i.size, i.bytes)) = some (some (.agg (edtCells ⟨0, 0, 0, 0, ⟨#[]⟩, ⟨#[]⟩, ⟨0, ⟨#[]⟩, [], ⟨#[]⟩, 0, []⟩⟩ none 0 0 none 0 0)), 12, 160) from by kernel_rfl)
  have h := run_makeSlice (P := Tryz.prog) w 25 45 i0 _ Tryz.underlying25 hi hz0 .i64 .i64 (n : Int) (n : Int) (by omega) (Int.le_refl _) (by rw [hz1]; simp; omega) (by rw [hz2]; omega) (by omega)
  rw [h]
  refine ⟨(madeCells (Value.agg (edtCells ⟨0, 0, 0, 0, ⟨#[]⟩, ⟨#[]⟩, ⟨0, ⟨#[]⟩, [], ⟨#[]⟩, 0, []⟩⟩ none 0 0 none 0 0)).cells ((n : Int).toNat * i0.size)).toList, ?_, by rw [Array.toArray_toList, Int.toNat_natCast]⟩
  rw [Array.length_toList, size_madeCells, hz1, Int.toNat_natCast]
/-- At the head of a round. -/
def RdRel (w : World) (A : Option Addr) (n c : Nat) (q : Bool) (B : Nat) (es : List Edt) (k : Nat) (wr : World) : Prop :=
  Below w.heap.size w wr ∧ wr.heap[w.heap.size]? = some (.cells #[.slice A n c, .bool q] 24 (0, 0)) ∧ wr.heap[w.heap.size + 1]? = some (.cells #[.slice none 0 0, .bool false] 24 (0, 0)) ∧
    ∃ cells rest, Row tEdt wr (lt B) (es.take k) cells ∧ rest.length = (es.length - k) * 12 ∧ wr.heap[w.heap.size + 2]? = some (.cells (cells ++ rest).toArray 45 (0, 0))
set_option maxRecDepth 100000 in
set_option maxHeartbeats 8000000 in
theorem redo_any (A : Option Addr) (n c : Nat) (l : List Nd) (q : Bool) (A2 : Option Addr) (m c2 : Nat) (ss : List Stp) (w : World) (B : Nat) (hl : Sl tNd w (lt B) A n c l) (hs : Sl tStp w (lt B) A2 m c2 ss) (hB : B ≤ w.heap.size) (hm : ss.length ≤ 40) (l' : List Nd) (hal : alR l (ss.map fun s => s.edit) = (l', 0, 0)) :
    Calls Tryz.prog 13 #[.agg #[.slice A n c, .bool q], .slice A2 m c2] w (UndoPost w l' q) := by
  obtain ⟨es, hes⟩ : ∃ es, ss.map (fun s => s.edit) = es := ⟨_, rfl⟩
  have hlen : es.length = ss.length := by rw [← hes, List.length_map]
  have hget : ∀ (i : Nat) s, ss[i]? = some s → es[i]? = some s.edit := fun i s h => by rw [← hes, List.getElem?_map, h]; rfl
  rw [hes] at hal
  clear hes
  have hmn := hs.hn
  obtain ⟨wa, hwa⟩ : ∃ wa, wa = w.alloc (.cells #[.slice A n c, .bool q] 24) := ⟨_, rfl⟩
  obtain ⟨w0, hw0⟩ : ∃ w0, w0 = wa.alloc (.cells #[.slice none 0 0, .bool false] 24) := ⟨_, rfl⟩
  obtain ⟨arr, harr, hmk⟩ := make_edits w0 m (by omega)
  obtain ⟨w1, hw1⟩ : ∃ w1, w1 = w0.alloc (.cells arr.toArray 45) := ⟨_, rfl⟩
  have za : wa.heap.size = w.heap.size + 1 := by rw [hwa]; exact World.size_alloc w _
  have z0 : w0.heap.size = w.heap.size + 2 := by rw [hw0, World.size_alloc, za]
  have hxd : w1.heap[w.heap.size]? = some (.cells #[.slice A n c, .bool q] 24 (0, 0)) := by rw [hw1, Lib.alloc_old _ _ _ (by omega), hw0, Lib.alloc_old _ _ _ (by omega), hwa]; exact heap_alloc_new w _
  have hxr : w1.heap[w.heap.size + 1]? = some (.cells #[.slice none 0 0, .bool false] 24 (0, 0)) := by rw [hw1, Lib.alloc_old _ _ _ (by omega), hw0, ← za]; exact heap_alloc_new wa _
  have hxs : w1.heap[w.heap.size + 2]? = some (.cells arr.toArray 45 (0, 0)) := by rw [hw1, ← z0]; exact heap_alloc_new w0 _
  have hb1 : Below w.heap.size w w1 := by rw [hw1, hw0, hwa]; exact (((Below.refl _ _).alloc (Nat.le_refl _) _).alloc (by simp) _).alloc (by simp; omega) _
  have H0 : Hid (RdRel w A n c q B es 0 w1) := ⟨hb1, hxd, hxr, [], arr, Row.nil, by rw [harr, hlen, ← hmn]; rfl, hxs⟩
  have HL := Lib.hid hl
  have HSS := Lib.hid hs
  have HBW : Hid (B ≤ w.heap.size) := hB
  have HAL := Lib.hid hal
  have HGET := Lib.hid hget
  have HLEN := Lib.hid hlen
  have HMN := Lib.hid hmn
  have hm40 : m ≤ 40 := by omega
  have hmc := hs.hc
  rw [z0, ← hw1] at hmk
  rw [hw0, hwa] at hmk
  clear za hxd hxr hxs hb1 hl hs hB hal hget hlen hm harr hmn z0
  go_enter Tryz.func13, Tryz.ntmps13
  go_upto_region 2 with fail
  try rw [← hwa, ← hw0, ← hw1]
  clear hwa hw0 hw1 hmk
  go_upto_region 3 with fail
  go_loopw [17] (fun s wr => ∃ k : Nat, k ≤ m ∧ s = .int .i64 (k : Int) ∧ Hid (RdRel w A n c q B es k wr)) (fun s _ => m - (intOf s).toNat)
  case atStart => exact ⟨0, Nat.zero_le _, rfl, H0⟩
  case round =>
    obtain ⟨k, hk, rfl, HR⟩ := hrel
    obtain ⟨hbr, hdr, hrr, cells, rest, hrow, hrest, hsr⟩ := HR.out
    by_cases hlt : k < m
    · obtain ⟨s, hs⟩ : ∃ s, ss[k]? = some s := get_some (by have := HMN.out; omega)
      obtain ⟨b, o, Aa, na, ca, Ak, nk, ck, rfl, hbb, hok, hce⟩ := stp_get (HSS.out.below hbr HBW.out) hs
      have he := HGET.out k s hs
      have f0 : wr.cell? ⟨b, o + k * 16, none⟩ = some (.int .i64 s.edit.do_) := hce 0 _ rfl
      have f1 : wr.cell? ⟨b, o + k * 16 + 1, none⟩ = some (.int .i64 s.edit.at_) := by rw [Nat.add_assoc]; exact hce 1 _ rfl
      have f2 : wr.cell? ⟨b, o + k * 16 + 2, none⟩ = some (.int .i64 s.edit.to_) := by rw [Nat.add_assoc]; exact hce 2 _ rfl
      have f3 : wr.cell? ⟨b, o + k * 16 + 3, none⟩ = some (.int .i64 s.edit.before) := by rw [Nat.add_assoc]; exact hce 3 _ rfl
      have f4 : wr.cell? ⟨b, o + k * 16 + 4, none⟩ = some (.string s.edit.name) := by rw [Nat.add_assoc]; exact hce 4 _ rfl
      have f5 : wr.cell? ⟨b, o + k * 16 + 5, none⟩ = some (.string s.edit.value) := by rw [Nat.add_assoc]; exact hce 5 _ rfl
      have f6 : wr.cell? ⟨b, o + k * 16 + 6, none⟩ = some (.int .i64 s.edit.node.kind) := by rw [Nat.add_assoc]; exact hce 6 _ rfl
      have f7 : wr.cell? ⟨b, o + k * 16 + 7, none⟩ = some (.string s.edit.node.name) := by rw [Nat.add_assoc]; exact hce 7 _ rfl
      have f8 : wr.cell? ⟨b, o + k * 16 + 8, none⟩ = some (.slice Aa na ca) := by rw [Nat.add_assoc]; exact hce 8 _ rfl
      have f9 : wr.cell? ⟨b, o + k * 16 + 9, none⟩ = some (.string s.edit.node.text) := by rw [Nat.add_assoc]; exact hce 9 _ rfl
      have f10 : wr.cell? ⟨b, o + k * 16 + 10, none⟩ = some (.int .i64 s.edit.node.parent) := by rw [Nat.add_assoc]; exact hce 10 _ rfl
      have f11 : wr.cell? ⟨b, o + k * 16 + 11, none⟩ = some (.slice Ak nk ck) := by rw [Nat.add_assoc]; exact hce 11 _ rfl
      have f12 : wr.cell? ⟨b, o + k * 16 + 12, none⟩ = some (.bool s.had) := by rw [Nat.add_assoc]; exact hce 12 _ rfl
      have f13 : wr.cell? ⟨b, o + k * 16 + 13, none⟩ = some (.string s.was) := by rw [Nat.add_assoc]; exact hce 13 _ rfl
      have f14 : wr.cell? ⟨b, o + k * 16 + 14, none⟩ = some (.int .i64 s.parent) := by rw [Nat.add_assoc]; exact hce 14 _ rfl
      have f15 : wr.cell? ⟨b, o + k * 16 + 15, none⟩ = some (.int .i64 s.place) := by rw [Nat.add_assoc]; exact hce 15 _ rfl
      have i1 : (0 : Int) ≤ (k : Int) := by omega
      have i2 : (k : Int) < (m : Int) := by omega
      have hcl : cells.length = k * 12 := by
        have h1 := hrow.len
        rw [List.length_take] at h1
        have h2 := HLEN.out
        have h3 := HMN.out
        rw [Nat.min_eq_left (by omega)] at h1
        exact h1
      obtain ⟨r0, hre⟩ : ∃ r0 : Value, ∃ r1 : Value, ∃ r2 : Value, ∃ r3 : Value, ∃ r4 : Value, ∃ r5 : Value, ∃ r6 : Value, ∃ r7 : Value, ∃ r8 : Value, ∃ r9 : Value, ∃ r10 : Value, ∃ r11 : Value, ∃ rest', rest = r0 :: r1 :: r2 :: r3 :: r4 :: r5 :: r6 :: r7 :: r8 :: r9 :: r10 :: r11 :: rest' := by
        have h2 := HLEN.out
        have h3 := HMN.out
        have h4 : 12 ≤ rest.length := by rw [hrest]; omega
        match rest, h4 with
        | r0 :: r1 :: r2 :: r3 :: r4 :: r5 :: r6 :: r7 :: r8 :: r9 :: r10 :: r11 :: rest', _ => exact ⟨r0, r1, r2, r3, r4, r5, r6, r7, r8, r9, r10, r11, rest', rfl⟩
      obtain ⟨r1, r2, r3, r4, r5, r6, r7, r8, r9, r10, r11, rest', rfl⟩ := hre
      obtain ⟨w5, hw5⟩ : ∃ w5, w5 = wr.alloc (.cells #[.int .i64 s.edit.do_, .int .i64 s.edit.at_, .int .i64 s.edit.to_, .int .i64 s.edit.before, .string s.edit.name, .string s.edit.value, .int .i64 s.edit.node.kind, .string s.edit.node.name, .slice Aa na ca, .string s.edit.node.text, .int .i64 s.edit.node.parent, .slice Ak nk ck, .bool s.had, .string s.was, .int .i64 s.parent, .int .i64 s.place] 48) := ⟨_, rfl⟩
      have hx5 : w5.heap[wr.heap.size]? = some (.cells #[.int .i64 s.edit.do_, .int .i64 s.edit.at_, .int .i64 s.edit.to_, .int .i64 s.edit.before, .string s.edit.name, .string s.edit.value, .int .i64 s.edit.node.kind, .string s.edit.node.name, .slice Aa na ca, .string s.edit.node.text, .int .i64 s.edit.node.parent, .slice Ak nk ck, .bool s.had, .string s.was, .int .i64 s.parent, .int .i64 s.place] 48 (0, 0)) := by rw [hw5]; exact heap_alloc_new wr _
      have hb5 : Below wr.heap.size wr w5 := by rw [hw5]; exact (Below.refl _ _).alloc (Nat.le_refl _) _
      have hs5 := (hb5.block (w.heap.size + 2) (Array.getElem?_eq_some_iff.1 hsr).1).trans hsr
      have g0 := cell_blk (i := 0) hx5 rfl
      have g1 := cell_blk (i := 1) hx5 rfl
      have g2 := cell_blk (i := 2) hx5 rfl
      have g3 := cell_blk (i := 3) hx5 rfl
      have g4 := cell_blk (i := 4) hx5 rfl
      have g5 := cell_blk (i := 5) hx5 rfl
      have g6 := cell_blk (i := 6) hx5 rfl
      have g7 := cell_blk (i := 7) hx5 rfl
      have g8 := cell_blk (i := 8) hx5 rfl
      have g9 := cell_blk (i := 9) hx5 rfl
      have g10 := cell_blk (i := 10) hx5 rfl
      have g11 := cell_blk (i := 11) hx5 rfl
      have t0 : w5.cell? ⟨w.heap.size + 2, k * 12, none⟩ = some r0 := cell_blk hs5 (by rw [← hcl]; simp)
      have u0 : w5.frozen? ⟨w.heap.size + 2, k * 12, none⟩ = false := free_blk hs5
      have t1 : w5.cell? ⟨w.heap.size + 2, k * 12 + 1, none⟩ = some r1 := cell_blk hs5 (by rw [← hcl]; simp)
      have u1 : w5.frozen? ⟨w.heap.size + 2, k * 12 + 1, none⟩ = false := free_blk hs5
      have t2 : w5.cell? ⟨w.heap.size + 2, k * 12 + 2, none⟩ = some r2 := cell_blk hs5 (by rw [← hcl]; simp)
      have u2 : w5.frozen? ⟨w.heap.size + 2, k * 12 + 2, none⟩ = false := free_blk hs5
      have t3 : w5.cell? ⟨w.heap.size + 2, k * 12 + 3, none⟩ = some r3 := cell_blk hs5 (by rw [← hcl]; simp)
      have u3 : w5.frozen? ⟨w.heap.size + 2, k * 12 + 3, none⟩ = false := free_blk hs5
      have t4 : w5.cell? ⟨w.heap.size + 2, k * 12 + 4, none⟩ = some r4 := cell_blk hs5 (by rw [← hcl]; simp)
      have u4 : w5.frozen? ⟨w.heap.size + 2, k * 12 + 4, none⟩ = false := free_blk hs5
      have t5 : w5.cell? ⟨w.heap.size + 2, k * 12 + 5, none⟩ = some r5 := cell_blk hs5 (by rw [← hcl]; simp)
      have u5 : w5.frozen? ⟨w.heap.size + 2, k * 12 + 5, none⟩ = false := free_blk hs5
      have t6 : w5.cell? ⟨w.heap.size + 2, k * 12 + 6, none⟩ = some r6 := cell_blk hs5 (by rw [← hcl]; simp)
      have u6 : w5.frozen? ⟨w.heap.size + 2, k * 12 + 6, none⟩ = false := free_blk hs5
      have t7 : w5.cell? ⟨w.heap.size + 2, k * 12 + 7, none⟩ = some r7 := cell_blk hs5 (by rw [← hcl]; simp)
      have u7 : w5.frozen? ⟨w.heap.size + 2, k * 12 + 7, none⟩ = false := free_blk hs5
      have t8 : w5.cell? ⟨w.heap.size + 2, k * 12 + 8, none⟩ = some r8 := cell_blk hs5 (by rw [← hcl]; simp)
      have u8 : w5.frozen? ⟨w.heap.size + 2, k * 12 + 8, none⟩ = false := free_blk hs5
      have t9 : w5.cell? ⟨w.heap.size + 2, k * 12 + 9, none⟩ = some r9 := cell_blk hs5 (by rw [← hcl]; simp)
      have u9 : w5.frozen? ⟨w.heap.size + 2, k * 12 + 9, none⟩ = false := free_blk hs5
      have t10 : w5.cell? ⟨w.heap.size + 2, k * 12 + 10, none⟩ = some r10 := cell_blk hs5 (by rw [← hcl]; simp)
      have u10 : w5.frozen? ⟨w.heap.size + 2, k * 12 + 10, none⟩ = false := free_blk hs5
      have t11 : w5.cell? ⟨w.heap.size + 2, k * 12 + 11, none⟩ = some r11 := cell_blk hs5 (by rw [← hcl]; simp)
      have u11 : w5.frozen? ⟨w.heap.size + 2, k * 12 + 11, none⟩ = false := free_blk hs5
      have HX := Lib.hid (show RdRel w A n c q B es (k + 1) (putL w5 (w.heap.size + 2) (k * 12) [.int .i64 s.edit.do_, .int .i64 s.edit.at_, .int .i64 s.edit.to_, .int .i64 s.edit.before, .string s.edit.name, .string s.edit.value, .int .i64 s.edit.node.kind, .string s.edit.node.name, .slice Aa na ca, .string s.edit.node.text, .int .i64 s.edit.node.parent, .slice Ak nk ck]) from by
        have hp := putL_blk [.int .i64 s.edit.do_, .int .i64 s.edit.at_, .int .i64 s.edit.to_, .int .i64 s.edit.before, .string s.edit.name, .string s.edit.value, .int .i64 s.edit.node.kind, .string s.edit.node.name, .slice Aa na ca, .string s.edit.node.text, .int .i64 s.edit.node.parent, .slice Ak nk ck] cells _ w5 hs5 (by simp)
        rw [hcl] at hp
        obtain ⟨p1, p2⟩ := hp
        have hb6 := (hbr.trans (hb5.mono hbr.size)).grown p2 (Nat.le_trans hbr.size hb5.size) (fun k e => by cases e; omega)
        have ht : es.take (k + 1) = es.take k ++ [s.edit] := take_snoc he
        have hd5 := (hb5.block w.heap.size (Array.getElem?_eq_some_iff.1 hdr).1).trans hdr
        have hr5 := (hb5.block (w.heap.size + 1) (Array.getElem?_eq_some_iff.1 hrr).1).trans hrr
        refine ⟨hb6, (p2.block w.heap.size (Array.getElem?_eq_some_iff.1 hd5).1 (by simp)).trans hd5, (p2.block (w.heap.size + 1) (Array.getElem?_eq_some_iff.1 hr5).1 (by simp)).trans hr5, cells ++ [.int .i64 s.edit.do_, .int .i64 s.edit.at_, .int .i64 s.edit.to_, .int .i64 s.edit.before, .string s.edit.name, .string s.edit.value, .int .i64 s.edit.node.kind, .string s.edit.node.name, .slice Aa na ca, .string s.edit.node.text, .int .i64 s.edit.node.parent, .slice Ak nk ck], rest', ?_, ?_, ?_⟩
        · rw [ht]
          have hkeep : ∀ p : Addr, lt B p.block → (putL w5 (w.heap.size + 2) (k * 12) [.int .i64 s.edit.do_, .int .i64 s.edit.at_, .int .i64 s.edit.to_, .int .i64 s.edit.before, .string s.edit.name, .string s.edit.value, .int .i64 s.edit.node.kind, .string s.edit.node.name, .slice Aa na ca, .string s.edit.node.text, .int .i64 s.edit.node.parent, .slice Ak nk ck]).cell? p = wr.cell? p := fun p hp => (hb6.cell (p := p) (Nat.lt_of_lt_of_le hp HBW.out)).trans (hbr.cell (p := p) (Nat.lt_of_lt_of_le hp HBW.out)).symm
          exact (hrow.keep hkeep).append (Row.one (tEdt.keep (edt_rep hok.edit hok.do_) hkeep))
        · have h2 : rest'.length + 12 = (es.length - k) * 12 := by rw [← hrest]; rfl
          omega
        · exact p1)
      clear hce hok hx5 hb5 hs5 hbr hdr hrr hsr hrow hrest HR hs he hcl
      go_upto_region 5 with fail
      rw [← hw5]
      clear hw5 f0 f1 f2 f3 f4 f5 f6 f7 f8 f9 f10 f11 f12 f13 f14 f15
      go_wp2_with fail
      go_roundw
      case rel => exact ⟨k + 1, by omega, by go_num, HX⟩
      case measure => simp [intOf]; omega
    · obtain rfl : k = m := by omega
      have hrest0 : rest = [] := by
        have h2 := HLEN.out
        have h3 := HMN.out
        rw [h2, ← h3, Nat.sub_self, Nat.zero_mul] at hrest
        exact List.eq_nil_of_length_eq_zero hrest
      subst hrest0
      rw [List.append_nil] at hsr
      have hall : es.take k = es := List.take_of_length_le (by have := HLEN.out; have := HMN.out; omega)
      rw [hall] at hrow
      have hsl : Sl tEdt wr (lt wr.heap.size) (some ⟨w.heap.size + 2, 0, none⟩) k k es := by
        refine ⟨by have := HLEN.out; have := HMN.out; omega, Nat.le_refl _, by show k * 160 ≤ _; omega, by unfold maxLen; omega, by simp, fun h0 => ⟨w.heap.size + 2, 0, cells, rfl, (Array.getElem?_eq_some_iff.1 hsr).1, hrow.more fun b hb => Nat.lt_of_lt_of_le hb (Nat.le_trans HBW.out hbr.size), fun j u hu => ?_⟩⟩
        rw [Nat.zero_add]
        exact cell_blk hsr (by simpa using hu)
      have HALL := Lib.hid (all_any A n c l q (some ⟨w.heap.size + 2, 0, none⟩) k k es wr wr.heap.size ((HL.out.below hbr HBW.out).up (Nat.le_trans HBW.out hbr.size)) hsl (Nat.le_refl _))
      have d0 := cell_blk (i := 0) hdr rfl
      have d1 := cell_blk (i := 1) hdr rfl
      have HBR := Lib.hid hbr
      have HRR := Lib.hid hrr
      clear hrest hsr hall hrow hsl hbr hdr hrr HR
      go_upto_region 8 with (go_at_call 10; refine HALL.out.mono ?_; rintro e' w6 ⟨hb6, hp⟩; rw [HAL.out] at hp; rcases hp with ⟨h, _⟩ | ⟨_, A6, c6, rfl, hs6⟩; · exact absurd rfl h)
      obtain ⟨w7, hw7⟩ : ∃ w7, w7 = w6.alloc (.cells #[.slice A6 l'.length c6, .bool q] 24) := ⟨_, rfl⟩
      have hb67 : Below w6.heap.size w6 w7 := by rw [hw7]; exact (Below.refl _ _).alloc (Nat.le_refl _) _
      have hbr7 := hb6.trans (hb67.mono hb6.size)
      have hx7 : w7.heap[w6.heap.size]? = some (.cells #[.slice A6 l'.length c6, .bool q] 24 (0, 0)) := by rw [hw7]; exact heap_alloc_new w6 _
      have hr7 := (hbr7.block (w.heap.size + 1) (Array.getElem?_eq_some_iff.1 HRR.out).1).trans HRR.out
      have y0 := cell_blk (i := 0) hx7 rfl
      have y1 := cell_blk (i := 1) hx7 rfl
      have r0 := cell_blk (i := 0) hr7 rfl
      have r1 := cell_blk (i := 1) hr7 rfl
      have q0 := free_blk (i := 0) hr7
      have q1 := free_blk (i := 1) hr7
      have hres1 := set_blk (i := 0) hr7 (.slice A6 l'.length c6)
      have hres2 := set_blk (i := 1) hres1 (.bool q)
      have s0 := cell_blk (i := 0) (v := .slice A6 l'.length c6) hres2 rfl
      have s1 := cell_blk (i := 1) (v := .bool q) hres2 rfl
      have HB9 := Lib.hid (((HBR.out.trans (hbr7.mono HBR.out.size)).setCell (p := ⟨w.heap.size + 1, 0, none⟩) (by show w.heap.size ≤ w.heap.size + 1; omega) (.slice A6 l'.length c6)).setCell (p := ⟨w.heap.size + 1, 1, none⟩) (by show w.heap.size ≤ w.heap.size + 1; omega) (.bool q))
      have hwl : w.heap.size + 1 < wr.heap.size := (Array.getElem?_eq_some_iff.1 HRR.out).1
      have hs7 : Sl tNd w7 (rg wr.heap.size w6.heap.size) A6 l'.length c6 l' := by rw [hw7]; exact hs6.keep fun p hp => World.cell?_alloc_lt w6 _ p hp.2
      have HS9 := Lib.hid (sl_far (sl_far hs7 hwl 0 (.slice A6 l'.length c6)) hwl 1 (.bool q))
      have HSZ := Lib.hid (show w.heap.size ≤ wr.heap.size ∧ w6.heap.size ≤ w7.heap.size from ⟨HBR.out.size, hb67.size⟩)
      rw [← hw7]
      clear hw7 hb67 hbr7 hx7 hr7 hres1 hres2 hb6 hs6 hs7 d0 d1 HALL
      go_wp2_with fail
      refine bodyPost_ret (v := .tuple #[.agg #[.slice A6 l'.length c6, .bool q], .int .i64 0]) (by simp [results, Tryz.results13, go_sem, s0, s1]) rfl ⟨HB9.out, A6, c6, rfl, ?_⟩
      exact Sl.rgd HS9.out HSZ.out.1 (by simpa using HSZ.out.2)
end Go.Proofs.YtfeighclpaijoaaGreatDoor
