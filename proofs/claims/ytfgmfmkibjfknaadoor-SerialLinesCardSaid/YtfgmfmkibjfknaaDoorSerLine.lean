/-
serial.line.
-/
import Derived.Test.YtfgmfmkibjfknaaDoorSerQuote
import Derived.Test.YtfgmfmkibjfknaaDoorSerHtml3
namespace Go.Proofs.YtfgmfmkibjfknaaDoor
open Go.RowKit Go.Cl
attribute [local go_sem ↓] Go.wp_at_zero Go.wp_at_succ

def attrL (a : DAttr) : List UInt8 := [32] ++ a.1.data.toList ++ [61] ++ quoteL a.2.data.toList
/-- A node's line. -/
def lineL (x : Nd) : List UInt8 :=
  if x.kind = 5 then 33 :: quoteL x.name.data.toList else if x.kind = 3 then quoteL x.text.data.toList else if x.kind = 4 then 45 :: quoteL x.text.data.toList else x.name.data.toList ++ x.attrs.flatMap attrL
theorem flat_len3 (l : List UInt8) : (l.flatMap qByte).length ≤ 3 * l.length := by
  induction l with
  | nil => simp
  | cons b r ih =>
    rw [List.flatMap_cons, List.length_append, List.length_cons]
    have := qByte_len b
    omega
theorem quote_len (l : List UInt8) : (quoteL l).length ≤ 3 * l.length + 2 := by
  unfold quoteL
  rw [List.length_append, List.length_cons, List.length_singleton]
  have := flat_len3 l
  omega
theorem quote_str (s : ByteArray) : ∃ q : ByteArray, q = ⟨(quoteL s.data.toList).toArray⟩ ∧ q.data.toList = quoteL s.data.toList ∧ q.size ≤ 3 * s.size + 2 :=
  ⟨_, rfl, rfl, by have h := quote_len s.data.toList; rw [bytes_len] at h; exact h⟩
theorem bytes_ext {a b : ByteArray} (h : a.data.toList = b.data.toList) : a = b := ByteArray.ext (Array.toList_inj.1 h)
set_option maxRecDepth 100000 in
set_option maxHeartbeats 8000000 in
theorem line_any (x : Nd) (Aa : Option Addr) (na ca : Nat) (Ak : Option Addr) (nk ck : Nat) (w : World) (B : Nat) (hat : Sl tDA w (lt B) Aa na ca x.attrs) (hB : B ≤ w.heap.size) (hok : NOk x) :
    Calls Tryd.prog 81 #[.agg #[.int .i64 x.kind, .string x.name, .slice Aa na ca, .string x.text, .int .i64 x.parent, .slice Ak nk ck]] w fun e w' => e = .returned (.string ⟨(lineL x).toArray⟩) ∧ Below w.heap.size w w' := by
  have han := hat.hn
  subst han
  obtain ⟨W0, hW0⟩ : ∃ W0, W0 = w.alloc (.cells #[.int .i64 x.kind, .string x.name, .slice Aa x.attrs.length ca, .string x.text, .int .i64 x.parent, .slice Ak nk ck] 45) := ⟨_, rfl⟩
  have hx0 : W0.heap[w.heap.size]? = some (.cells #[.int .i64 x.kind, .string x.name, .slice Aa x.attrs.length ca, .string x.text, .int .i64 x.parent, .slice Ak nk ck] 45 (0, 0)) := by rw [hW0]; exact heap_alloc_new w _
  have hb0 : Below w.heap.size w W0 := by rw [hW0]; exact (Below.refl _ _).alloc (Nat.le_refl _) _
  have HX0 := Lib.hid hx0
  have HB0 := Lib.hid hb0
  have HAT := Lib.hid (hat.below hb0 hB)
  have HBW : Hid (B ≤ W0.heap.size) := Nat.le_trans hB hb0.size
  have HAV := Lib.hid hok.vals
  have hnm := hok.name
  have htx := hok.text
  have h12 := hok.attrs
  have HQ := Lib.hid fun (s : ByteArray) (hs : s.size ≤ 1000000000) u => quoted_any s u hs
  clear hok hat hB
  have g0 := cell_blk (i := 0) hx0 rfl
  have g1 := cell_blk (i := 1) hx0 rfl
  have g2 := cell_blk (i := 2) hx0 rfl
  have g3 := cell_blk (i := 3) hx0 rfl
  clear hb0 hx0
  go_enter Tryd.func81, Tryd.ntmps81
  go_upto_region 1 with fail
  rw [← hW0]
  clear hW0
  by_cases h5 : x.kind = 5
  · have HL := Lib.hid (show lineL x = 33 :: quoteL x.name.data.toList from if_pos h5)
    obtain ⟨qn, hq, hqd, hqs⟩ := quote_str x.name
    have HQ1 := Lib.hid (HQ.out x.name (by omega))
    rw [← hq] at HQ1
    have HQD := Lib.hid hqd
    rw [h5] at g0
    clear hq hqd h5 HQ
    go_wp2_with (go_at_call 125; refine (HQ1.out _).mono ?_; rintro e' w2 ⟨rfl, hb2⟩)
    go_ret
    exact ⟨by rw [HL.out]; exact congrArg (fun z => Ending.returned (Value.string z)) (bytes_ext (by simp [HQD.out])), HB0.out.trans (hb2.mono HB0.out.size)⟩
  by_cases h3 : x.kind = 3
  · have HL := Lib.hid (show lineL x = quoteL x.text.data.toList from by unfold lineL; rw [if_neg h5, if_pos h3])
    have HQ1 := Lib.hid (HQ.out x.text (by omega))
    rw [h3] at g0
    clear h3 h5 HQ
    go_wp2_with (go_at_call 125; refine (HQ1.out _).mono ?_; rintro e' w2 ⟨rfl, hb2⟩)
    go_ret
    exact ⟨by rw [HL.out]; rfl, HB0.out.trans (hb2.mono HB0.out.size)⟩
  by_cases h4 : x.kind = 4
  · have HL := Lib.hid (show lineL x = 45 :: quoteL x.text.data.toList from by unfold lineL; rw [if_neg h5, if_neg h3, if_pos h4])
    obtain ⟨qn, hq, hqd, hqs⟩ := quote_str x.text
    have HQ1 := Lib.hid (HQ.out x.text (by omega))
    rw [← hq] at HQ1
    have HQD := Lib.hid hqd
    rw [h4] at g0
    clear hq hqd h3 h4 h5 HQ
    go_wp2_with (go_at_call 125; refine (HQ1.out _).mono ?_; rintro e' w2 ⟨rfl, hb2⟩)
    go_ret
    exact ⟨by rw [HL.out]; exact congrArg (fun z => Ending.returned (Value.string z)) (bytes_ext (by simp [HQD.out])), HB0.out.trans (hb2.mono HB0.out.size)⟩
  · have HL := Lib.hid (show lineL x = x.name.data.toList ++ x.attrs.flatMap attrL from by unfold lineL; rw [if_neg h5, if_neg h3, if_neg h4])
    have b5 : (x.kind == 5) = false := beq_eq_false_iff_ne.2 h5
    have b4 : (x.kind == 4) = false := beq_eq_false_iff_ne.2 h4
    have b3 : (x.kind == 3) = false := beq_eq_false_iff_ne.2 h3
    clear h3 h4 h5
    go_wp2_with fail
    go_loopw [3, 30] (fun o s wr => ∃ (j : Nat) (ob : ByteArray), j ≤ x.attrs.length ∧ o = .string ob ∧ s = .int .i64 (j : Int) ∧ Hid (ob.data.toList = x.name.data.toList ++ (x.attrs.take j).flatMap attrL) ∧ ob.size ≤ 1000 + 2000000 * j ∧ Below w.heap.size w wr ∧ Below W0.heap.size W0 wr) (fun _ s _ => x.attrs.length - (intOf s).toNat)
    case atStart => exact ⟨0, x.name, Nat.zero_le _, rfl, rfl, Lib.hid (by simp), by omega, HB0.out, Below.refl _ _⟩
    case round =>
      obtain ⟨j, ob, hj, rfl, rfl, HO, hos, hb, hbw⟩ := hrel
      by_cases hlt : j < x.attrs.length
      · obtain ⟨a, ha⟩ : ∃ a, x.attrs[j]? = some a := get_some hlt
        obtain ⟨ba, oa, rfl, _, c0, c1, hs0, hs1⟩ := da_cells (HAT.out.below hbw HBW.out) ha
        obtain ⟨hva1, hva2⟩ := HAV.out a (List.mem_of_getElem? ha)
        have HSN := Lib.hid (flat_snoc attrL ha)
        obtain ⟨w5, hw5⟩ : ∃ w5, w5 = wr.alloc (.cells #[.string a.1, .string a.2] 58) := ⟨_, rfl⟩
        have hx5 : w5.heap[wr.heap.size]? = some (.cells #[.string a.1, .string a.2] 58 (0, 0)) := by rw [hw5]; exact heap_alloc_new wr _
        have hb5 : Below wr.heap.size wr w5 := by rw [hw5]; exact (Below.refl _ _).alloc (Nat.le_refl _) _
        have HB5 := Lib.hid (hb.trans (hb5.mono hb.size))
        have HBW5 := Lib.hid (hbw.trans (hb5.mono hbw.size))
        obtain ⟨qv, hq, hqd, hqs⟩ := quote_str a.2
        have HQ1 := Lib.hid (HQ.out a.2 (by omega) w5.drew)
        rw [← hq] at HQ1
        have HQD := Lib.hid hqd
        have j1 : (0 : Int) ≤ (j : Int) := by omega
        have j2 : (j : Int) < (x.attrs.length : Int) := by omega
        have HX5 := Lib.hid hx5
        clear hq hqd hx5 hb5 ha hb hbw hs0 hs1
        go_upto_region 12 with fail
        rw [← hw5]
        clear hw5 c0 c1
        have a0 := cell_blk (i := 0) HX5.out rfl
        have a1 := cell_blk (i := 1) HX5.out rfl
        refine wp_region_G (S := fun w' : World => w'.cell? ⟨wr.heap.size, 0, none⟩ = some (.string a.1) ∧ w'.cell? ⟨wr.heap.size, 1, none⟩ = some (.string a.2)) (T := []) (by kernel_rfl) ?_
        have hS : (fun w' : World => w'.cell? ⟨wr.heap.size, 0, none⟩ = some (.string a.1) ∧ w'.cell? ⟨wr.heap.size, 1, none⟩ = some (.string a.2)) w5.drew := ⟨a0, a1⟩
        refine wpAnyG_pure (i := 0) (v := ?_) rfl (by kernel_rfl) (by kernel_rfl) (by kernel_rfl) (fun _ _ _ h => h) rfl ?_ ?_
        rotate_left
        · intro w'
          first | (go_simp; done) | (go_simp; with_reducible rfl)
        refine wpAnyG_pure (i := 1) (v := ?_) rfl (by kernel_rfl) (by kernel_rfl) (by kernel_rfl) (fun _ _ _ h => h) rfl ?_ ?_
        rotate_left
        · intro w'
          first | (go_simp; done) | (go_simp; with_reducible rfl)
        refine wpAnyG_take (i := 2) (v := ?_) rfl (by kernel_rfl) (by kernel_rfl) (by kernel_rfl) (by kernel_rfl) (fun _ _ _ h => h) hS rfl ?_ ?_
        rotate_left
        · intro w' hSw
          (try dsimp only at hSw)
          first | (go_simp; done) | (go_simp; with_reducible rfl)
        refine wpAnyG_pure (i := 3) (v := .string (⟨#[32]⟩ ++ a.1)) rfl (by kernel_rfl) (by kernel_rfl) (by kernel_rfl) (fun _ _ _ h => h) rfl ?_ ?_
        · intro w'
          go_simp
          omega
        refine wpAnyG_pure (i := 4) (v := .string (⟨#[32]⟩ ++ a.1 ++ ⟨#[61]⟩)) rfl (by kernel_rfl) (by kernel_rfl) (by kernel_rfl) (fun _ _ _ h => h) rfl ?_ ?_
        · intro w'
          go_simp
          omega
        refine wpAnyG_pure (i := 5) (v := ?_) rfl (by kernel_rfl) (by kernel_rfl) (by kernel_rfl) (fun _ _ _ h => h) rfl ?_ ?_
        rotate_left
        · intro w'
          first | (go_simp; done) | (go_simp; with_reducible rfl)
        refine wpAnyG_take (i := 6) (v := ?_) rfl (by kernel_rfl) (by kernel_rfl) (by kernel_rfl) (by kernel_rfl) (fun _ _ _ h => h) hS rfl ?_ ?_
        rotate_left
        · intro w' hSw
          (try dsimp only at hSw)
          first | (go_simp; done) | (go_simp; with_reducible rfl)
        clear hS
        refine wpAnyG_one (i := 7) (by kernel_rfl) rfl rfl (fun K hK => ?_)
        go_simp
        go_at_call 125
        refine HQ1.out.mono ?_
        rintro e' w6 ⟨rfl, hb6⟩
        have d0 := cell_be (w := w5.drew) a0 hb6
        have d1 := cell_be (w := w5.drew) a1 hb6
        go_wp2_with fail
        refine hK.out _ _ (fun _ _ => ⟨d0, d1⟩) ?_
        clear hK K d0 d1
        refine wpAnyG_pure (i := 8) (v := .string (⟨#[32]⟩ ++ a.1 ++ ⟨#[61]⟩ ++ qv)) rfl (by kernel_rfl) (by kernel_rfl) (by kernel_rfl) (fun _ _ _ h => h) rfl ?_ ?_
        · intro w'
          go_simp
          omega
        refine wpAnyG_pure (i := 9) (v := .string (ob ++ (⟨#[32]⟩ ++ a.1 ++ ⟨#[61]⟩ ++ qv))) rfl (by kernel_rfl) (by kernel_rfl) (by kernel_rfl) (fun _ _ _ h => h) rfl ?_ ?_
        · intro w'
          go_simp
          omega
        refine wpAnyG_pure (i := 10) (v := ?_) rfl (by kernel_rfl) (by kernel_rfl) (by kernel_rfl) (fun _ _ _ h => h) rfl ?_ ?_
        rotate_left
        · intro w'
          first | (go_simp; done) | (go_simp; with_reducible rfl)
        refine wpAnyG_done (by kernel_rfl) ?_ _
        have hb56 : Below w5.heap.size w5 w6 := (Below.refl _ w5).drew.trans hb6
        have HB6 := Lib.hid (HB5.out.trans (hb56.mono HB5.out.size))
        have HBW6 := Lib.hid (HBW5.out.trans (hb56.mono HBW5.out.size))
        clear hb6 hb56
        go_wp2_with fail
        go_roundw
        case rel => exact ⟨j + 1, _, by omega, rfl, by go_num, Lib.hid (by rw [HSN.out, ← List.append_assoc, ← HO.out, bytes_app, bytes_app, bytes_app, bytes_app, HQD.out]; rfl), by rw [ByteArray.size_append, ByteArray.size_append, ByteArray.size_append, ByteArray.size_append]; show _ + (1 + _ + 1 + _) ≤ _; omega, HB6.out, HBW6.out⟩
        case measure => simp [intOf]; omega
      · have HE := Lib.hid (show ob.data.toList = lineL x from by rw [HO.out, HL.out, List.take_of_length_le (by omega)])
        go_wp2_with fail
        go_ret
        exact ⟨by rw [← HE.out]; rfl, hb⟩
end Go.Proofs.YtfgmfmkibjfknaaDoor
