/-
Patches: the walk of attrs.
-/
import Derived.Test.YtomleengbnfikaaDoorPatAttr
import Derived.Deep.DeepCutAuto
namespace Go.Proofs.YtomleengbnfikaaDoor
open Go.RowKit Go.Cl
attribute [local go_sem ↓] Go.wp_at_zero Go.wp_at_succ

section
variable {w w' w1 : World} {base E : Nat} {A A2 : Option Addr} {n c n2 c2 : Nat} {q q2 : Bool} {v v1 : Value} {es es'' : List Edt} {m m'' : Int}
theorem DStep.go (ho : ∀ b, v1.ownBlock = some b → v.ownBlock = some b ∨ w.heap.size ≤ b) (ht : Tou (fun b => b = E ∨ v.ownBlock = some b) w w1) (h2 : DStep w1 base E A n c q A2 n2 c2 q2 v1 es'' m'' w') : DStep w base E A n c q A2 n2 c2 q2 v es'' m'' w' := by
  obtain ⟨⟨v2, hd2, ho2⟩, ht2⟩ := h2
  refine ⟨⟨v2, hd2, fun b hb => ?_⟩, ht.trans ht2 fun k hk hs => ?_⟩
  · rcases ho2 b hb with h | h
    · exact ho b h
    · exact .inr (Nat.le_trans ht.size h)
  · rcases hs with h | h
    · exact .inl h
    · rcases ho k h with h | h
      · exact .inr h
      · exact absurd h (by omega)
/-- What lies above the differ's own, below what is new, stays. -/
theorem DStep.rows {α : Type} {T : Ty α} {lo : Nat} {B : Option Addr} {k d : Nat} {xs : List α} (hs : DStep w base E A n c q A2 n2 c2 q2 v es m w') (h : Sl T w (rg lo w.heap.size) B k d xs) (hE : E < lo) (hv : ∀ b, v.ownBlock = some b → b < lo) : Sl T w' (rg lo w.heap.size) B k d xs :=
  h.keep fun p hp => World.cell?_of_block (hs.tou.block p.block hp.2 fun h => h.elim (fun e => absurd hp.1 (by omega)) fun e => absurd hp.1 (by have := hv _ e; omega))
end
theorem balloc2 {a b : World} (h : Below a.heap.size a b) (o : Obj) : Below a.heap.size a (b.alloc o) := h.alloc h.size o
theorem clo_any (A : Option Addr) (n c : Nat) (w : World) : Calls Tryd.prog 45 #[.slice A n c] w fun e w' => e = .returned (.func (.func 46) #[] #[.pointer (some ⟨w.heap.size, 0, none⟩)]) ∧ w' = w.alloc (.cells #[.slice A n c] 25) := by
  go_enter Tryd.func45, Tryd.ntmps45
  go_wp2_with fail
  go_ret
  exact ⟨rfl, rfl⟩
/-- What is kept of a list, in a row of its own. -/
def KpPost (w : World) (l m : List DAttr) (e : Ending) (w' : World) : Prop := ∃ A' c', e = .returned (.slice A' (keepA l m).length c') ∧ Below w.heap.size w w' ∧ Sl tDA w' (rg w.heap.size w'.heap.size) A' (keepA l m).length c' (keepA l m)
def dropsL (n : Int) (s l : List DAttr) : List Edt := (l.filter fun a => !hasA s a.1).map (dropE n)
def attrsL (n : Int) (s l : List DAttr) : List Edt := (l.filter fun a => !inA s a).map (attrE n)
theorem drops_snoc {n : Int} {s l : List DAttr} {j : Nat} {a : DAttr} (ha : l[j]? = some a) : dropsL n s (l.take (j + 1)) = dropsL n s (l.take j) ++ if hasA s a.1 then [] else [dropE n a] := by
  unfold dropsL
  rw [take_snoc ha, List.filter_append, List.map_append]
  congr 1
  cases h : hasA s a.1 <;> simp [h]
theorem attrs_snoc {n : Int} {s l : List DAttr} {j : Nat} {a : DAttr} (ha : l[j]? = some a) : attrsL n s (l.take (j + 1)) = attrsL n s (l.take j) ++ if inA s a then [] else [attrE n a] := by
  unfold attrsL
  rw [take_snoc ha, List.filter_append, List.map_append]
  congr 1
  cases h : inA s a <;> simp [h]
theorem drops_len {n : Int} {s l : List DAttr} {j : Nat} : (dropsL n s (l.take j)).length ≤ l.length := by
  unfold dropsL
  rw [List.length_map]
  exact Nat.le_trans (List.length_filter_le _ _) (by rw [List.length_take]; omega)
theorem attrs_len {n : Int} {s l : List DAttr} {j : Nat} : (attrsL n s (l.take j)).length ≤ l.length := by
  unfold attrsL
  rw [List.length_map]
  exact Nat.le_trans (List.length_filter_le _ _) (by rw [List.length_take]; omega)
set_option maxRecDepth 100000 in
set_option maxHeartbeats 8000000 in
theorem dfAttrs_any (w : World) (base E : Nat) (A : Option Addr) (n c : Nat) (q : Bool) (A2 : Option Addr) (n2 c2 : Nat) (q2 : Bool) (v : Value) (es : List Edt) (m : Int) (h : Df w base E A n c q A2 n2 c2 q2 v es m) (hle : es.length ≤ 50000) (k : Nat) (hk : k ≤ 1000)
    (Aw : Option Addr) (nw cw : Nat) (was : List DAttr) (Al : Option Addr) (nl cl : Nat) (will : List DAttr) (B : Nat) (hw : Sl tDA w (lt B) Aw nw cw was) (hl : Sl tDA w (lt B) Al nl cl will) (hB : B ≤ base) (h1 : LastA was will) (h2 : LastA will was) (hnw : nw ≤ 1000) (hnl : nl ≤ 1000) :
    Calls Tryd.prog 29 #[.pointer (some ⟨E, 0, none⟩), .int .i64 (k : Int), .slice Aw nw cw, .slice Al nl cl] w fun e' w' => e' = .returned undef ∧ DStep w base E A n c q A2 n2 c2 q2 v (es ++ attrsE2 (k : Int) was will) m w' := by
  have hBw : B ≤ w.heap.size := Nat.le_trans hB (Nat.le_trans h.lo (Nat.le_of_lt h.lt))
  have HD := Lib.hid h
  have HW := Lib.hid hw
  have HL := Lib.hid hl
  have HNW := Lib.hid hw.hn
  have HNL := Lib.hid hl.hn
  have HBW : Hid (B ≤ w.heap.size) := hBw
  have HBB : Hid (B ≤ base) := hB
  have H1 := Lib.hid h1
  have H2 := Lib.hid h2
  have hcl := hl.hc
  have hcw := hw.hc
  -- Clone and DeleteFunc, at a row and another one
  have HCD := Lib.hid (fun (A1 : Option Addr) (n1 c1 : Nat) (l1 : List DAttr) (W : World) (hW : Below w.heap.size w W) (hs : Sl tDA w (lt B) A1 n1 c1 l1) => cloneDA A1 n1 c1 l1 W B (hs.below hW hBw) (Nat.le_trans hBw hW.size))
  have HCL := Lib.hid (fun (A1 : Option Addr) (n1 c1 : Nat) (W : World) => clo_any A1 n1 c1 W)
  have HDE := Lib.hid (fun (W W1 : World) (A1 : Option Addr) (n1 c1 : Nat) (l1 : List DAttr) (A3 : Option Addr) (n3 c3 : Nat) (l3 : List DAttr) (hW : Below w.heap.size w W) (hW1 : Below W.heap.size W W1) (ho : Own tDA W1 W.heap.size 37 (lt B) (.slice A1 n1 c1) n1 l1) (hs : Sl tDA w (lt B) A3 n3 c3 l3) (hla : LastA l1 l3) (hn1 : n1 ≤ 1000) =>
    (delA_any W1.heap.size A1 n1 c1 l1 A3 n3 c3 l3 (W1.alloc (.cells #[.slice A3 n3 c3] 25)) W.heap.size B (OwnF.al (Own.flat (flatPair flatStr flatStr) ho) _) (heap_alloc_new W1 _) ((hs.below hW hBw).below (balloc2 hW1 _) (Nat.le_trans hBw hW.size)) (Nat.le_trans (Nat.le_trans hBw hW.size) (balloc2 hW1 _).size) hla hn1).mono (R' := KpPost W l1 l3) fun e w' ⟨A', c', e1, e2, e3⟩ => ⟨A', c', e1, (balloc2 hW1 _).trans (e3.below (B := W.heap.size) (fun b hb => (Own.lt ho b hb).1) (balloc2 hW1 _).size), e2⟩)
  clear h hw hl hB h1 h2 hBw
  go_enter Tryd.func29, Tryd.ntmps29
  go_upto_region 1 with fail
  go_upto_region 2 with (first
    | (go_at_call 25; refine (HCD.out Aw nw cw was w (Below.refl _ _) HW.out).mono ?_; rintro e' wa ⟨A3, c3, rfl, hba, hoa⟩)
    | (go_at_call 45; refine (HCL.out _ _ _ _).mono ?_; rintro e' wb ⟨rfl, rfl⟩)
    | (go_at_call 48; refine (HDE.out w wa _ _ _ was _ _ _ will (Below.refl _ _) hba hoa HL.out H1.out hnw).mono ?_; rintro e' wc ⟨A4, c4, rfl, hbc, hs4⟩))
  -- behind region 2
  have HS4 := Lib.hid hs4
  have HBC := Lib.hid hbc
  clear hba hoa hbc hs4
  obtain ⟨ns, hns⟩ : ∃ ns, (keepA was will).length = ns := ⟨_, rfl⟩
  have HNS := Lib.hid hns
  rw [hns] at HS4 ⊢
  have hns1 : ns ≤ 1000 := by rw [← hns]; exact Nat.le_trans (List.length_filter_le _ _) (by rw [← show nw = was.length from HNW.out]; exact hnw)
  clear hns
  go_upto_region 3 with (first
    | (go_at_call 25; refine (HCD.out Al nl cl will wc HBC.out HL.out).mono ?_; rintro e' wd ⟨A5, c5, rfl, hbd, hod⟩)
    | (go_at_call 45; refine (HCL.out _ _ _ _).mono ?_; rintro e' wb ⟨rfl, rfl⟩)
    | (go_at_call 48; refine (HDE.out wc wd _ _ _ will _ _ _ was HBC.out hbd hod HW.out H2.out hnl).mono ?_; rintro e' we ⟨A6, c6, rfl, hbe, hs6⟩))
  have HS6 := Lib.hid hs6
  have HBE := Lib.hid hbe
  have HS4E := Lib.hid (HS4.out.keep fun p hp => hbe.cell hp.2)
  clear hbd hod hbe hs6 HCD HCL HDE
  obtain ⟨nk, hnk⟩ : ∃ nk, (keepA will was).length = nk := ⟨_, rfl⟩
  have HNK := Lib.hid hnk
  rw [hnk] at HS6 ⊢
  have hnk1 : nk ≤ nl := by rw [← hnk]; exact Nat.le_trans (List.length_filter_le _ _) (by rw [← show nl = will.length from HNL.out]; exact Nat.le_refl _)
  clear hnk
  have hmin : min (nk : Int) (nl : Int) = (nk : Int) := by omega
  have hnkc : nk ≤ cl := by omega
  have HBWE := Lib.hid (bst HBC.out HBE.out)
  have HLE := Lib.hid ((HL.out.below HBWE.out HBW.out).cut_to hnk1)
  have HZC : Hid (w.heap.size ≤ wc.heap.size) := HBC.out.size
  have HZE : Hid (wc.heap.size ≤ we.heap.size) := HBE.out.size
  have HE1 := Lib.hid (eqNames_any A4 ns c4 (keepA was will) A6 nk c6 (keepA will was) we wc.heap.size we.heap.size (Sl.ltr HS4E.out) (Sl.ltr HS6.out) HZE.out (Nat.le_refl _))
  have HE2 := Lib.hid (fun W (hW : Below we.heap.size we W) => eqNames_any A6 nk c6 (keepA will was) Al nk cl (will.take nk) W we.heap.size B ((Sl.ltr HS6.out).below hW (Nat.le_refl _)) (HLE.out.below hW (Nat.le_trans HBW.out HBWE.out.size)) hW.size (Nat.le_trans (Nat.le_trans HBW.out HBWE.out.size) hW.size))
  go_upto_region 5 with fail
  obtain ⟨bq, hbq⟩ : ∃ bq : Bool, bq = decide (¬ (namesA (keepA was will) = namesA (keepA will was) ∧ namesA (keepA will was) = namesA (will.take nk))) := ⟨_, rfl⟩
  have HBQ := Lib.hid hbq
  clear hbq
  go_cut [47] (fun s47 wx => s47 = .bool bq ∧ Below we.heap.size we wx)
  case first =>
    by_cases p1 : namesA (keepA was will) = namesA (keepA will was)
    · have HE1' := Lib.hid (HE1.out.mono (R' := fun e w' => e = .returned (.bool true) ∧ Below we.heap.size we w') fun e w' h => by
        obtain ⟨⟨r, rfl, hr⟩, hb⟩ := h
        rw [hr.2 p1]
        exact ⟨rfl, hb⟩)
      by_cases p2 : namesA (keepA will was) = namesA (will.take nk)
      · have HE2' := Lib.hid (fun W hW => (HE2.out W hW).mono (R' := fun e w' => e = .returned (.bool true) ∧ Below W.heap.size W w') fun e w' h => by
          obtain ⟨⟨r, rfl, hr⟩, hb⟩ := h
          rw [hr.2 p2]
          exact ⟨rfl, hb⟩)
        have hq : bq = false := by rw [HBQ.out]; simp [p1, p2]
        clear p1 p2 HE1 HE2
        go_wp2_with (first
          | (go_at_call 50; with_reducible refine HE1'.out.mono ?_; rintro e' wf ⟨rfl, hbf⟩)
          | (go_at_call 50; with_reducible refine (HE2'.out _ hbf).mono ?_; rintro e' wg ⟨rfl, hbg⟩))
        go_meet
        case rel => exact ⟨by rw [hq], bst hbf hbg⟩
      · have HE2' := Lib.hid (fun W hW => (HE2.out W hW).mono (R' := fun e w' => e = .returned (.bool false) ∧ Below W.heap.size W w') fun e w' h => by
          obtain ⟨⟨r, rfl, hr⟩, hb⟩ := h
          cases r with
          | true => exact absurd (hr.1 rfl) p2
          | false => exact ⟨rfl, hb⟩)
        have hq : bq = true := by rw [HBQ.out]; simp [p2]
        clear p1 p2 HE1 HE2
        go_wp2_with (first
          | (go_at_call 50; with_reducible refine HE1'.out.mono ?_; rintro e' wf ⟨rfl, hbf⟩)
          | (go_at_call 50; with_reducible refine (HE2'.out _ hbf).mono ?_; rintro e' wg ⟨rfl, hbg⟩))
        go_meet
        case rel => exact ⟨by rw [hq], bst hbf hbg⟩
    · have HE1' := Lib.hid (HE1.out.mono (R' := fun e w' => e = .returned (.bool false) ∧ Below we.heap.size we w') fun e w' h => by
        obtain ⟨⟨r, rfl, hr⟩, hb⟩ := h
        cases r with
        | true => exact absurd (hr.1 rfl) p1
        | false => exact ⟨rfl, hb⟩)
      have hq : bq = true := by rw [HBQ.out]; simp [p1]
      clear p1 HE1 HE2
      go_wp2_with (go_at_call 50; refine HE1'.out.mono ?_; rintro e' wf ⟨rfl, hbf⟩)
      go_meet
      case rel => exact ⟨by rw [hq], hbf⟩
  case rest =>
    obtain ⟨rfl, hbx⟩ := hcut
    obtain ⟨wx, rfl⟩ : ∃ wx : World, wx = wc := ⟨_, rfl⟩
    have HBX0 := Lib.hid hbx
    clear hbx HE1 HE2
    go_upto_if 47 with fail
    go_cut [9] (fun s9 wy => ∃ A9 n9 c9, s9 = .slice A9 n9 c9 ∧ wy = wx ∧ Sl tDA wx (rg w.heap.size we.heap.size) A9 n9 c9 (stayA was will))
    case first =>
      by_cases hp : namesA (keepA was will) = namesA (keepA will was) ∧ namesA (keepA will was) = namesA (will.take nk)
      · have hq : bq = false := by rw [HBQ.out]; simp [hp]
        have HST : Hid (stayA was will = keepA was will) := by unfold stayA; exact if_pos ⟨hp.1, by rw [show (keepA will was).length = nk from HNK.out]; exact hp.2⟩
        clear hp
        subst hq
        go_wp2_with fail
        go_meet
        case rel => exact ⟨A4, ns, c4, rfl, rfl, by rw [HST.out]; exact (HS4E.out.keep fun p hp => HBX0.out.cell (Nat.lt_of_lt_of_le hp.2 HZE.out)).more fun b hb => ⟨hb.1, Nat.lt_of_lt_of_le hb.2 HZE.out⟩⟩
      · have hq : bq = true := by rw [HBQ.out]; simp only [decide_eq_true_eq]; exact hp
        have HST : Hid (stayA was will = []) := by unfold stayA; exact if_neg fun h => hp ⟨h.1, by have h2 := h.2; rw [show (keepA will was).length = nk from HNK.out] at h2; exact h2⟩
        clear hp
        subst hq
        go_wp2_with fail
        go_meet
        case rel => exact ⟨none, 0, 0, rfl, rfl, by rw [HST.out]; exact Sl.nil⟩
    case rest =>
    obtain ⟨A9, n9, c9, rfl, hwy, hst⟩ := hcut
    subst hwy
    obtain ⟨W0, rfl⟩ : ∃ W0 : World, W0 = wc := ⟨_, rfl⟩
    have hbx := HBX0.out
    have HBX := Lib.hid (bst HBWE.out hbx)
    have HTX : Hid (we.heap.size ≤ W0.heap.size) := hbx.size
    obtain ⟨st, hst2⟩ : ∃ st, stayA was will = st := ⟨_, rfl⟩
    have HSTA := Lib.hid hst2
    rw [hst2] at hst
    have HSX : Hid (Sl tDA W0 (rg w.heap.size W0.heap.size) A9 n9 c9 st) := hst.more fun b hb => ⟨hb.1, Nat.lt_of_lt_of_le hb.2 HTX.out⟩
    have HDX := Lib.hid (DStep.of_below (HD.out) HBX.out)
    have HD0 := Lib.hid (HD.out.next HBX.out)
    have HVL : Hid (∀ b, v.ownBlock = some b → b < w.heap.size) := fun b hb => (Own.lt HD.out.row b hb).2
    have hEl : E < w.heap.size := HD.out.lt
    have HKW : Hid ((Lit.int .i64 (k : Int)).wf = true) := WalkArith.wf_i64 (by omega)
    clear hbx hst hst2 HS4 HS6 HS4E HBC HBE HLE HBWE HNS HNK hmin
    go_upto_region 8 with fail
    go_loopw [50] (fun s wr => ∃ j : Nat, j ≤ nw ∧ s = .int .i64 (j : Int) ∧ Hid (DStep W0 base E A n c q A2 n2 c2 q2 v (es ++ dropsL (k : Int) st (was.take j)) m wr)) (fun s _ => nw - (intOf s).toNat)
    case atStart => exact ⟨0, Nat.zero_le _, rfl, by rw [show dropsL (k : Int) st (was.take 0) = [] from rfl, List.append_nil]; exact DStep.of_below HD0.out (Below.refl _ _)⟩
    case round =>
      obtain ⟨j, hj, rfl, HR⟩ := hrel
      have hwr := HR.out.below HD0.out
      by_cases hlt : j < nw
      · obtain ⟨a, ha⟩ : ∃ a, was[j]? = some a := get_some (by have := HNW.out; omega)
        obtain ⟨g, o, rfl, _, s0, s1, sz0, sz1⟩ := da_get ((HW.out.below HBX.out HBW.out).below hwr HBB.out) ha
        have j1 : (0 : Int) ≤ (j : Int) := by omega
        have j2 : (j : Int) < (nw : Int) := by omega
        obtain ⟨⟨v1, hd1, ho1⟩, ht1⟩ := HR.out
        have hrow := DStep.rows HR.out HSX.out (lo := w.heap.size) hEl HVL.out
        obtain ⟨w3, hw3⟩ : ∃ w3, w3 = wr.alloc (.cells #[.string a.1, .string a.2] 37) := ⟨_, rfl⟩
        have hb3 : Below wr.heap.size wr w3 := by rw [hw3]; exact (Below.refl _ _).alloc (Nat.le_refl _) _
        have hx3 : w3.heap[wr.heap.size]? = some (.cells #[.string a.1, .string a.2] 37 (0, 0)) := by rw [hw3]; exact heap_alloc_new wr _
        have HX3 := Lib.hid hx3
        have hu : wr.heap.size < w3.heap.size := (Array.getElem?_eq_some_iff.1 hx3).1
        have u0 := cell_blk (i := 0) hx3 rfl
        have u1 := cell_blk (i := 1) hx3 rfl
        have HC := Lib.hid (hasD_any A9 n9 c9 st a.1 w3 W0.heap.size ((Sl.ltr hrow).below hb3 ht1.size) (Nat.le_trans ht1.size hb3.size))
        have hsn := drops_snoc (n := (k : Int)) (s := st) ha
        have hlen : (es ++ dropsL (k : Int) st (was.take j)).length ≤ 100000 := by rw [List.length_append]; have h1 := drops_len (n := (k : Int)) (s := st) (l := was) (j := j); have h2 := HNW.out; skip; omega
        have HPU := Lib.hid (fun W (hb : Below wr.heap.size wr W) => (show Calls Tryd.prog 30 #[.pointer (some ⟨E, 0, none⟩), .agg #[.int .i64 2, .int .i64 (k : Int), .int .i64 0, .int .i64 0, .string a.1, .string ⟨#[]⟩, .int .i64 0, .string ⟨#[]⟩, .slice none 0 0, .string ⟨#[]⟩, .int .i64 0, .slice none 0 0]] W _ from push_any W base E A n c q A2 n2 c2 q2 v1 _ m (dropE (k : Int) a) (hd1.next hb) ⟨rfl, rfl, HKW.out, rfl, rfl, sz0, Nat.zero_le _⟩ hlen))
        have HSTP := Lib.hid (fun (W : World) (es3 : List Edt) (hs : ∃ W5, Below wr.heap.size wr W5 ∧ DStep W5 base E A n c q A2 n2 c2 q2 v1 es3 m W) => (show DStep W0 base E A n c q A2 n2 c2 q2 v es3 m W from by obtain ⟨W5, hb5, hs5⟩ := hs; exact DStep.go ho1 ht1 (DStep.go (fun b hb => .inl hb) (Tou.of_below hb5) hs5)))
        have HD1 := Lib.hid hd1
        have HB3 := Lib.hid hb3
        have HSN := Lib.hid hsn
        clear ha hd1 ho1 ht1 hrow hb3 hx3 hsn hlen sz0 sz1 hwr
        go_upto_region 10 with fail
        rw [← hw3]
        clear hw3
        cases hh : hasA st a.1 with
        | true =>
          rw [hh] at HC
          have HSN2 : Hid (dropsL (k : Int) st (was.take (j + 1)) = dropsL (k : Int) st (was.take j)) := HSN.out.trans (by rw [hh]; simp)
          clear hh
          go_wp2_with (go_at_call 47; refine HC.out.mono ?_; rintro e' w5 ⟨rfl, hb5⟩; have hb35 := bst HB3.out hb5; have hx5 := (hb5.block wr.heap.size hu).trans HX3.out; have t0 := cell_blk (i := 0) hx5 rfl; have t1 := cell_blk (i := 1) hx5 rfl)
          go_roundw
          case rel => exact ⟨j + 1, by omega, by go_num, by rw [HSN2.out]; exact HSTP.out w5 _ ⟨w5, hb35, DStep.of_below (HD1.out.next hb35) (Below.refl _ _)⟩⟩
          case measure => simp [intOf]; omega
        | false =>
          rw [hh] at HC
          have HSN2 : Hid (dropsL (k : Int) st (was.take (j + 1)) = dropsL (k : Int) st (was.take j) ++ [dropE (k : Int) a]) := HSN.out.trans (by rw [hh]; simp)
          clear hh
          go_wp2_with (first | (go_at_call 47; refine HC.out.mono ?_; rintro e' w5 ⟨rfl, hb5⟩; have hb35 := bst HB3.out hb5; have hx5 := (hb5.block wr.heap.size hu).trans HX3.out; have t0 := cell_blk (i := 0) hx5 rfl; have t1 := cell_blk (i := 1) hx5 rfl) | (go_at_call 30; refine (HPU.out _ hb35).mono ?_; rintro e' w6 ⟨rfl, hs6⟩))
          go_roundw
          case rel => exact ⟨j + 1, by omega, by go_num, by rw [HSN2.out, ← List.append_assoc]; exact HSTP.out w6 _ ⟨w5, hb35, hs6⟩⟩
          case measure => simp [intOf]; omega
      · obtain rfl : nw = j := by omega
        obtain ⟨es1, hes1⟩ : ∃ es1, es ++ dropsL (k : Int) st was = es1 := ⟨_, rfl⟩
        have HR1 : Hid (DStep W0 base E A n c q A2 n2 c2 q2 v es1 m wr) := by
          have := HR.out
          rw [show nw = was.length from HNW.out, List.take_length, hes1] at this
          exact this
        have hle1 : es1.length ≤ 51000 := by
          rw [← hes1, List.length_append]
          have h1 := drops_len (n := (k : Int)) (s := st) (l := was) (j := was.length)
          rw [List.take_length] at h1
          have h2 := HNW.out
          omega
        have HES1 := Lib.hid hes1
        obtain ⟨W1, rfl⟩ : ∃ W1 : World, W1 = wr := ⟨_, rfl⟩
        clear HR hes1 hwr hlt
        go_upto_region 14 with fail
        go_loopw [68] (fun s wr => ∃ j : Nat, j ≤ nl ∧ s = .int .i64 (j : Int) ∧ Hid (DStep W0 base E A n c q A2 n2 c2 q2 v (es1 ++ attrsL (k : Int) st (will.take j)) m wr)) (fun s _ => nl - (intOf s).toNat)
        case atStart => exact ⟨0, Nat.zero_le _, rfl, by rw [show attrsL (k : Int) st (will.take 0) = [] from rfl, List.append_nil]; exact HR1.out⟩
        case round =>
          obtain ⟨j, hj, rfl, HR⟩ := hrel
          have hwr := HR.out.below HD0.out
          by_cases hlt : j < nl
          · obtain ⟨a, ha⟩ : ∃ a, will[j]? = some a := get_some (by have := HNL.out; omega)
            obtain ⟨g, o, rfl, _, s0, s1, sz0, sz1⟩ := da_get ((HL.out.below HBX.out HBW.out).below hwr HBB.out) ha
            have j1 : (0 : Int) ≤ (j : Int) := by omega
            have j2 : (j : Int) < (nl : Int) := by omega
            obtain ⟨⟨v1, hd1, ho1⟩, ht1⟩ := HR.out
            have hrow := DStep.rows HR.out HSX.out (lo := w.heap.size) hEl HVL.out
            obtain ⟨w3, hw3⟩ : ∃ w3, w3 = wr.alloc (.cells #[.string a.1, .string a.2] 37) := ⟨_, rfl⟩
            have hb3 : Below wr.heap.size wr w3 := by rw [hw3]; exact (Below.refl _ _).alloc (Nat.le_refl _) _
            have hx3 : w3.heap[wr.heap.size]? = some (.cells #[.string a.1, .string a.2] 37 (0, 0)) := by rw [hw3]; exact heap_alloc_new wr _
            have HX3 := Lib.hid hx3
            have hu : wr.heap.size < w3.heap.size := (Array.getElem?_eq_some_iff.1 hx3).1
            have u0 := cell_blk (i := 0) hx3 rfl
            have u1 := cell_blk (i := 1) hx3 rfl
            have HC := Lib.hid (inA_any A9 n9 c9 st a w3 W0.heap.size ((Sl.ltr hrow).below hb3 ht1.size) (Nat.le_trans ht1.size hb3.size))
            have hsn := attrs_snoc (n := (k : Int)) (s := st) ha
            have hlen : (es1 ++ attrsL (k : Int) st (will.take j)).length ≤ 100000 := by rw [List.length_append]; have h1 := attrs_len (n := (k : Int)) (s := st) (l := will) (j := j); have h2 := HNL.out; skip; omega
            have HPU := Lib.hid (fun W (hb : Below wr.heap.size wr W) => (show Calls Tryd.prog 30 #[.pointer (some ⟨E, 0, none⟩), .agg #[.int .i64 1, .int .i64 (k : Int), .int .i64 0, .int .i64 0, .string a.1, .string a.2, .int .i64 0, .string ⟨#[]⟩, .slice none 0 0, .string ⟨#[]⟩, .int .i64 0, .slice none 0 0]] W _ from push_any W base E A n c q A2 n2 c2 q2 v1 _ m (attrE (k : Int) a) (hd1.next hb) ⟨rfl, rfl, HKW.out, rfl, rfl, sz0, sz1⟩ hlen))
            have HSTP := Lib.hid (fun (W : World) (es3 : List Edt) (hs : ∃ W5, Below wr.heap.size wr W5 ∧ DStep W5 base E A n c q A2 n2 c2 q2 v1 es3 m W) => (show DStep W0 base E A n c q A2 n2 c2 q2 v es3 m W from by obtain ⟨W5, hb5, hs5⟩ := hs; exact DStep.go ho1 ht1 (DStep.go (fun b hb => .inl hb) (Tou.of_below hb5) hs5)))
            have HD1 := Lib.hid hd1
            have HB3 := Lib.hid hb3
            have HSN := Lib.hid hsn
            clear ha hd1 ho1 ht1 hrow hb3 hx3 hsn hlen sz0 sz1 hwr
            go_upto_region 16 with fail
            rw [← hw3]
            clear hw3
            cases hh : inA st a with
            | true =>
              rw [hh] at HC
              have HSN2 : Hid (attrsL (k : Int) st (will.take (j + 1)) = attrsL (k : Int) st (will.take j)) := HSN.out.trans (by rw [hh]; simp)
              clear hh
              go_wp2_with (go_at_call 51; refine HC.out.mono ?_; rintro e' w5 ⟨rfl, hb5⟩; have hb35 := bst HB3.out hb5; have hx5 := (hb5.block wr.heap.size hu).trans HX3.out; have t0 := cell_blk (i := 0) hx5 rfl; have t1 := cell_blk (i := 1) hx5 rfl)
              go_roundw
              case rel => exact ⟨j + 1, by omega, by go_num, by rw [HSN2.out]; exact HSTP.out w5 _ ⟨w5, hb35, DStep.of_below (HD1.out.next hb35) (Below.refl _ _)⟩⟩
              case measure => simp [intOf]; omega
            | false =>
              rw [hh] at HC
              have HSN2 : Hid (attrsL (k : Int) st (will.take (j + 1)) = attrsL (k : Int) st (will.take j) ++ [attrE (k : Int) a]) := HSN.out.trans (by rw [hh]; simp)
              clear hh
              go_wp2_with (first | (go_at_call 51; refine HC.out.mono ?_; rintro e' w5 ⟨rfl, hb5⟩; have hb35 := bst HB3.out hb5; have hx5 := (hb5.block wr.heap.size hu).trans HX3.out; have t0 := cell_blk (i := 0) hx5 rfl; have t1 := cell_blk (i := 1) hx5 rfl) | (go_at_call 30; refine (HPU.out _ hb35).mono ?_; rintro e' w6 ⟨rfl, hs6⟩))
              go_roundw
              case rel => exact ⟨j + 1, by omega, by go_num, by rw [HSN2.out, ← List.append_assoc]; exact HSTP.out w6 _ ⟨w5, hb35, hs6⟩⟩
              case measure => simp [intOf]; omega
          · obtain rfl : nl = j := by omega
            have HR2 : Hid (DStep W0 base E A n c q A2 n2 c2 q2 v (es ++ attrsE2 (k : Int) was will) m wr) := by
              have := HR.out
              rw [show nl = will.length from HNL.out, List.take_length, ← show es ++ dropsL (k : Int) st was = es1 from HES1.out, List.append_assoc] at this
              show DStep _ _ _ _ _ _ _ _ _ _ _ _ _ _ _
              unfold attrsE2
              rw [show stayA was will = st from HSTA.out]
              exact this
            go_wp2_with fail
            exact bodyPost_end (results_none rfl _ _ _) rfl ⟨rfl, DStep.go (fun b hb => .inl hb) (Tou.of_below HBX.out) HR2.out⟩
end Go.Proofs.YtomleengbnfikaaDoor
