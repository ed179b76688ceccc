/-
Package serial's lines and tree.
-/
import Derived.Test.YtfgmfmkibjfknaaDoorSerLine
import Derived.Test.YtfgmfmkibjfknaaDoorSerLaw
import Derived.Test.YtfgmfmkibjfknaaDoorShelf2
namespace Go.Proofs.YtfgmfmkibjfknaaDoor
open Go.RowKit Go.Cl
attribute [local go_sem ↓] Go.wp_at_zero Go.wp_at_succ

theorem Spares.below {w w' : World} (h : Below w.heap.size w w') : Spares w w' := ⟨h.size, fun k _ hk _ => (h.block k (Array.getElem?_eq_some_iff.1 hk).1).trans hk⟩
theorem Spares.blk {w w' : World} (h : Spares w w') {k : Nat} {cs : Array Value} {t : TypeId} {fr : Nat × Nat} (hk : w.heap[k]? = some (.cells cs t fr)) (ht : t ≠ 99 ∧ t ≠ 5) : w'.heap[k]? = some (.cells cs t fr) :=
  h.same k _ hk fun cs' t' fr' e => by
    injection e with _ e2
    rw [← e2]
    exact ht
theorem bld_next {B E : Nat} {l : List Value} {w w' : World} (h : Bld B E l w) (hb : Below w.heap.size w w') : Bld B E l w' := by
  have hat : ∀ p, Lib.BuilderAt 99 5 B E p l w → Lib.BuilderAt 99 5 B E p l w' := fun p h => by
    obtain ⟨hB, v, hbk, hown, hne⟩ := h
    refine ⟨hB, v, (hb.block E (Array.getElem?_eq_some_iff.1 hbk).1).trans hbk, ⟨hown.1, ?_⟩, hne⟩
    rcases hown.2 with h4 | ⟨g, cap, cur, e, hg, hc, r⟩
    · exact Or.inl h4
    · exact Or.inr ⟨g, cap, cur, e, hg, (hb.block g (Array.getElem?_eq_some_iff.1 hc).1).trans hc, r⟩
  rcases h with h | h
  · exact Or.inl (hat _ h)
  · exact Or.inr (hat _ h)
theorem repL (n : Nat) : Lib.repeatL (⟨#[32]⟩ : ByteArray).data.toList n = List.replicate n 32 := by
  induction n with
  | zero => rfl
  | succ n ih =>
    show [32] ++ Lib.repeatL _ n = _
    rw [ih]
    rfl
theorem repeat_any (n : Nat) (w : World) (h : n ≤ 1000) :
    Calls Tryd.prog 80 #[.string ⟨#[32]⟩, .int .i64 (n : Int)] w fun e w' => e = .returned (.string ⟨(List.replicate n (32 : UInt8)).toArray⟩) ∧ Below w.heap.size w w' := by
  rw [← repL]
  exact Tryd.strings_Repeat ⟨#[32]⟩ n w (by omega) (by show 1 * n ≤ _; omega)
def lineK (l : List Nd) (z : Int) : List UInt8 := match nodeAt l z with
  | some x => lineL x
  | none => []
/-- The lines below a node. -/
def linesF (l : List Nd) : Nat → Nat → Int → List UInt8
  | 0, _, _ => []
  | f + 1, dp, z => (kidsD l z).flatMap fun k => List.replicate dp 32 ++ lineK l k ++ [10] ++ linesF l f (dp + 1) k
def LPost (W : World) (E B : Nat) (bs out : List UInt8) (e : Ending) (W' : World) : Prop :=
  e = .returned (.tuple #[]) ∧ Bld B E (Lib.byteCells (bs ++ out)) W' ∧ Below B W W' ∧ Spares W W'
def LRel (W : World) (E B : Nat) (bs : List UInt8) (wr : World) : Prop := Bld B E (Lib.byteCells bs) wr ∧ Below B W wr ∧ Spares W wr
theorem line_size {x : Nd} (h : NOk x) : (lineL x).length ≤ 13000000 := by
  have hn := quote_len x.name.data.toList
  have ht := quote_len x.text.data.toList
  rw [bytes_len] at hn ht
  have h1 := h.name
  have h2 := h.text
  unfold lineL
  split
  · rw [List.length_cons]; omega
  split
  · omega
  split
  · rw [List.length_cons]; omega
  · have ha : (x.attrs.flatMap attrL).length ≤ 1010000 * x.attrs.length := flat_bound _ _ _ fun a ha => by
      obtain ⟨h1, h2⟩ := h.vals a ha
      have h3 := quote_len a.2.data.toList
      rw [bytes_len] at h3
      unfold attrL
      simp only [List.length_append, List.length_cons, List.length_nil, bytes_len]
      omega
    have h12 := h.attrs
    rw [List.length_append, bytes_len]
    omega
set_option maxRecDepth 100000 in
set_option maxHeartbeats 8000000 in
theorem lines_any {l : List Nd} (T : Tree l) (hG : ∀ x ∈ l, NOk x) (b o n c : Nat) (q : Bool) (B E : Nat) (f : Nat) : ∀ (i dp : Nat) (bs : List UInt8) (W : World), i < l.length → upN l i + f = 41 → dp + f ≤ 100 → DocAt W B b o n l → B ≤ W.heap.size → Bld B E (Lib.byteCells bs) W → bs.length + (linesF l f dp i).length ≤ 140737488355328 →
    Calls Tryd.prog 48 #[.agg #[.slice (some ⟨b, o, none⟩) n c, .bool q], .int .i64 (i : Int), .int .i64 (dp : Int), .pointer (some ⟨E, 0, none⟩)] W (LPost W E B bs (linesF l f dp i)) := by
  induction f with
  | zero =>
    intro i dp bs W hi hu
    have := (T.deep i hi).1
    omega
  | succ f ih =>
    intro i dp bs W hi hu hdp hD hBW hW hlen
    obtain ⟨x, hx⟩ : ∃ x, l[i]? = some x := get_some hi
    have hin : i < n := by have := hD.hn; omega
    have hn200 : l.length ≤ 200 := T.small
    have hkids : ∀ z ∈ x.kids, ∃ p : Nat, z = (p : Int) ∧ p < l.length ∧ upN l p + f = 41 := fun z hz => by
      obtain ⟨p, e, hp, hpar⟩ := T.kid hi (by rw [kidsD_at hx]; exact hz)
      exact ⟨p, e, hp, by have := (T.up_par hp hpar).2; omega⟩
    obtain ⟨Aa0, na0, ca0, Ak0, nk0, ck0, hnd, _, _, _, _, _, k5⟩ := hD.at_ i x hx
    have hkn := hnd.kids.hn
    have hks := hnd.kids.small
    subst hkn
    have i1 : (0 : Int) ≤ (i : Int) := by omega
    have i2 : (i : Int) < (n : Int) := by omega
    obtain ⟨W0, hW0⟩ : ∃ W0, W0 = W.alloc (.cells #[.slice (some ⟨b, o, none⟩) n c, .bool q] 24) := ⟨_, rfl⟩
    have hx0 : W0.heap[W.heap.size]? = some (.cells #[.slice (some ⟨b, o, none⟩) n c, .bool q] 24 (0, 0)) := by rw [hW0]; exact heap_alloc_new W _
    have hb0 : Below W.heap.size W W0 := by rw [hW0]; exact (Below.refl _ _).alloc (Nat.le_refl _) _
    have HX0 := Lib.hid hx0
    have HB0 := Lib.hid (hb0.mono hBW)
    have HS0 := Lib.hid (Spares.below hb0)
    have HD0 := Lib.hid (hD.below (hb0.mono hBW) (Nat.le_refl _))
    have HZ0 : Hid (B ≤ W0.heap.size) := Nat.le_trans hBW hb0.size
    have HW0 := Lib.hid (bld_next hW hb0)
    have HKS := Lib.hid (hnd.kids.below (hb0.mono hBW) (Nat.le_refl _))
    have hstep : linesF l (f + 1) dp i = x.kids.flatMap fun k => List.replicate dp 32 ++ lineK l k ++ [10] ++ linesF l f (dp + 1) k := by
      show (kidsD l (i : Int)).flatMap _ = _
      rw [kidsD_at hx]
    obtain ⟨g, hg⟩ : ∃ g : Int → List UInt8, g = fun k => List.replicate dp 32 ++ lineK l k ++ [10] ++ linesF l f (dp + 1) k := ⟨_, rfl⟩
    rw [← hg] at hstep
    have HGK := Lib.hid (fun k => congrFun hg k)
    have HLEN : Hid (bs.length + (x.kids.flatMap g).length ≤ 140737488355328) := by rw [← hstep]; exact hlen
    have HST := Lib.hid hstep
    have HIH := Lib.hid ih
    have HKI := Lib.hid hkids
    have HG := Lib.hid hG
    have HDP : Hid (dp + 1 + f ≤ 100) := by show _ ≤ _; omega
    have hdp2 : dp ≤ 100 := by omega
    have H0 : Hid (LRel W0 E B (bs ++ (x.kids.take 0).flatMap g) W0) := ⟨by simpa using HW0.out, Below.refl _ _, Spares.refl _⟩
    have d0 := cell_blk (i := 0) hx0 rfl
    have d5 := (HD0.out.at_ i x hx)
    have k5 : W0.cell? ⟨b, o + i * 6 + 5, none⟩ = some (.slice Ak0 x.kids.length ck0) := (hb0.cell (p := ⟨b, o + i * 6 + 5, none⟩) (Nat.lt_of_lt_of_le hD.lt hBW)).trans k5
    clear hx hnd hW hD hlen hstep hg hkids ih T hG hx0 hb0 hi hu hdp HW0 d5
    go_enter Tryd.func48, Tryd.ntmps48
    go_upto_region 1 with fail
    rw [← hW0]
    clear hW0
    go_upto_region 2 with fail
    go_loopw [17] (fun s wr => ∃ j : Nat, j ≤ x.kids.length ∧ s = .int .i64 (j : Int) ∧ Hid (LRel W0 E B (bs ++ (x.kids.take j).flatMap g) wr)) (fun s _ => x.kids.length - (intOf s).toNat)
    case atStart => exact ⟨0, Nat.zero_le _, rfl, H0⟩
    case round =>
      obtain ⟨j, hj, rfl, HR⟩ := hrel
      obtain ⟨hwr, hbr, hkr⟩ := HR.out
      by_cases hlt : j < x.kids.length
      · obtain ⟨z, hz⟩ : ∃ z, x.kids[j]? = some z := get_some hlt
        obtain ⟨p, rfl, hpl, hup⟩ := HKI.out z (List.mem_of_getElem? hz)
        obtain ⟨bk, ok, rfl, _, hck, _⟩ := (HKS.out.below hbr (Nat.le_refl _)).int hz
        obtain ⟨y, hy⟩ : ∃ y, l[p]? = some y := get_some hpl
        have hsn := flat_snoc g hz
        have hle := flat_le g x.kids (j + 1)
        rw [hsn, List.length_append] at hle
        have hgp := HGK.out (p : Int)
        have hlk : lineK l (p : Int) = lineL y := by unfold lineK; rw [nodeAt_nat, hy]
        rw [hlk] at hgp
        have hgl := congrArg List.length hgp
        simp only [List.length_append, List.length_replicate, List.length_singleton] at hgl
        have hDr := HD0.out.below hbr (Nat.le_refl _)
        obtain ⟨Aa, na, ca, Ak, nk, ck, hnd, e0, e1, e2, e3, e4, e5⟩ := hDr.at_ p y hy
        have hzr := hbr.size
        have hZr : B ≤ wr.heap.size := Nat.le_trans HZ0.out hzr
        have hoky := HG.out y (List.mem_of_getElem? hy)
        have hls := line_size hoky
        obtain ⟨lv, hlv⟩ : ∃ lv : ByteArray, lv = ⟨(lineL y).toArray⟩ := ⟨_, rfl⟩
        have hlvs : lv.size = (lineL y).length := by rw [hlv]; exact List.size_toArray
        obtain ⟨rv, hrv⟩ : ∃ rv : ByteArray, rv = ⟨(List.replicate dp (32 : UInt8)).toArray⟩ := ⟨_, rfl⟩
        have hrvs : rv.size = dp := by rw [hrv]; show (List.replicate dp (32 : UInt8)).toArray.size = dp; simp
        have HRP := Lib.hid (repeat_any dp wr.drew (by omega))
        have HLN := Lib.hid (fun (u : World) (hu : Below wr.heap.size wr u) => line_any y Aa na ca Ak nk ck u B (hnd.attrs.below hu hZr) (Nat.le_trans hZr hu.size) hoky)
        rw [← hrv] at HRP
        rw [← hlv] at HLN
        have hwb : Below wr.heap.size wr wr.drew := (Below.refl _ wr).drew
        have HWS := Lib.hid (fun (u : World) (hu : Below wr.heap.size wr u) => writeString_sp B E (Lib.byteCells (bs ++ (x.kids.take j).flatMap g)) (rv ++ lv ++ ⟨#[10]⟩) u (bld_next hwr hu) (by rw [Lib.byteCells_length, ByteArray.size_append, ByteArray.size_append, List.length_append]; have := HLEN.out; show _ + (_ + _ + 1) ≤ _; omega) (Nat.le_trans hZr hu.size))
        have HCA := Lib.hid (fun (u : World) (hu : Below B W0 u) (hbl : Bld B E (Lib.byteCells (bs ++ (x.kids.take j).flatMap g ++ (rv ++ lv ++ ⟨#[10]⟩ : ByteArray).data.toList)) u) => HIH.out p (dp + 1) _ u hpl hup HDP.out (HD0.out.below hu (Nat.le_refl _)) (Nat.le_trans HZ0.out hu.size) hbl (by
          simp only [List.length_append, bytes_len, ByteArray.size_append]
          have := HLEN.out
          show _ + (_ + _ + 1) + _ ≤ _
          omega))
        have HSN := Lib.hid (show bs ++ (x.kids.take (j + 1)).flatMap g = bs ++ (x.kids.take j).flatMap g ++ (rv ++ lv ++ ⟨#[10]⟩ : ByteArray).data.toList ++ linesF l f (dp + 1) p from by
          rw [hsn, hgp, bytes_app, bytes_app, hrv, hlv]
          simp [List.append_assoc])
        have HBR := Lib.hid hbr
        have HKR := Lib.hid hkr
        have HWR := Lib.hid hwr
        have HX := Lib.hid (hkr.blk HX0.out (by decide))
        have HZR := Lib.hid hZr
        have j1 : (0 : Int) ≤ (j : Int) := by omega
        have j2 : (j : Int) < (x.kids.length : Int) := by omega
        have p1 : (0 : Int) ≤ (p : Int) := by omega
        have p2 : (p : Int) < (n : Int) := by have := hDr.hn; omega
        have f0 := cell_blk (i := 0) HX.out rfl
        have f1 := cell_blk (i := 1) HX.out rfl
        have HDR := Lib.hid hDr
        have HF : Hid (∀ u : World, Below B wr u → u.heap[W.heap.size]? = some (.cells #[.slice (some ⟨b, o, none⟩) n c, .bool q] 24 (0, 0)) → u.cell? ⟨W.heap.size, 0, none⟩ = some (.slice (some ⟨b, o, none⟩) n c) ∧ u.cell? ⟨b, o + p * 6, none⟩ = some (.int .i64 y.kind) ∧ u.cell? ⟨b, o + p * 6 + 1, none⟩ = some (.string y.name) ∧ u.cell? ⟨b, o + p * 6 + 2, none⟩ = some (.slice Aa na ca) ∧ u.cell? ⟨b, o + p * 6 + 3, none⟩ = some (.string y.text) ∧ u.cell? ⟨b, o + p * 6 + 4, none⟩ = some (.int .i64 y.parent) ∧ u.cell? ⟨b, o + p * 6 + 5, none⟩ = some (.slice Ak nk ck)) := fun u hu hbx =>
          have hc : ∀ q v, wr.cell? ⟨b, q, none⟩ = some v → u.cell? ⟨b, q, none⟩ = some v := fun q v h => (hu.cell (p := ⟨b, q, none⟩) HDR.out.lt).trans h
          ⟨cell_blk hbx rfl, hc _ _ e0, hc _ _ e1, hc _ _ e2, hc _ _ e3, hc _ _ e4, hc _ _ e5⟩
        have hlv2 : lv.size ≤ 13000000 := by omega
        have hrv2 : rv.size ≤ 100 := by omega
        have hdp3 : (dp : Int) ≤ 100 := by omega
        have hdp4 : (0 : Int) ≤ (dp : Int) := by omega
        clear hz hpl hup hsn hle hgp hlk hgl hwr hbr hkr HR hnd hoky hls hlv hrv hlvs hrvs hDr hzr hZr hwb
        go_upto_region 4 with fail
        refine wp_region_G (S := fun w' : World => w'.cell? ⟨W.heap.size, 0, none⟩ = some (.slice (some ⟨b, o, none⟩) n c) ∧ w'.cell? ⟨b, o + p * 6, none⟩ = some (.int .i64 y.kind) ∧ w'.cell? ⟨b, o + p * 6 + 1, none⟩ = some (.string y.name) ∧ w'.cell? ⟨b, o + p * 6 + 2, none⟩ = some (.slice Aa na ca) ∧ w'.cell? ⟨b, o + p * 6 + 3, none⟩ = some (.string y.text) ∧ w'.cell? ⟨b, o + p * 6 + 4, none⟩ = some (.int .i64 y.parent) ∧ w'.cell? ⟨b, o + p * 6 + 5, none⟩ = some (.slice Ak nk ck)) (T := []) (by kernel_rfl) ?_
        have hS : (fun w' : World => w'.cell? ⟨W.heap.size, 0, none⟩ = some (.slice (some ⟨b, o, none⟩) n c) ∧ w'.cell? ⟨b, o + p * 6, none⟩ = some (.int .i64 y.kind) ∧ w'.cell? ⟨b, o + p * 6 + 1, none⟩ = some (.string y.name) ∧ w'.cell? ⟨b, o + p * 6 + 2, none⟩ = some (.slice Aa na ca) ∧ w'.cell? ⟨b, o + p * 6 + 3, none⟩ = some (.string y.text) ∧ w'.cell? ⟨b, o + p * 6 + 4, none⟩ = some (.int .i64 y.parent) ∧ w'.cell? ⟨b, o + p * 6 + 5, none⟩ = some (.slice Ak nk ck)) wr.drew := ⟨f0, e0, e1, e2, e3, e4, e5⟩
        refine wpAnyG_pure (i := 0) (v := ?_) rfl (by kernel_rfl) (by kernel_rfl) (by kernel_rfl) (fun _ _ _ h => h) rfl ?_ ?_
        rotate_left
        · intro w'
          first | (go_simp; done) | (go_simp; with_reducible rfl)
        refine wpAnyG_pure (i := 1) (v := ?_) rfl (by kernel_rfl) (by kernel_rfl) (by kernel_rfl) (fun _ _ _ h => h) rfl ?_ ?_
        rotate_left
        · intro w'
          first | (go_simp; done) | (go_simp; with_reducible rfl)
        refine wpAnyG_pure (i := 3) (v := ?_) rfl (by kernel_rfl) (by kernel_rfl) (by kernel_rfl) (fun _ _ _ h => h) rfl ?_ ?_
        rotate_left
        · intro w'
          first | (go_simp; done) | (go_simp; with_reducible rfl)
        refine wpAnyG_pure (i := 5) (v := ?_) rfl (by kernel_rfl) (by kernel_rfl) (by kernel_rfl) (fun _ _ _ h => h) rfl ?_ ?_
        rotate_left
        · intro w'
          first | (go_simp; done) | (go_simp; with_reducible rfl)
        refine wpAnyG_take (i := 4) (v := ?_) rfl (by kernel_rfl) (by kernel_rfl) (by kernel_rfl) (by kernel_rfl) (fun _ _ _ h => h) hS rfl ?_ ?_
        rotate_left
        · intro w' hSw
          (try dsimp only at hSw)
          first | (go_simp; done) | (go_simp; with_reducible rfl)
        refine wpAnyG_pure (i := 6) (v := ?_) rfl (by kernel_rfl) (by kernel_rfl) (by kernel_rfl) (fun _ _ _ h => h) rfl ?_ ?_
        rotate_left
        · intro w'
          first | (go_simp; done) | (go_simp; with_reducible rfl)
        refine wpAnyG_take (i := 7) (v := ?_) rfl (by kernel_rfl) (by kernel_rfl) (by kernel_rfl) (by kernel_rfl) (fun _ _ _ h => h) hS rfl ?_ ?_
        rotate_left
        · intro w' hSw
          (try dsimp only at hSw)
          first | (go_simp; done) | (go_simp; with_reducible rfl)
        clear hS
        refine wpAnyG_one (i := 2) (by kernel_rfl) rfl rfl (fun K hK => ?_)
        go_simp
        go_at_call 80
        refine HRP.out.mono ?_
        rintro e' w2 ⟨rfl, hb2⟩
        have hb12 : Below wr.heap.size wr w2 := (Below.refl _ wr).drew.trans hb2
        have HS2 := Lib.hid (HF.out w2 (hb12.mono HZR.out) ((Spares.below hb12).blk HX.out (by decide)))
        have HB2 := Lib.hid hb12
        clear hb2 hb12
        go_wp2_with fail
        refine hK.out _ _ (fun _ _ => HS2.out) ?_
        clear hK K
        refine wpAnyG_one (i := 8) (by kernel_rfl) rfl rfl (fun K hK => ?_)
        go_simp
        go_at_call 81
        refine (HLN.out w2 HB2.out).mono ?_
        rintro e' w3 ⟨rfl, hb3⟩
        have hb13 : Below wr.heap.size wr w3 := HB2.out.trans (hb3.mono HB2.out.size)
        have HS3 := Lib.hid (HF.out w3 (hb13.mono HZR.out) ((Spares.below hb13).blk HX.out (by decide)))
        have HB3 := Lib.hid hb13
        clear hb3 hb13
        go_wp2_with fail
        refine hK.out _ _ (fun _ _ => HS3.out) ?_
        clear hK K
        refine wpAnyG_pure (i := 9) (v := .string (rv ++ lv)) rfl (by kernel_rfl) (by kernel_rfl) (by kernel_rfl) (fun _ _ _ h => h) rfl ?_ ?_
        · intro w'
          go_simp
          omega
        refine wpAnyG_pure (i := 10) (v := .string (rv ++ lv ++ ⟨#[10]⟩)) rfl (by kernel_rfl) (by kernel_rfl) (by kernel_rfl) (fun _ _ _ h => h) rfl ?_ ?_
        · intro w'
          go_simp
          omega
        refine wpAnyG_one (i := 11) (by kernel_rfl) rfl rfl (fun K hK => ?_)
        go_simp
        go_at_call 47
        refine (HWS.out w3 HB3.out).mono ?_
        rintro e' w4 ⟨rfl, hw4, hb4, hs4⟩
        have HB4 := Lib.hid (HBR.out.trans ((HB3.out.mono HZR.out).trans hb4))
        have HK4 := Lib.hid (HKR.out.trans ((Spares.below HB3.out).trans hs4))
        have HX4 := Lib.hid (hs4.blk ((Spares.below HB3.out).blk HX.out (by decide)) (by decide))
        have HW4 := Lib.hid (show Bld B E (Lib.byteCells (bs ++ (x.kids.take j).flatMap g ++ (rv ++ lv ++ ⟨#[10]⟩ : ByteArray).data.toList)) w4 from by rw [Lib.byteCells_append]; exact hw4)
        have HS4 := Lib.hid (HF.out w4 ((HB3.out.mono HZR.out).trans hb4) HX4.out)
        clear hw4 hb4 hs4
        go_wp2_with fail
        refine hK.out _ _ (fun _ _ => HS4.out) ?_
        clear hK K
        refine wpAnyG_done (by kernel_rfl) ?_ _
        have HCB := Lib.hid (HCA.out w4 HB4.out HW4.out)
        have y0 := cell_blk (i := 0) HX4.out rfl
        have y1 := cell_blk (i := 1) HX4.out rfl
        clear HF HS2 HS3 HS4 e0 e1 e2 e3 e4 e5 f0 f1 d0
        go_wp2_with (go_at_call 48; refine HCB.out.mono ?_; rintro e' w5 ⟨rfl, hw5, hb5, hs5⟩)
        go_roundw
        case rel => exact ⟨j + 1, by omega, by go_num, ⟨by rw [HSN.out]; exact hw5, HB4.out.trans hb5, HK4.out.trans hs5⟩⟩
        case measure => simp [intOf]; omega
      · have e : x.kids.take j = x.kids := List.take_of_length_le (by omega)
        rw [e] at hwr
        have HR2 := Lib.hid (show LPost W E B bs (linesF l (f + 1) dp i) (.returned (.tuple #[])) wr from ⟨rfl, by rw [HST.out]; exact hwr, HB0.out.trans hbr, HS0.out.trans hkr⟩)
        clear hwr hbr hkr e HR
        go_wp2_with fail
        go_end0
        exact HR2.out
theorem lines_bound {l : List Nd} (T : Tree l) (hG : ∀ x ∈ l, NOk x) (f : Nat) : ∀ m dp : Nat, m < l.length → upN l m + f = 41 → dp + f ≤ 100 → (linesF l f dp m).length + 13000200 ≤ 13000200 * (preR l m).length := by
  induction f with
  | zero =>
    intro m dp hm hf
    have := (T.deep m hm).1
    omega
  | succ f ih =>
    intro m dp hm hf hdp
    obtain ⟨x, hx⟩ : ∃ x, l[m]? = some x := get_some hm
    rw [T.pre_step hm, List.length_cons, Nat.mul_succ]
    refine Nat.add_le_add_right ?_ _
    show ((kidsD l (m : Int)).flatMap _).length ≤ _
    refine flat_sum _ _ _ _ fun z hz => ?_
    obtain ⟨p, rfl, hp, hpar⟩ := T.kid hm hz
    have h1 := ih p (dp + 1) hp (by have := (T.up_par hp hpar).2; omega) (by omega)
    obtain ⟨y, hy⟩ : ∃ y, l[p]? = some y := get_some hp
    have hlk : lineK l (p : Int) = lineL y := by unfold lineK; rw [nodeAt_nat, hy]
    have h2 := line_size (hG y (List.mem_of_getElem? hy))
    simp only [List.length_append, List.length_replicate, List.length_singleton]
    rw [hlk]
    omega
def treeL (l : List Nd) (q : Bool) : List UInt8 := (if q then [126, 10] else []) ++ linesF l (41 - upN l 0) 0 0
theorem tree_small {l : List Nd} (G : Good l) (h0 : 0 < l.length) : (linesF l (41 - upN l 0) 0 0).length ≤ 10000000000 := by
  have T := tree_of (check_of G)
  have h1 := lines_bound T (nok_good G) (41 - upN l 0) 0 0 h0 (by have := (T.deep 0 h0).1; simp only [Int.ofNat_zero] at *; omega) (by omega)
  have h2 := pre_short T h0
  have h3 := G.small
  simp only [Int.natCast_zero] at *
  omega
set_option maxRecDepth 100000 in
set_option maxHeartbeats 8000000 in
theorem tree_any (A : Option Addr) (n c : Nat) (l : List Nd) (q : Bool) (w : World) (B : Nat) (G : Good l) (h0 : 0 < l.length) (hl : Sl tNd w (lt B) A n c l) (hB : B ≤ w.heap.size) :
    Calls Tryd.prog 23 #[.agg #[.slice A n c, .bool q]] w fun e w' => e = .returned (.string ⟨(treeL l q).toArray⟩) ∧ Below w.heap.size w w' := by
  have T := tree_of (check_of G)
  have hn := hl.hn
  obtain ⟨b, o, rfl, hd⟩ := doc_at hl (by omega)
  have hs := tree_small G h0
  have hup := (T.deep 0 h0).1
  simp only [Int.natCast_zero] at hup
  obtain ⟨wa, hwa⟩ : ∃ wa, wa = w.alloc (.cells #[.slice (some ⟨b, o, none⟩) n c, .bool q] 24) := ⟨_, rfl⟩
  obtain ⟨w0, hw0⟩ : ∃ w0, w0 = wa.alloc (.cells #[.pointer none, .slice none 0 0] 99) := ⟨_, rfl⟩
  have hza : wa.heap.size = w.heap.size + 1 := by rw [hwa]; exact World.size_alloc w _
  have hxa : wa.heap[w.heap.size]? = some (.cells #[.slice (some ⟨b, o, none⟩) n c, .bool q] 24 (0, 0)) := by rw [hwa]; exact heap_alloc_new w _
  have hx0 : w0.heap[w.heap.size]? = some (.cells #[.slice (some ⟨b, o, none⟩) n c, .bool q] 24 (0, 0)) := by rw [hw0, Lib.alloc_old _ _ _ (by omega)]; exact hxa
  have hxb : w0.heap[w.heap.size + 1]? = some (.cells #[.pointer none, .slice none 0 0] 99 (0, 0)) := by rw [hw0, ← hza]; exact heap_alloc_new wa _
  have hb0 : Below w.heap.size w w0 := by rw [hw0, hwa]; exact ((Below.refl _ _).alloc (Nat.le_refl _) _).alloc (by simp) _
  have HX0 := Lib.hid hx0
  have HB0 := Lib.hid hb0
  have HBL : Hid (Bld w.heap.size (w.heap.size + 1) (Lib.byteCells []) w0) := Or.inl ⟨by omega, _, hxb, World.ownsRow_nil _ _ _ _, by simp [Value.ownBlock]⟩
  have HD0 := Lib.hid ((hd.below hb0 hB).more hB)
  have HLN := Lib.hid (fun (bs : List UInt8) (u : World) (hu : Below w.heap.size w0 u) (hbl : Bld w.heap.size (w.heap.size + 1) (Lib.byteCells bs) u) (hbs : bs.length ≤ 2) => lines_any T (nok_good G) b o n c q w.heap.size (w.heap.size + 1) (41 - upN l 0) 0 0 bs u h0 (by simp only [Int.natCast_zero]; omega) (by omega) (HD0.out.below hu (Nat.le_refl _)) (Nat.le_trans hb0.size hu.size) hbl (by simp only [Int.natCast_zero]; omega))
  have HWS := Lib.hid (writeString_sp w.heap.size (w.heap.size + 1) (Lib.byteCells []) ⟨#[126, 10]⟩ w0 HBL.out (by show 0 + 2 ≤ _; omega) hb0.size)
  have HWL : Hid (w.heap.size ≤ w0.heap.size) := hb0.size
  clear hl hd hx0 hxb hb0 T G hs hup hxa hn
  have c0 := cell_blk (i := 0) HX0.out rfl
  have c1 := cell_blk (i := 1) HX0.out rfl
  go_enter Tryd.func23, Tryd.ntmps23
  go_upto_region 2 with fail
  rw [← hwa, ← hw0]
  clear hwa hw0 hza
  cases q
  · have HL := Lib.hid (show treeL l false = linesF l (41 - upN l 0) 0 0 from rfl)
    go_wp2_with (go_at_call 48; refine (HLN.out [] w0 (Below.refl _ _) HBL.out (by decide)).mono ?_; rintro e' w2 ⟨rfl, hw2, hb2, hs2⟩; have HB2 := Lib.hid hb2; have HBS := Lib.hid (Tryd.Builder_String_any w.heap.size (w.heap.size + 1) _ w2 hw2 (Nat.le_trans HWL.out hb2.size)); clear hw2 hb2 hs2)
    refine (HBS.out).mono ?_
    rintro e' w3 ⟨rfl, hb3⟩
    go_wp2_with fail
    go_ret
    exact ⟨by rw [HL.out]; rfl, HB0.out.trans (HB2.out.trans hb3)⟩
  · have HL := Lib.hid (show treeL l true = [126, 10] ++ linesF l (41 - upN l 0) 0 0 from rfl)
    go_upto_region 4 with (go_at_call 47; refine HWS.out.mono ?_; rintro e' w1 ⟨rfl, hw1, hb1, hs1⟩)
    have HX1 := Lib.hid (hs1.blk HX0.out (by decide))
    have y0 := cell_blk (i := 0) HX1.out rfl
    have y1 := cell_blk (i := 1) HX1.out rfl
    have HLN1 := Lib.hid (HLN.out [126, 10] w1 hb1 hw1 (by decide))
    have HB1 := Lib.hid (HB0.out.trans hb1)
    have HWL1 : Hid (w.heap.size ≤ w1.heap.size) := Nat.le_trans HWL.out hb1.size
    clear hw1 hb1 hs1 c0 c1
    go_wp2_with (go_at_call 48; refine HLN1.out.mono ?_; rintro e' w2 ⟨rfl, hw2, hb2, hs2⟩; have HB2 := Lib.hid hb2; have HBS := Lib.hid (Tryd.Builder_String_any w.heap.size (w.heap.size + 1) _ w2 hw2 (Nat.le_trans HWL1.out hb2.size)); clear hw2 hb2 hs2)
    refine (HBS.out).mono ?_
    rintro e' w3 ⟨rfl, hb3⟩
    go_wp2_with fail
    go_ret
    exact ⟨by rw [HL.out]; rfl, HB1.out.trans (HB2.out.trans hb3)⟩
end Go.Proofs.YtfgmfmkibjfknaaDoor
