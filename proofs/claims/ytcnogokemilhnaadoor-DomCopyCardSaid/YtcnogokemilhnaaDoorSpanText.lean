/-
The walks of span's part, Text, and of dom's TextOf.
-/
import Derived.Test.YtcnogokemilhnaaDoorSpanPartsLaw
import Derived.Test.YtcnogokemilhnaaDoorDomAsks
import Derived.Test.YtcnogokemilhnaaDoorSpanStays
namespace Go.Proofs.YtcnogokemilhnaaDoor
open Go.RowKit Go.Cl
attribute [local go_sem ↓] Go.wp_at_zero Go.wp_at_succ

/-- The boxes of part: the ranger, the range. -/
structure PB (w : World) (A : Option Addr) (n c : Nat) (q : Bool) (a b : Pt) (u : World) : Prop where
  below : Below w.heap.size w u
  r_ : u.heap[w.heap.size]? = some (.cells #[.slice A n c, .bool q] 106 (0, 0))
  s_ : u.heap[w.heap.size + 1]? = some (.cells #[.int .i64 a.node, .int .i64 a.at_, .int .i64 b.node, .int .i64 b.at_] 63 (0, 0))
theorem PB.next {w : World} {A : Option Addr} {n c : Nat} {q : Bool} {a b : Pt} {u u' : World} (h : PB w A n c q a b u) (hb : Below u.heap.size u u') : PB w A n c q a b u' :=
  ⟨h.below.trans (hb.mono h.below.size), (hb.block _ (Array.getElem?_eq_some_iff.1 h.r_).1).trans h.r_, (hb.block _ (Array.getElem?_eq_some_iff.1 h.s_).1).trans h.s_⟩
/-- A range of which a text's part is asked. -/
structure PartOk (l : List Nd) (m : Nat) (a b : Pt) : Prop where
  txt : TxtN l m
  a_ : ∃ ma, PtT l a ma
  b_ : ∃ mb, PtT l b mb
  le : orderR l a b ≤ 0
theorem PtT.ok {w : World} {D : Nat → Prop} {A : Option Addr} {n c : Nat} {l : List Nd} (hs : Sl tNd w D A n c l) (T : Tree l) {p : Pt} {m : Nat} (h : PtT l p m) : PtOk l m p.at_ :=
  ⟨h.tr.lt, h.low, by have h1 := roomD_le hs m; have h2 := h.high; omega, T.top_tr h.tr⟩
set_option maxRecDepth 100000 in
set_option maxHeartbeats 8000000 in
theorem part_any (A : Option Addr) (n c : Nat) (l : List Nd) (q : Bool) (m : Nat) (a b : Pt) (w : World) (B : Nat) (hl : Sl tNd w (lt B) A n c l) (hB : B ≤ w.heap.size) (T : Tree l) (hp : PartOk l m a b) :
    Calls Tryd.prog 63 #[.agg #[.slice A n c, .bool q], .int .i64 (m : Int), .agg #[.int .i64 a.node, .int .i64 a.at_, .int .i64 b.node, .int .i64 b.at_]] w fun e' w' => e' = .returned (.string (partS l m a b)) ∧ Below w.heap.size w w' := by
  obtain ⟨htx, ⟨ma, ha⟩, ⟨mb, hb⟩, hle⟩ := hp
  obtain ⟨wa, hwa⟩ : ∃ wa, wa = w.alloc (.cells #[.slice A n c, .bool q] 106) := ⟨_, rfl⟩
  obtain ⟨w0, hw0⟩ : ∃ w0, w0 = wa.alloc (.cells #[.int .i64 a.node, .int .i64 a.at_, .int .i64 b.node, .int .i64 b.at_] 63) := ⟨_, rfl⟩
  have za : wa.heap.size = w.heap.size + 1 := by rw [hwa]; exact World.size_alloc w _
  have H0 : PB w A n c q a b w0 := by
    refine ⟨?_, ?_, ?_⟩
    · rw [hw0, hwa]; exact ((Below.refl _ _).alloc (Nat.le_refl _) _).alloc (by simp) _
    · rw [hw0, Lib.alloc_old _ _ _ (by omega), hwa]; exact heap_alloc_new w _
    · rw [hw0, ← za]; exact heap_alloc_new wa _
  have HH0 := Lib.hid H0
  have hml := htx.tr.lt
  have hmn : m < n := by have := hl.hn; omega
  obtain ⟨x, hx⟩ := get_some hml
  have hok0 : PtOk l m 0 := ⟨hml, Int.le_refl _, by omega, T.top_tr htx.tr⟩
  have HOA := Lib.hid (fun W (h : Below w.heap.size w W) => ptOrder_any A n c l q m ma 0 a.at_ W B (hl.below h hB) (Nat.le_trans hB h.size) T hok0 (ha.ok hl T))
  have HOB := Lib.hid (fun W (h : Below w.heap.size w W) => ptOrder_any A n c l q m mb 0 b.at_ W B (hl.below h hB) (Nat.le_trans hB h.size) T hok0 (hb.ok hl T))
  have hea : (⟨(ma : Int), a.at_⟩ : Pt) = a := by rw [← ha.node]
  have heb : (⟨(mb : Int), b.at_⟩ : Pt) = b := by rw [← hb.node]
  rw [hea] at HOA
  rw [heb] at HOB
  obtain ⟨bb, o, rfl, hd⟩ := doc_at hl (by omega)
  obtain ⟨Aa, na, ca, Ak, nk, ck, hnd, _, _, _, k3, _⟩ := (hd.below H0.below hB).at_ m x hx
  have htd : textD l m = x.text := textD_at hx
  have hsz : x.text.size ≤ 1152921504606846976 := hnd.text
  have hra : ma = m → a.at_ ≤ (x.text.size : Int) := fun e => by have := ha.high; rw [e, htx.room, htd] at this; exact this
  have hrb : mb = m → b.at_ ≤ (x.text.size : Int) := fun e => by have := hb.high; rw [e, htx.room, htd] at this; exact this
  have hab : ma = m → mb = m → a.at_ ≤ b.at_ := fun e1 e2 => by
    unfold orderR at hle
    rw [if_pos (by rw [ha.node, hb.node, e1, e2])] at hle
    exact cmpI_le_iff.1 hle
  have hcap := hl.hc
  have hla := ha.low
  have hlb := hb.low
  have HNA := Lib.hid ha.node
  have HNB := Lib.hid hb.node
  have x0 := cell_blk (i := 0) H0.r_ rfl
  have x1 := cell_blk (i := 1) H0.r_ rfl
  have s0 := cell_blk (i := 0) H0.s_ rfl
  have s1 := cell_blk (i := 1) H0.s_ rfl
  have s2 := cell_blk (i := 2) H0.s_ rfl
  have s3 := cell_blk (i := 3) H0.s_ rfl
  rw [ha.node] at s0
  clear s2 s3
  obtain ⟨ia, hia⟩ : ∃ ia : Nat, a.at_ = (ia : Int) := ⟨a.at_.toNat, by omega⟩
  obtain ⟨ib, hib⟩ : ∃ ib : Nat, b.at_ = (ib : Int) := ⟨b.at_.toNat, by omega⟩
  rw [hia] at s1
  have HIA := Lib.hid hia
  have HIB := Lib.hid hib
  have HPS := Lib.hid (show partS l m a b = if a.node ≠ (m : Int) ∧ orderR l ⟨m, 0⟩ a < 0 then ⟨#[]⟩ else if b.node ≠ (m : Int) ∧ 0 < orderR l ⟨m, 0⟩ b then ⟨#[]⟩ else x.text.extract (if a.node = (m : Int) then a.at_.toNat else 0) (if b.node = (m : Int) then b.at_.toNat else x.text.size) from by unfold partS; rw [htd])
  rw [HNA.out, HNB.out] at HPS
  have i1 : (0 : Int) ≤ (m : Int) := by omega
  have i2 : (m : Int) < (n : Int) := by omega
  clear H0 hl hB T htx ha hb hle za hml hx hok0 hd hnd htd hea heb hia hib
  generalize orderR l ⟨m, 0⟩ a = oa at *
  generalize orderR l ⟨m, 0⟩ b = ob at *
  go_enter Tryd.func63, Tryd.ntmps63
  go_upto_region 1 with fail
  rw [← hwa, ← hw0]
  clear hwa hw0
  go_upto_region 3 with fail
  have HIA0 := HIA.out
  have HIB0 := HIB.out
  by_cases g1 : ma = m
  · have e1 : ((ma : Int) == (m : Int)) = true := by rw [g1]; simp
    have HP1 := Lib.hid (HPS.out.trans (if_neg (fun h => h.1 (by rw [g1]))))
    rw [if_pos (show (ma : Int) = (m : Int) by rw [g1]), HIA.out, Int.toNat_natCast] at HP1
    have j3 : ia ≤ x.text.size := by have := hra g1; omega
    clear HPS x0 x1
    go_upto_region 7 with fail
    clear s0 s1
    have s2 := cell_blk (i := 2) HH0.out.s_ rfl
    have s3 := cell_blk (i := 3) HH0.out.s_ rfl
    rw [HNB.out] at s2
    rw [HIB.out] at s3
    by_cases g2 : mb = m
    · have e2 : ((mb : Int) == (m : Int)) = true := by rw [g2]; simp
      have HR := Lib.hid (HP1.out.trans (if_neg (fun h => h.1 (by rw [g2]))))
      rw [if_pos (show (mb : Int) = (m : Int) by rw [g2])] at HR
      have j1 : ia ≤ ib := by have := hab g1 g2; omega
      have j2 : ib ≤ x.text.size := by have := hrb g2; omega
      clear g2
      go_wp2_with fail
      go_ret
      exact ⟨by rw [HR.out, HIB.out, Int.toNat_natCast]; rfl, HH0.out.below⟩
    · have e2 : ((mb : Int) == (m : Int)) = false := beq_eq_false_iff_ne.2 (by omega)
      have HC := Lib.hid (HOB.out _ HH0.out.below)
      rw [HIB.out] at HC
      have x0 := cell_blk (i := 0) HH0.out.r_ rfl
      have x1 := cell_blk (i := 1) HH0.out.r_ rfl
      by_cases g3 : 0 < ob
      · have HR := Lib.hid (HP1.out.trans (if_pos ⟨by omega, g3⟩))
        clear g2
        go_wp2_with (go_at_call 60; refine HC.out.mono ?_; rintro e' w9 ⟨rfl, hb9⟩)
        go_ret
        exact ⟨by rw [HR.out]; rfl, (HH0.out.next hb9).below⟩
      · have HR := Lib.hid (HP1.out.trans (if_neg (fun h => g3 h.2)))
        rw [if_neg (show ¬ (mb : Int) = (m : Int) by omega)] at HR
        clear g2
        go_wp2_with (go_at_call 60; refine HC.out.mono ?_; rintro e' w9 ⟨rfl, hb9⟩)
        go_ret
        exact ⟨by rw [HR.out]; first | rfl | (rw [ByteArray.extract_zero_size]; rfl), (HH0.out.next hb9).below⟩

  · have e1 : ((ma : Int) == (m : Int)) = false := beq_eq_false_iff_ne.2 (by omega)
    have HCA := Lib.hid (HOA.out w0 HH0.out.below)
    rw [HIA.out] at HCA
    by_cases g4 : oa < 0
    · have HR := Lib.hid (HPS.out.trans (if_pos ⟨by omega, g4⟩))
      clear g1 HPS
      go_wp2_with (go_at_call 60; refine HCA.out.mono ?_; rintro e' w9 ⟨rfl, hb9⟩)
      go_ret
      exact ⟨by rw [HR.out]; rfl, (HH0.out.next hb9).below⟩
    · have HP1 := Lib.hid (HPS.out.trans (if_neg (fun h => g4 h.2)))
      rw [if_neg (show ¬ (ma : Int) = (m : Int) by omega)] at HP1
      clear g1 HPS
      go_upto_region 7 with (go_at_call 60; refine HCA.out.mono ?_; rintro e' w1 ⟨rfl, hb1⟩)
      have H1 := Lib.hid (HH0.out.next hb1)
      clear s0 s1 x0 x1 hb1
      have s2 := cell_blk (i := 2) H1.out.s_ rfl
      have s3 := cell_blk (i := 3) H1.out.s_ rfl
      rw [HNB.out] at s2
      rw [HIB.out] at s3
      by_cases g2 : mb = m
      · have e2 : ((mb : Int) == (m : Int)) = true := by rw [g2]; simp
        have HR := Lib.hid (HP1.out.trans (if_neg (fun h => h.1 (by rw [g2]))))
        rw [if_pos (show (mb : Int) = (m : Int) by rw [g2])] at HR
        have j1 : 0 ≤ ib := by omega
        have j2 : ib ≤ x.text.size := by have := hrb g2; omega
        clear g2
        go_wp2_with fail
        go_ret
        exact ⟨by rw [HR.out, HIB.out, Int.toNat_natCast]; rfl, H1.out.below⟩
      · have e2 : ((mb : Int) == (m : Int)) = false := beq_eq_false_iff_ne.2 (by omega)
        have HC := Lib.hid (HOB.out _ H1.out.below)
        rw [HIB.out] at HC
        have x0 := cell_blk (i := 0) H1.out.r_ rfl
        have x1 := cell_blk (i := 1) H1.out.r_ rfl
        by_cases g3 : 0 < ob
        · have HR := Lib.hid (HP1.out.trans (if_pos ⟨by omega, g3⟩))
          clear g2
          go_wp2_with (go_at_call 60; refine HC.out.mono ?_; rintro e' w9 ⟨rfl, hb9⟩)
          go_ret
          exact ⟨by rw [HR.out]; rfl, (H1.out.next hb9).below⟩
        · have HR := Lib.hid (HP1.out.trans (if_neg (fun h => g3 h.2)))
          rw [if_neg (show ¬ (mb : Int) = (m : Int) by omega)] at HR
          clear g2
          go_wp2_with (go_at_call 60; refine HC.out.mono ?_; rintro e' w9 ⟨rfl, hb9⟩)
          go_ret
          exact ⟨by rw [HR.out]; first | rfl | (rw [ByteArray.extract_zero_size]; rfl), (H1.out.next hb9).below⟩


/-! ### Text -/
theorem join_step {f : Int → ByteArray} {ns : List Int} {i : Nat} {n : Int} (h : ns[i]? = some n) : joinB f (ns.take (i + 1)) = joinB f (ns.take i) ++ f n := by
  unfold joinB
  rw [take_snoc h, List.foldl_append]
  rfl
theorem join_size {f : Int → ByteArray} (hf : ∀ n, (f n).size ≤ 400) : ∀ ns : List Int, (joinB f ns).size ≤ 400 * ns.length := by
  have key : ∀ (ns : List Int) (s : ByteArray), (ns.foldl (fun s n => s ++ f n) s).size ≤ s.size + 400 * ns.length := by
    intro ns
    induction ns with
    | nil => intro s; simp
    | cons n r ih =>
      intro s
      have h1 := ih (s ++ f n)
      have h2 := hf n
      rw [ByteArray.size_append] at h1
      rw [List.foldl_cons, List.length_cons]
      omega
  intro ns
  have := key ns ⟨#[]⟩
  have e : (⟨#[]⟩ : ByteArray).size = 0 := rfl
  rw [e] at this
  unfold joinB
  omega
theorem Good.text_small {l : List Nd} (G : Good l) (n : Int) : (textD l n).size ≤ 400 := by
  unfold textD
  cases hx : l[n.toNat]? with
  | none => show (⟨#[]⟩ : ByteArray).size ≤ 400; decide
  | some x => exact ((nodeE_iff x).1 (G.each x (List.mem_of_getElem? hx))).2.2.2.1
theorem Good.part_small {l : List Nd} (G : Good l) (a b : Pt) (n : Int) : (partK l a b n).size ≤ 400 := by
  have h := G.text_small n
  have e : (⟨#[]⟩ : ByteArray).size = 0 := rfl
  unfold partK partS
  split
  · split
    · rw [e]; omega
    · split
      · rw [e]; omega
      · rw [ByteArray.size_extract]
        omega
  · rw [e]; omega
theorem Good.whole_small {l : List Nd} (G : Good l) (n : Int) : (wholeK l n).size ≤ 400 := by
  have h := G.text_small n
  have e : (⟨#[]⟩ : ByteArray).size = 0 := rfl
  unfold wholeK
  split
  · exact h
  · rw [e]; omega
/-- The boxes of Text: the document, the range, the ranger. -/
structure TB (w : World) (A : Option Addr) (n c : Nat) (q : Bool) (a b : Pt) (g : Nat) (u : World) : Prop where
  below : Below w.heap.size w u
  d_ : u.heap[w.heap.size]? = some (.cells #[.slice A n c, .bool q] 24 (0, 0))
  s_ : u.heap[w.heap.size + 1]? = some (.cells #[.int .i64 a.node, .int .i64 a.at_, .int .i64 b.node, .int .i64 b.at_] 63 (0, 0))
  r_ : u.heap[g]? = some (.cells #[.slice A n c, .bool q] 106 (0, 0))
theorem TB.next {w : World} {A : Option Addr} {n c : Nat} {q : Bool} {a b : Pt} {g : Nat} {u u' : World} (h : TB w A n c q a b g u) (hb : Below u.heap.size u u') : TB w A n c q a b g u' :=
  ⟨h.below.trans (hb.mono h.below.size), (hb.block _ (Array.getElem?_eq_some_iff.1 h.d_).1).trans h.d_, (hb.block _ (Array.getElem?_eq_some_iff.1 h.s_).1).trans h.s_, (hb.block _ (Array.getElem?_eq_some_iff.1 h.r_).1).trans h.r_⟩
set_option maxRecDepth 100000 in
set_option maxHeartbeats 8000000 in
theorem text_rg (A : Option Addr) (n c : Nat) (l : List Nd) (q : Bool) (a b : Pt) (w : World) (B : Nat) (hl : Sl tNd w (lt B) A n c l) (hB : B ≤ w.heap.size) (ha : wfP a) (hb : wfP b) :
    Calls Tryd.prog 31 #[.agg #[.slice A n c, .bool q], .agg #[.int .i64 a.node, .int .i64 a.at_, .int .i64 b.node, .int .i64 b.at_]] w fun e' w' => e' = .returned (.tuple #[.string (textS l a b).1, .int .i64 (textS l a b).2]) ∧ Below w.heap.size w w' := by
  obtain ⟨wa, hwa⟩ : ∃ wa, wa = w.alloc (.cells #[.slice A n c, .bool q] 24) := ⟨_, rfl⟩
  obtain ⟨w0, hw0⟩ : ∃ w0, w0 = wa.alloc (.cells #[.int .i64 a.node, .int .i64 a.at_, .int .i64 b.node, .int .i64 b.at_] 63) := ⟨_, rfl⟩
  have za : wa.heap.size = w.heap.size + 1 := by rw [hwa]; exact World.size_alloc w _
  have hb0 : Below w.heap.size w w0 := by rw [hw0, hwa]; exact ((Below.refl _ _).alloc (Nat.le_refl _) _).alloc (by simp) _
  have hx1 : w0.heap[w.heap.size]? = some (.cells #[.slice A n c, .bool q] 24 (0, 0)) := by rw [hw0, Lib.alloc_old _ _ _ (by omega), hwa]; exact heap_alloc_new w _
  have hx2 : w0.heap[w.heap.size + 1]? = some (.cells #[.int .i64 a.node, .int .i64 a.at_, .int .i64 b.node, .int .i64 b.at_] 63 (0, 0)) := by rw [hw0, ← za]; exact heap_alloc_new wa _
  have HSP := Lib.hid (span_any A n c l q a b w0 B (hl.below hb0 hB) (Nat.le_trans hB hb0.size) ha.1 ha.2 hb.1 hb.2)
  have HB0 := Lib.hid hb0
  have HX1 := Lib.hid hx1
  have HX2 := Lib.hid hx2
  have HL := Lib.hid hl
  have HBW : Hid (B ≤ w.heap.size) := hB
  have d0 := cell_blk (i := 0) hx1 rfl
  have d1 := cell_blk (i := 1) hx1 rfl
  have s0 := cell_blk (i := 0) hx2 rfl
  have s1 := cell_blk (i := 1) hx2 rfl
  have s2 := cell_blk (i := 2) hx2 rfl
  have s3 := cell_blk (i := 3) hx2 rfl
  have HWA := Lib.hid ha
  have HWB := Lib.hid hb
  clear za hb0 hx1 hx2 hl hB ha hb
  go_enter Tryd.func31, Tryd.ntmps31
  go_upto_region 1 with fail
  rw [← hwa, ← hw0]
  clear hwa hw0
  go_upto_region 2 with (go_at_call 61; refine HSP.out.mono ?_; rintro e' w1 ⟨rfl, hbs⟩)
  obtain ⟨w2, hw2⟩ : ∃ w2, w2 = w1.alloc (.cells #[.slice A n c, .bool q] 106) := ⟨_, rfl⟩
  rw [← hw2]
  have hb02 : Below w0.heap.size w0 w2 := hbs.trans (by rw [hw2]; exact (Below.refl _ _).alloc hbs.size _)
  have H2 : Hid (TB w A n c q a b w1.heap.size w2) := ⟨HB0.out.trans (hb02.mono HB0.out.size), (hb02.block _ (Array.getElem?_eq_some_iff.1 HX1.out).1).trans HX1.out, (hb02.block _ (Array.getElem?_eq_some_iff.1 HX2.out).1).trans HX2.out, by rw [hw2]; exact heap_alloc_new w1 _⟩
  clear hw2 hbs hb02 d0 d1 s0 s1 s2 s3 HSP HB0 HX1 HX2
  by_cases hsp : spanS l a b = 0
  · have HT1 := Lib.hid (show textS l a b = (joinB (partK l a b) (preR l 0), 0) from if_neg (by simpa using hsp))
    obtain ⟨hck, hpa, hpb, hle⟩ := spanS_zero.1 hsp
    have G := good_of hck
    have T := tree_of hck
    obtain ⟨ma, hma⟩ := ptT_of T hpa
    obtain ⟨mb, hmb⟩ := ptT_of T hpb
    have HPO : Hid (∀ x ∈ preR l 0, ∃ m : Nat, x = (m : Int) ∧ m < l.length ∧ (kindD l m = 3 → PartOk l m a b)) := fun x hx => by
      obtain ⟨m, e, tm⟩ := T.order_trs x hx
      exact ⟨m, e, tm.lt, fun hk => ⟨txt_of G tm hk, ⟨ma, hma⟩, ⟨mb, hmb⟩, hle⟩⟩
    have HG := Lib.hid G
    have HT := Lib.hid T
    have hlen : (preR l 0).length ≤ 200 := T.all_few
    have HOR := Lib.hid (order_any A n c l q w2 B (HL.out.below H2.out.below HBW.out) (Nat.le_trans HBW.out H2.out.below.size))
    have HCK := Lib.hid hck
    have d0 := cell_blk (i := 0) H2.out.d_ rfl
    have d1 := cell_blk (i := 1) H2.out.d_ rfl
    rw [hsp]
    clear hsp hck hpa hpb hle G T hma hmb
    go_upto_region 5 with (go_at_call 15; refine HOR.out.mono ?_; rintro e' w3 ⟨hb3, hp3⟩; rcases hp3 with ⟨hp3, _⟩ | ⟨_, v3, rfl, hown⟩; exact absurd HCK.out hp3)
    generalize preR l 0 = ns at *
    obtain ⟨A8, c8, rfl⟩ := Own.form hown
    have hs8 : Sl (tInt .i64) w3 (lt w3.heap.size) (A8) ns.length c8 ns := by
      obtain ⟨A9, c9, e9, hs⟩ := OwnF.sl hown (by decide) (by show ns.length * 8 ≤ _; omega)
      simp only [Value.slice.injEq, true_and] at e9
      obtain ⟨rfl, rfl⟩ := e9
      exact hs
    have HS8 := Lib.hid hs8
    have H3 := Lib.hid (H2.out.next hb3)
    have hcap8 := hs8.hc
    have HJ : ∀ k, (partK l a b k).size ≤ 400 := HG.out.part_small a b
    have HJS := Lib.hid (join_size HJ)
    clear hb3 hown hs8 d0 d1 HOR HCK HJ
    go_upto_region 7 with fail
    go_loopw [29, 10] (fun s o wr => ∃ i : Nat, i ≤ ns.length ∧ s = .int .i64 (i : Int) ∧ o = .string (joinB (partK l a b) (ns.take i)) ∧ Hid (Below w3.heap.size w3 wr)) (fun s _ _ => ns.length - (intOf s).toNat)
    case atStart => exact ⟨0, Nat.zero_le _, rfl, rfl, Lib.hid (Below.refl _ _)⟩
    case round =>
      obtain ⟨i, hi, rfl, rfl, HBR⟩ := hrel
      have HR := Lib.hid (H3.out.next HBR.out)
      by_cases hlt : i < ns.length
      · obtain ⟨x, hx⟩ := get_some hlt
        obtain ⟨m, hm, hml, hpo⟩ := HPO.out x (List.mem_of_getElem? hx)
        subst hm
        obtain ⟨y, hy⟩ := get_some hml
        obtain ⟨b8, o8, e8, _, hcell, _⟩ := (HS8.out.below HBR.out (Nat.le_refl _)).int hx
        subst e8
        have hmn : m < n := by have := HL.out.hn; omega
        have hl2 := HL.out.below HR.out.below HBW.out
        have hcapn := HL.out.hc
        have HPA := Lib.hid (fun hk => part_any A n c l q m a b wr B hl2 (Nat.le_trans HBW.out HR.out.below.size) HT.out (hpo hk))
        obtain ⟨bb, o, e5, hd⟩ := doc_at hl2 (by omega)
        obtain ⟨_, _, _, _, _, _, _, k0, _⟩ := hd.at_ m y hy
        have HKD := Lib.hid (kindD_at hy)
        have hjs := HJS.out (ns.take i)
        rw [List.length_take] at hjs
        have HJ1 := Lib.hid (join_step (f := partK l a b) hx)
        have hps := HG.out.part_small a b (m : Int)
        have d0 := cell_blk (i := 0) HR.out.d_ rfl
        have d1 := cell_blk (i := 1) HR.out.d_ rfl
        have s0 := cell_blk (i := 0) HR.out.s_ rfl
        have s1 := cell_blk (i := 1) HR.out.s_ rfl
        have s2 := cell_blk (i := 2) HR.out.s_ rfl
        have s3 := cell_blk (i := 3) HR.out.s_ rfl
        have r0 := cell_blk (i := 0) HR.out.r_ rfl
        have r1 := cell_blk (i := 1) HR.out.r_ rfl
        rw [e5] at d0
        have i1 : (0 : Int) ≤ (m : Int) := by omega
        have i2 : (m : Int) < (n : Int) := by omega
        have i3 : (0 : Int) ≤ (i : Int) := by omega
        have i4 : (i : Int) < (ns.length : Int) := by omega
        have HE5 := Lib.hid e5
        generalize joinB (partK l a b) (ns.take i) = acc at *
        have hacc : acc.size ≤ 80000 := by omega
        clear hjs hx hml hpo hy hl2 hd e5
        by_cases hk : y.kind = 3
        · have HPK := Lib.hid (show partK l a b m = partS l m a b from if_pos (HKD.out.trans hk))
          have HP2 := Lib.hid (HPA.out (HKD.out.trans hk))
          rw [HE5.out] at HP2 r0
          rw [HPK.out] at hps HJ1
          have k3 : (y.kind == 3) = true := by simpa using hk
          generalize partS l m a b = pt at *
          clear hk
          go_upto_region 11 with (go_at_call 63; refine HP2.out.mono ?_; rintro e' w9 ⟨rfl, hb9⟩)
          have HB9 := Lib.hid (HBR.out.trans (hb9.mono HBR.out.size))
          clear d0 d1 s0 s1 s2 s3 r0 r1 hcell k0 hb9
          go_wp2_with fail
          go_roundw
          case rel => exact ⟨i + 1, by omega, by go_num, by rw [HJ1.out], HB9⟩
          case measure => simp [intOf]; omega
        · have HPK := Lib.hid (show partK l a b m = ⟨#[]⟩ from if_neg (fun h => hk (HKD.out.symm.trans h)))
          rw [HPK.out] at HJ1
          have HJ2 := Lib.hid (HJ1.out.trans ByteArray.append_empty)
          have k3 : (y.kind == 3) = false := beq_eq_false_iff_ne.2 hk
          clear hk
          go_wp2_with fail
          go_roundw
          case rel => exact ⟨i + 1, by omega, by go_num, by rw [HJ2.out], HBR⟩
          case measure => simp [intOf]; omega
      · have e : ns.take i = ns := List.take_of_length_le (by omega)
        rw [e]
        have HTE := Lib.hid (show textS l a b = (joinB (partK l a b) ns, 0) from HT1.out)
        generalize joinB (partK l a b) ns = acc at *
        have HB := Lib.hid (HR.out.below)
        clear e
        go_wp2_with fail
        refine bodyPost_ret (v := .tuple #[.string acc, .int .i64 0]) (by simp [results, Tryd.results31, go_sem]) rfl ⟨by rw [HTE.out], HB.out⟩
  · have HR := Lib.hid (show textS l a b = (⟨#[]⟩, spanS l a b) from if_pos hsp)
    have j1 : (spanS l a b != 0) = true := by simpa using hsp
    generalize spanS l a b = er at *
    clear hsp
    go_wp2_with fail
    refine bodyPost_ret (v := .tuple #[.string ⟨#[]⟩, .int .i64 er]) (by simp [results, Tryd.results31, go_sem]) rfl ⟨by rw [HR.out], H2.out.below⟩
end Go.Proofs.YtcnogokemilhnaaDoor
