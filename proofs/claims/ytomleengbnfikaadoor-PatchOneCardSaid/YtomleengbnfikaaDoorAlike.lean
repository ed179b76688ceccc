/-
The walks of slices.Equal over attributes, dom.alike, dom.Same: where they say yes.
-/
import Derived.Test.YtomleengbnfikaaDoorSameDoc
import Derived.Test.YtomleengbnfikaaDoorTreeB
namespace Go.Proofs.YtomleengbnfikaaDoor
open Go.RowKit Go.Cl
attribute [local go_sem ↓] Go.wp_at_zero Go.wp_at_succ

/-- Two nodes, and all below them, say the same. -/
def Like (a b : List Nd) : Nat → Nat → Nat → Prop
  | 0, _, _ => False
  | f + 1, n, m => ∃ x y, a[n]? = some x ∧ b[m]? = some y ∧ y.kind = x.kind ∧ y.name = x.name ∧ y.text = x.text ∧ y.attrs = x.attrs ∧ y.kids.length = x.kids.length ∧
    ∀ (i : Nat) (p q : Int), x.kids[i]? = some p → y.kids[i]? = some q → ∃ p' q' : Nat, p = (p' : Int) ∧ q = (q' : Int) ∧ Like a b f p' q'
set_option maxRecDepth 100000 in
set_option maxHeartbeats 4000000 in
theorem eqAttrs_true (A : Option Addr) (n c : Nat) (A2 : Option Addr) (c2 : Nat) (l : List DAttr) (w : World) (D D2 : Nat → Prop) (h1 : Sl tDA w D A n c l) (h2 : Sl tDA w D2 A2 n c2 l) :
    Calls Tryd.prog 35 #[.slice A n c, .slice A2 n c2] w fun e' w' => e' = .returned (.bool true) ∧ Below w.heap.size w w' := by
  have H1 := Lib.hid h1
  have H2 := Lib.hid h2
  have hn1 := h1.small
  have hc1 := h1.hc
  have hc2 := h2.hc
  have hnn : ((n : Int) != (n : Int)) = false := by simp
  clear h1 h2
  go_enter Tryd.func35, Tryd.ntmps35
  go_upto_region 4 with fail
  go_loopw [13] (fun s wr => ∃ i : Nat, i ≤ n ∧ s = .int .i64 (i : Int) ∧ Hid (Below w.heap.size w wr ∧ ∃ k, wr = w.drewN k)) (fun s _ => n - (intOf s).toNat)
  case atStart => exact ⟨0, Nat.zero_le _, rfl, Lib.hid ⟨Below.refl _ _, 0, rfl⟩⟩
  case round =>
    obtain ⟨i, hi, rfl, HR⟩ := hrel
    by_cases hlt : i < n
    · obtain ⟨at1, hat⟩ : ∃ at1, l[i]? = some at1 := get_some (by have := H1.out.hn; omega)
      have hk : ∀ p : Addr, wr.cell? p = w.cell? p := fun p => by obtain ⟨_, k, e⟩ := HR.out; rw [e]; rfl
      obtain ⟨g1, og1, cs1, rfl, _, hr1, hcs1⟩ := (H1.out.keep (fun p _ => hk p)).get hat
      obtain ⟨g2, og2, cs2, rfl, _, hr2, hcs2⟩ := (H2.out.keep (fun p _ => hk p)).get hat
      obtain ⟨_, _, rfl, ⟨rfl, _⟩, rfl, _⟩ := hr1
      obtain ⟨_, _, rfl, ⟨rfl, _⟩, rfl, _⟩ := hr2
      have s0 : wr.cell? ⟨g1, og1 + i * 2, none⟩ = some (.string at1.1) := hcs1 0 _ rfl
      have s1 : wr.cell? ⟨g1, og1 + i * 2 + 1, none⟩ = some (.string at1.2) := by rw [Nat.add_assoc]; exact hcs1 1 _ rfl
      have t0 : wr.cell? ⟨g2, og2 + i * 2, none⟩ = some (.string at1.1) := hcs2 0 _ rfl
      have t1 : wr.cell? ⟨g2, og2 + i * 2 + 1, none⟩ = some (.string at1.2) := by rw [Nat.add_assoc]; exact hcs2 1 _ rfl
      have j1 : (0 : Int) ≤ (i : Int) := by omega
      have j2 : (i : Int) < (n : Int) := by omega
      clear hcs1 hcs2 hat hk
      go_upto_region 6 with fail
      go_quiet (fail)
      generalize hwz : wr.drewN _ = wz
      have HBZ : Hid (Below w.heap.size w wz ∧ ∃ k, wz = w.drewN k) := by
        obtain ⟨hb, k, e⟩ := HR.out
        refine ⟨by rw [← hwz]; exact below_dN hb _, ?_⟩
        rw [← hwz, e]
        exact ⟨_, World.drewN_drewN w k _⟩
      clear hwz
      go_wp2_with fail
      go_roundw
      case rel => exact ⟨i + 1, by omega, by go_num, HBZ⟩
      case measure => simp [intOf]; omega
    · have HB := Lib.hid HR.out.1
      go_wp2_with fail
      go_ret
      exact ⟨rfl, HB.out⟩
set_option maxRecDepth 100000 in
set_option maxHeartbeats 8000000 in
theorem alike_true (l1 l2 : List Nd) (b1 o1 n1 c1 b2 o2 n2 c2 : Nat) (q1 q2 : Bool) (_ : n1 ≤ c1) (_ : n2 ≤ c2) (f : Nat) : ∀ (n m : Nat) (w : World) (B : Nat), Like l1 l2 f n m → DocAt w B b1 o1 n1 l1 → DocAt w B b2 o2 n2 l2 → B ≤ w.heap.size → n1 ≤ 1000 → n2 ≤ 1000 →
    Calls Tryd.prog 20 #[.agg #[.slice (some ⟨b1, o1, none⟩) n1 c1, .bool q1], .agg #[.slice (some ⟨b2, o2, none⟩) n2 c2, .bool q2], .int .i64 (n : Int), .int .i64 (m : Int)] w fun e' w' => e' = .returned (.bool true) ∧ Below w.heap.size w w' := by
  induction f with
  | zero => intro n m w B h; exact h.elim
  | succ f ih =>
    intro n m w B hlike hd1 hd2 hB hs1 hs2
    obtain ⟨x, y, hx, hy, e1, e2, e3, e4, e5, hkids⟩ := hlike
    obtain ⟨wa, hwa⟩ : ∃ wa, wa = w.alloc (.cells #[.slice (some ⟨b1, o1, none⟩) n1 c1, .bool q1] 24) := ⟨_, rfl⟩
    obtain ⟨w0, hw0⟩ : ∃ w0, w0 = wa.alloc (.cells #[.slice (some ⟨b2, o2, none⟩) n2 c2, .bool q2] 24) := ⟨_, rfl⟩
    have za : wa.heap.size = w.heap.size + 1 := by rw [hwa]; exact World.size_alloc w _
    have hb0 : Below w.heap.size w w0 := by rw [hw0, hwa]; exact ((Below.refl _ _).alloc (Nat.le_refl _) _).alloc (by simp) _
    have hx1 : w0.heap[w.heap.size]? = some (.cells #[.slice (some ⟨b1, o1, none⟩) n1 c1, .bool q1] 24 (0, 0)) := by rw [hw0, Lib.alloc_old _ _ _ (by omega), hwa]; exact heap_alloc_new w _
    have hx2 : w0.heap[w.heap.size + 1]? = some (.cells #[.slice (some ⟨b2, o2, none⟩) n2 c2, .bool q2] 24 (0, 0)) := by rw [hw0, ← za]; exact heap_alloc_new wa _
    have hD1 := hd1.below hb0 hB
    have hD2 := hd2.below hb0 hB
    have hn := (List.getElem?_eq_some_iff.1 hx).1
    have hm := (List.getElem?_eq_some_iff.1 hy).1
    have hnl := hd1.hn
    have hml := hd2.hn
    obtain ⟨Aa, na, ca, Ak, nk, ck, hnd1, p0, p1, p2, p3, p4, p5⟩ := hD1.at_ n x hx
    obtain ⟨Aa2, na2, ca2, Ak2, nk2, ck2, hnd2, d0, d1, d2, d3, d4, d5⟩ := hD2.at_ m y hy
    have hat2 := hnd2.attrs
    rw [e4] at hat2
    have hna : na = na2 := by rw [hat2.hn, hnd1.attrs.hn]
    have hnk : nk = nk2 := by rw [hnd2.kids.hn, hnd1.kids.hn, e5]
    subst hna hnk
    rw [e1] at d0
    rw [e2] at d1
    rw [e3] at d3
    have hBz : B ≤ w0.heap.size := Nat.le_trans hB hb0.size
    have HE := Lib.hid (fun W (hW : Below w0.heap.size w0 W) => eqAttrs_true Aa na ca Aa2 ca2 x.attrs W (lt B) (lt B) (hnd1.attrs.below hW hBz) (hat2.below hW hBz))
    have HX1 := Lib.hid hx1
    have HX2 := Lib.hid hx2
    have HB0 := Lib.hid hb0
    have HD1 := Lib.hid hD1
    have HD2 := Lib.hid hD2
    have HKI1 := Lib.hid hnd1.kids
    have HKI2 := Lib.hid hnd2.kids
    have HKIDS := Lib.hid hkids
    have HNK := Lib.hid hnd1.kids.hn
    have HNK2 := Lib.hid hnd2.kids.hn
    have HBZ := Lib.hid hBz
    have IH := Lib.hid ih
    have hks := hnd1.kids.small
    have hck := hnd1.kids.hc
    have hck2 := hnd2.kids.hc
    have hac := hnd1.attrs.hc
    have hac2 := hat2.hc
    have has := hnd1.attrs.small
    generalize y.parent = yp at *
    have x0 := cell_blk (i := 0) hx1 rfl
    have y0 := cell_blk (i := 0) hx2 rfl
    have HS1 : Hid (∀ W, Below w0.heap.size w0 W → (fun w' : World => w'.cell? ⟨w.heap.size, 0, none⟩ = some (.slice (some ⟨b1, o1, none⟩) n1 c1) ∧ w'.cell? ⟨w.heap.size + 1, 0, none⟩ = some (.slice (some ⟨b2, o2, none⟩) n2 c2) ∧ w'.cell? ⟨b1, o1 + n * 6, none⟩ = some (.int .i64 x.kind) ∧ w'.cell? ⟨b1, o1 + n * 6 + 1, none⟩ = some (.string x.name) ∧ w'.cell? ⟨b1, o1 + n * 6 + 2, none⟩ = some (.slice Aa na ca) ∧ w'.cell? ⟨b1, o1 + n * 6 + 3, none⟩ = some (.string x.text) ∧ w'.cell? ⟨b1, o1 + n * 6 + 4, none⟩ = some (.int .i64 x.parent) ∧ w'.cell? ⟨b1, o1 + n * 6 + 5, none⟩ = some (.slice Ak nk ck) ∧ w'.cell? ⟨b2, o2 + m * 6, none⟩ = some (.int .i64 x.kind) ∧ w'.cell? ⟨b2, o2 + m * 6 + 1, none⟩ = some (.string x.name) ∧ w'.cell? ⟨b2, o2 + m * 6 + 2, none⟩ = some (.slice Aa2 na ca2) ∧ w'.cell? ⟨b2, o2 + m * 6 + 3, none⟩ = some (.string x.text) ∧ w'.cell? ⟨b2, o2 + m * 6 + 4, none⟩ = some (.int .i64 yp) ∧ w'.cell? ⟨b2, o2 + m * 6 + 5, none⟩ = some (.slice Ak2 nk ck2)) W) := fun W h => ⟨cell_be x0 h, cell_be y0 h, cell_be p0 h, cell_be p1 h, cell_be p2 h, cell_be p3 h, cell_be p4 h, cell_be p5 h, cell_be d0 h, cell_be d1 h, cell_be d2 h, cell_be d3 h, cell_be d4 h, cell_be d5 h⟩
    have i1 : (0 : Int) ≤ (n : Int) := by omega
    have i2 : (n : Int) < (n1 : Int) := by omega
    have i3 : (0 : Int) ≤ (m : Int) := by omega
    have i4 : (m : Int) < (n2 : Int) := by omega
    have kk : (x.kind != x.kind) = false := by simp
    have aa : ((nk : Int) != (nk : Int)) = false := by simp
    clear za hb0 hx1 hx2 hd1 hd2 hD1 hD2 hn hm hnl hml hnd1 hnd2 hat2 hkids ih hx hy e1 e2 e3 e4 e5 hBz x0 y0 p0 p1 p2 p3 p4 p5 d0 d1 d2 d3 d4 d5
    go_enter Tryd.func20, Tryd.ntmps20
    go_upto_region 1 with fail
    rw [← hwa, ← hw0]
    clear hwa hw0
    go_cut [9, 10] (fun v u wx => TwoAt w0 [.int .i64 x.kind, .string x.name, .slice Aa na ca, .string x.text, .int .i64 x.parent, .slice Ak nk ck] [.int .i64 x.kind, .string x.name, .slice Aa2 na ca2, .string x.text, .int .i64 yp, .slice Ak2 nk ck2] v u wx)
    case first =>
      refine wp_region_G (S := (fun w' : World => w'.cell? ⟨w.heap.size, 0, none⟩ = some (.slice (some ⟨b1, o1, none⟩) n1 c1) ∧ w'.cell? ⟨w.heap.size + 1, 0, none⟩ = some (.slice (some ⟨b2, o2, none⟩) n2 c2) ∧ w'.cell? ⟨b1, o1 + n * 6, none⟩ = some (.int .i64 x.kind) ∧ w'.cell? ⟨b1, o1 + n * 6 + 1, none⟩ = some (.string x.name) ∧ w'.cell? ⟨b1, o1 + n * 6 + 2, none⟩ = some (.slice Aa na ca) ∧ w'.cell? ⟨b1, o1 + n * 6 + 3, none⟩ = some (.string x.text) ∧ w'.cell? ⟨b1, o1 + n * 6 + 4, none⟩ = some (.int .i64 x.parent) ∧ w'.cell? ⟨b1, o1 + n * 6 + 5, none⟩ = some (.slice Ak nk ck) ∧ w'.cell? ⟨b2, o2 + m * 6, none⟩ = some (.int .i64 x.kind) ∧ w'.cell? ⟨b2, o2 + m * 6 + 1, none⟩ = some (.string x.name) ∧ w'.cell? ⟨b2, o2 + m * 6 + 2, none⟩ = some (.slice Aa2 na ca2) ∧ w'.cell? ⟨b2, o2 + m * 6 + 3, none⟩ = some (.string x.text) ∧ w'.cell? ⟨b2, o2 + m * 6 + 4, none⟩ = some (.int .i64 yp) ∧ w'.cell? ⟨b2, o2 + m * 6 + 5, none⟩ = some (.slice Ak2 nk ck2))) (T := []) (by kernel_rfl) ?_
      have hS : (fun w' : World => w'.cell? ⟨w.heap.size, 0, none⟩ = some (.slice (some ⟨b1, o1, none⟩) n1 c1) ∧ w'.cell? ⟨w.heap.size + 1, 0, none⟩ = some (.slice (some ⟨b2, o2, none⟩) n2 c2) ∧ w'.cell? ⟨b1, o1 + n * 6, none⟩ = some (.int .i64 x.kind) ∧ w'.cell? ⟨b1, o1 + n * 6 + 1, none⟩ = some (.string x.name) ∧ w'.cell? ⟨b1, o1 + n * 6 + 2, none⟩ = some (.slice Aa na ca) ∧ w'.cell? ⟨b1, o1 + n * 6 + 3, none⟩ = some (.string x.text) ∧ w'.cell? ⟨b1, o1 + n * 6 + 4, none⟩ = some (.int .i64 x.parent) ∧ w'.cell? ⟨b1, o1 + n * 6 + 5, none⟩ = some (.slice Ak nk ck) ∧ w'.cell? ⟨b2, o2 + m * 6, none⟩ = some (.int .i64 x.kind) ∧ w'.cell? ⟨b2, o2 + m * 6 + 1, none⟩ = some (.string x.name) ∧ w'.cell? ⟨b2, o2 + m * 6 + 2, none⟩ = some (.slice Aa2 na ca2) ∧ w'.cell? ⟨b2, o2 + m * 6 + 3, none⟩ = some (.string x.text) ∧ w'.cell? ⟨b2, o2 + m * 6 + 4, none⟩ = some (.int .i64 yp) ∧ w'.cell? ⟨b2, o2 + m * 6 + 5, none⟩ = some (.slice Ak2 nk ck2)) w0.drew := HS1.out _ (Below.refl _ w0).drew
      refine wpAnyG_pure (i := 0) (v := ?_) rfl (by kernel_rfl) (by kernel_rfl) (by kernel_rfl) (fun _ _ _ h => h) rfl ?_ ?_
      rotate_left
      · intro w'
        first | (go_simp; done) | (go_simp; with_reducible rfl)
      refine wpAnyG_take (i := 1) (v := ?_) rfl (by kernel_rfl) (by kernel_rfl) (by kernel_rfl) (by kernel_rfl) (fun _ _ _ h => h) hS rfl ?_ ?_
      rotate_left
      · intro w' hSw
        (try dsimp only at hSw)
        first | (go_simp; done) | (go_simp; with_reducible rfl)
      refine wpAnyG_pure (i := 2) (v := ?_) rfl (by kernel_rfl) (by kernel_rfl) (by kernel_rfl) (fun _ _ _ h => h) rfl ?_ ?_
      rotate_left
      · intro w'
        first | (go_simp; done) | (go_simp; with_reducible rfl)
      refine wpAnyG_pure (i := 3) (v := ?_) rfl (by kernel_rfl) (by kernel_rfl) (by kernel_rfl) (fun _ _ _ h => h) rfl ?_ ?_
      rotate_left
      · intro w'
        first | (go_simp; done) | (go_simp; with_reducible rfl)
      refine wpAnyG_take (i := 4) (v := ?_) rfl (by kernel_rfl) (by kernel_rfl) (by kernel_rfl) (by kernel_rfl) (fun _ _ _ h => h) hS rfl ?_ ?_
      rotate_left
      · intro w' hSw
        (try dsimp only at hSw)
        first | (go_simp; done) | (go_simp; with_reducible rfl)
      refine wpAnyG_pure (i := 5) (v := ?_) rfl (by kernel_rfl) (by kernel_rfl) (by kernel_rfl) (fun _ _ _ h => h) rfl ?_ ?_
      rotate_left
      · intro w'
        first | (go_simp; done) | (go_simp; with_reducible rfl)
      refine wpAnyG_take (i := 6) (v := ?_) rfl (by kernel_rfl) (by kernel_rfl) (by kernel_rfl) (by kernel_rfl) (fun _ _ _ h => h) hS rfl ?_ ?_
      rotate_left
      · intro w' hSw
        (try dsimp only at hSw)
        first | (go_simp; done) | (go_simp; with_reducible rfl)
      refine wpAnyG_pure (i := 7) (v := ?_) rfl (by kernel_rfl) (by kernel_rfl) (by kernel_rfl) (fun _ _ _ h => h) rfl ?_ ?_
      rotate_left
      · intro w'
        first | (go_simp; done) | (go_simp; with_reducible rfl)
      refine wpAnyG_pure (i := 8) (v := ?_) rfl (by kernel_rfl) (by kernel_rfl) (by kernel_rfl) (fun _ _ _ h => h) rfl ?_ ?_
      rotate_left
      · intro w'
        first | (go_simp; done) | (go_simp; with_reducible rfl)
      refine wpAnyG_take (i := 9) (v := ?_) rfl (by kernel_rfl) (by kernel_rfl) (by kernel_rfl) (by kernel_rfl) (fun _ _ _ h => h) hS rfl ?_ ?_
      rotate_left
      · intro w' hSw
        (try dsimp only at hSw)
        first | (go_simp; done) | (go_simp; with_reducible rfl)
      refine wpAnyG_two (i := 10) (j := 11) (by kernel_rfl) rfl rfl rfl rfl (fun K hK => ?_) (fun K hK => ?_)
      · go_simp
        refine hK.out _ _ (fun _ _ => HS1.out _ ((Below.refl _ w0).drew.alloc (Nat.le_refl _) _)) ?_
        clear hK K hS
        refine wpAnyG_one (i := 11) (by kernel_rfl) rfl rfl (fun K hK => ?_)
        go_simp
        refine hK.out _ _ (fun _ _ => HS1.out _ (((Below.refl _ w0).drew.alloc (Nat.le_refl _) _).alloc (by simp) _)) ?_
        clear hK K
        refine wpAnyG_one (i := 12) (by kernel_rfl) rfl rfl (fun K hK => ?_)
        go_simp
        refine hK.out _ _ (fun _ _ => HS1.out _ (((Below.refl _ w0).drew.alloc (Nat.le_refl _) _).alloc (by simp) _)) ?_
        clear hK K
        refine wpAnyG_one (i := 13) (by kernel_rfl) rfl rfl (fun K hK => ?_)
        go_simp
        refine hK.out _ _ (fun _ _ => HS1.out _ (((Below.refl _ w0).drew.alloc (Nat.le_refl _) _).alloc (by simp) _)) ?_
        clear hK K
        refine wpAnyG_done (by kernel_rfl) ?_ _
        go_wp2_with fail
        go_meet
        case rel => exact ⟨w0.heap.size, w0.heap.size + 1, rfl, rfl, (two_new w0 _ _ _).1, (two_new w0 _ _ _).2.1, (two_new w0 _ _ _).2.2⟩
      · go_simp
        refine hK.out _ _ (fun _ _ => HS1.out _ ((Below.refl _ w0).drew.alloc (Nat.le_refl _) _)) ?_
        clear hK K hS
        refine wpAnyG_one (i := 10) (by kernel_rfl) rfl rfl (fun K hK => ?_)
        go_simp
        refine hK.out _ _ (fun _ _ => HS1.out _ (((Below.refl _ w0).drew.alloc (Nat.le_refl _) _).alloc (by simp) _)) ?_
        clear hK K
        refine wpAnyG_one (i := 12) (by kernel_rfl) rfl rfl (fun K hK => ?_)
        go_simp
        refine hK.out _ _ (fun _ _ => HS1.out _ (((Below.refl _ w0).drew.alloc (Nat.le_refl _) _).alloc (by simp) _)) ?_
        clear hK K
        refine wpAnyG_one (i := 13) (by kernel_rfl) rfl rfl (fun K hK => ?_)
        go_simp
        refine hK.out _ _ (fun _ _ => HS1.out _ (((Below.refl _ w0).drew.alloc (Nat.le_refl _) _).alloc (by simp) _)) ?_
        clear hK K
        refine wpAnyG_done (by kernel_rfl) ?_ _
        go_wp2_with fail
        go_meet
        case rel => exact ⟨w0.heap.size + 1, w0.heap.size, rfl, rfl, (two_new w0 _ _ _).1, (two_new w0 _ _ _).2.2, (two_new w0 _ _ _).2.1⟩
    case rest =>
      obtain ⟨O1, O2, rfl, rfl, hbw, ho1, ho2⟩ := hcut
      have HBW := Lib.hid hbw
      have HO1 := Lib.hid ho1
      have HO2 := Lib.hid ho2
      have HE2 := Lib.hid (HE.out wc hbw)
      have a0 := cell_blk (i := 0) ho1 rfl
      have a1 := cell_blk (i := 1) ho1 rfl
      have a2 := cell_blk (i := 2) ho1 rfl
      have a3 := cell_blk (i := 3) ho1 rfl
      have a5 := cell_blk (i := 5) ho1 rfl
      have g0 := cell_blk (i := 0) ho2 rfl
      have g1 := cell_blk (i := 1) ho2 rfl
      have g2 := cell_blk (i := 2) ho2 rfl
      have g3 := cell_blk (i := 3) ho2 rfl
      have g5 := cell_blk (i := 5) ho2 rfl
      clear hbw ho1 ho2 HS1 HE
      go_upto_region 4 with (go_at_call 35; refine HE2.out.mono ?_; rintro e' w3 ⟨rfl, hb3⟩; have HB3 := Lib.hid hb3; have f5 := cell_be a5 hb3; have h5 := cell_be g5 hb3)
      clear a0 a1 a2 a3 a5 g0 g1 g2 g3 g5 HE2 hb3
      have HB03 := Lib.hid (HBW.out.trans (HB3.out.mono HBW.out.size))
      go_upto_region 5 with fail
      clear f5 h5
      go_loopw [61] (fun s wr => ∃ i : Nat, i ≤ nk ∧ s = .int .i64 (i : Int) ∧ Hid (Below w3.heap.size w3 wr)) (fun s _ => nk - (intOf s).toNat)
      case atStart => exact ⟨0, Nat.zero_le _, rfl, Lib.hid (Below.refl _ _)⟩
      case round =>
        obtain ⟨i, hi, rfl, HR⟩ := hrel
        have HBR := Lib.hid (HB03.out.trans (HR.out.mono HB03.out.size))
        by_cases hlt : i < nk
        · obtain ⟨zp, hzp⟩ : ∃ zp, x.kids[i]? = some zp := get_some (by have := HNK.out; omega)
          obtain ⟨zq, hzq⟩ : ∃ zq, y.kids[i]? = some zq := get_some (by have := HNK2.out; omega)
          obtain ⟨p, p2, rfl, rfl, hl⟩ := HKIDS.out i zp zq hzp hzq
          obtain ⟨g1, r1, eg1, _, u1, _⟩ := (HKI1.out.below HBR.out HBZ.out).int hzp
          obtain ⟨g2, r2, eg2, _, u2, _⟩ := (HKI2.out.below HBR.out HBZ.out).int hzq
          subst eg1 eg2
          have hxb1 := (HBR.out.block _ (Array.getElem?_eq_some_iff.1 HX1.out).1).trans HX1.out
          have hxb2 := (HBR.out.block _ (Array.getElem?_eq_some_iff.1 HX2.out).1).trans HX2.out
          have hbc : Below wc.heap.size wc wr := HB3.out.trans (HR.out.mono HB3.out.size)
          have ho1 := (hbc.block _ (Array.getElem?_eq_some_iff.1 HO1.out).1).trans HO1.out
          have ho2 := (hbc.block _ (Array.getElem?_eq_some_iff.1 HO2.out).1).trans HO2.out
          have HC := Lib.hid (fun W (hW : Below wr.heap.size wr W) => IH.out p p2 W B hl (HD1.out.below (HBR.out.trans (hW.mono HBR.out.size)) HBZ.out) (HD2.out.below (HBR.out.trans (hW.mono HBR.out.size)) HBZ.out) (Nat.le_trans HBZ.out (Nat.le_trans HBR.out.size hW.size)) hs1 hs2)
          have k0 := cell_blk (i := 0) hxb1 rfl
          have k1 := cell_blk (i := 1) hxb1 rfl
          have k2 := cell_blk (i := 0) hxb2 rfl
          have k3 := cell_blk (i := 1) hxb2 rfl
          have k4 := cell_blk (i := 5) ho1 rfl
          have k5 := cell_blk (i := 5) ho2 rfl
          have HS7 : Hid (∀ W, Below wr.heap.size wr W → (fun w' : World => w'.cell? ⟨w.heap.size, 0, none⟩ = some (.slice (some ⟨b1, o1, none⟩) n1 c1) ∧ w'.cell? ⟨w.heap.size, 1, none⟩ = some (.bool q1) ∧ w'.cell? ⟨w.heap.size + 1, 0, none⟩ = some (.slice (some ⟨b2, o2, none⟩) n2 c2) ∧ w'.cell? ⟨w.heap.size + 1, 1, none⟩ = some (.bool q2) ∧ w'.cell? ⟨O1, 5, none⟩ = some (.slice (some ⟨g1, r1, none⟩) nk ck) ∧ w'.cell? ⟨O2, 5, none⟩ = some (.slice (some ⟨g2, r2, none⟩) nk ck2) ∧ w'.cell? ⟨g1, r1 + i, none⟩ = some (.int .i64 (p : Int)) ∧ w'.cell? ⟨g2, r2 + i, none⟩ = some (.int .i64 (p2 : Int))) W) := fun W h => ⟨cell_be k0 h, cell_be k1 h, cell_be k2 h, cell_be k3 h, cell_be k4 h, cell_be k5 h, cell_be u1 h, cell_be u2 h⟩
          have j1 : (0 : Int) ≤ (i : Int) := by omega
          have j2 : (i : Int) < (nk : Int) := by omega
          clear hzp hzq hl hxb1 hxb2 hbc ho1 ho2 k0 k1 k2 k3 k4 k5 u1 u2
          go_upto_region 7 with fail
          refine wp_region_G (S := (fun w' : World => w'.cell? ⟨w.heap.size, 0, none⟩ = some (.slice (some ⟨b1, o1, none⟩) n1 c1) ∧ w'.cell? ⟨w.heap.size, 1, none⟩ = some (.bool q1) ∧ w'.cell? ⟨w.heap.size + 1, 0, none⟩ = some (.slice (some ⟨b2, o2, none⟩) n2 c2) ∧ w'.cell? ⟨w.heap.size + 1, 1, none⟩ = some (.bool q2) ∧ w'.cell? ⟨O1, 5, none⟩ = some (.slice (some ⟨g1, r1, none⟩) nk ck) ∧ w'.cell? ⟨O2, 5, none⟩ = some (.slice (some ⟨g2, r2, none⟩) nk ck2) ∧ w'.cell? ⟨g1, r1 + i, none⟩ = some (.int .i64 (p : Int)) ∧ w'.cell? ⟨g2, r2 + i, none⟩ = some (.int .i64 (p2 : Int)))) (T := []) (by kernel_rfl) ?_
          have hS : (fun w' : World => w'.cell? ⟨w.heap.size, 0, none⟩ = some (.slice (some ⟨b1, o1, none⟩) n1 c1) ∧ w'.cell? ⟨w.heap.size, 1, none⟩ = some (.bool q1) ∧ w'.cell? ⟨w.heap.size + 1, 0, none⟩ = some (.slice (some ⟨b2, o2, none⟩) n2 c2) ∧ w'.cell? ⟨w.heap.size + 1, 1, none⟩ = some (.bool q2) ∧ w'.cell? ⟨O1, 5, none⟩ = some (.slice (some ⟨g1, r1, none⟩) nk ck) ∧ w'.cell? ⟨O2, 5, none⟩ = some (.slice (some ⟨g2, r2, none⟩) nk ck2) ∧ w'.cell? ⟨g1, r1 + i, none⟩ = some (.int .i64 (p : Int)) ∧ w'.cell? ⟨g2, r2 + i, none⟩ = some (.int .i64 (p2 : Int))) wr.drew := HS7.out _ (Below.refl _ wr).drew
          refine wpAnyG_take (i := 0) (v := ?_) rfl (by kernel_rfl) (by kernel_rfl) (by kernel_rfl) (by kernel_rfl) (fun _ _ _ h => h) hS rfl ?_ ?_
          rotate_left
          · intro w' hSw
            (try dsimp only at hSw)
            first | (go_simp; done) | (go_simp; with_reducible rfl)
          refine wpAnyG_take (i := 1) (v := ?_) rfl (by kernel_rfl) (by kernel_rfl) (by kernel_rfl) (by kernel_rfl) (fun _ _ _ h => h) hS rfl ?_ ?_
          rotate_left
          · intro w' hSw
            (try dsimp only at hSw)
            first | (go_simp; done) | (go_simp; with_reducible rfl)
          refine wpAnyG_pure (i := 2) (v := ?_) rfl (by kernel_rfl) (by kernel_rfl) (by kernel_rfl) (fun _ _ _ h => h) rfl ?_ ?_
          rotate_left
          · intro w'
            first | (go_simp; done) | (go_simp; with_reducible rfl)
          refine wpAnyG_take (i := 3) (v := ?_) rfl (by kernel_rfl) (by kernel_rfl) (by kernel_rfl) (by kernel_rfl) (fun _ _ _ h => h) hS rfl ?_ ?_
          rotate_left
          · intro w' hSw
            (try dsimp only at hSw)
            first | (go_simp; done) | (go_simp; with_reducible rfl)
          refine wpAnyG_pure (i := 4) (v := ?_) rfl (by kernel_rfl) (by kernel_rfl) (by kernel_rfl) (fun _ _ _ h => h) rfl ?_ ?_
          rotate_left
          · intro w'
            first | (go_simp; done) | (go_simp; with_reducible rfl)
          refine wpAnyG_pure (i := 5) (v := ?_) rfl (by kernel_rfl) (by kernel_rfl) (by kernel_rfl) (fun _ _ _ h => h) rfl ?_ ?_
          rotate_left
          · intro w'
            first | (go_simp; done) | (go_simp; with_reducible rfl)
          refine wpAnyG_take (i := 6) (v := ?_) rfl (by kernel_rfl) (by kernel_rfl) (by kernel_rfl) (by kernel_rfl) (fun _ _ _ h => h) hS rfl ?_ ?_
          rotate_left
          · intro w' hSw
            (try dsimp only at hSw)
            first | (go_simp; done) | (go_simp; with_reducible rfl)
          refine wpAnyG_pure (i := 7) (v := ?_) rfl (by kernel_rfl) (by kernel_rfl) (by kernel_rfl) (fun _ _ _ h => h) rfl ?_ ?_
          rotate_left
          · intro w'
            first | (go_simp; done) | (go_simp; with_reducible rfl)
          refine wpAnyG_take (i := 8) (v := ?_) rfl (by kernel_rfl) (by kernel_rfl) (by kernel_rfl) (by kernel_rfl) (fun _ _ _ h => h) hS rfl ?_ ?_
          rotate_left
          · intro w' hSw
            (try dsimp only at hSw)
            first | (go_simp; done) | (go_simp; with_reducible rfl)
          refine wpAnyG_pure (i := 9) (v := ?_) rfl (by kernel_rfl) (by kernel_rfl) (by kernel_rfl) (fun _ _ _ h => h) rfl ?_ ?_
          rotate_left
          · intro w'
            first | (go_simp; done) | (go_simp; with_reducible rfl)
          refine wpAnyG_pure (i := 10) (v := ?_) rfl (by kernel_rfl) (by kernel_rfl) (by kernel_rfl) (fun _ _ _ h => h) rfl ?_ ?_
          rotate_left
          · intro w'
            first | (go_simp; done) | (go_simp; with_reducible rfl)
          refine wpAnyG_take (i := 11) (v := ?_) rfl (by kernel_rfl) (by kernel_rfl) (by kernel_rfl) (by kernel_rfl) (fun _ _ _ h => h) hS rfl ?_ ?_
          rotate_left
          · intro w' hSw
            (try dsimp only at hSw)
            first | (go_simp; done) | (go_simp; with_reducible rfl)
          refine wpAnyG_one (i := 12) (by kernel_rfl) rfl rfl (fun K hK => ?_)
          go_simp
          go_at_call 20
          refine (HC.out wr.drew (Below.refl _ wr).drew).mono ?_
          rintro e' w6 ⟨rfl, hb6⟩
          have hbr6 : Below wr.heap.size wr w6 := (Below.refl _ wr).drew.trans hb6
          refine hK.out _ _ (fun _ _ => HS7.out _ hbr6) ?_
          clear hK K hS
          refine wpAnyG_pure (i := 13) (v := ?_) rfl (by kernel_rfl) (by kernel_rfl) (by kernel_rfl) (fun _ _ _ h => h) rfl ?_ ?_
          rotate_left
          · intro w'
            first | (go_simp; done) | (go_simp; with_reducible rfl)
          refine wpAnyG_done (by kernel_rfl) ?_ _
          have HB6 := Lib.hid (HR.out.trans (hbr6.mono HR.out.size))
          clear hbr6 hb6 HS7 HC
          go_wp2_with fail
          go_roundw
          case rel => exact ⟨i + 1, by omega, by go_num, HB6⟩
          case measure => simp [intOf]; omega
        · have HBF := Lib.hid (HB0.out.trans (HBR.out.mono HB0.out.size))
          go_wp2_with fail
          go_ret
          exact ⟨rfl, HBF.out⟩
set_option maxRecDepth 100000 in
set_option maxHeartbeats 4000000 in
theorem same_true2 (A1 : Option Addr) (n1 c1 : Nat) (l1 : List Nd) (A2 : Option Addr) (n2 c2 : Nat) (l2 : List Nd) (q : Bool) (w : World) (B : Nat) (h1 : Sl tNd w (lt B) A1 n1 c1 l1) (h2 : Sl tNd w (lt B) A2 n2 c2 l2) (hB : B ≤ w.heap.size) (hc1 : checkD l1 = 0) (hc2 : checkD l2 = 0) (f : Nat) (hl : Like l1 l2 f 0 0) :
    Calls Tryd.prog 10 #[.agg #[.slice A1 n1 c1, .bool q], .agg #[.slice A2 n2 c2, .bool q]] w fun e' w' => e' = .returned (.bool true) ∧ Below w.heap.size w w' := by
  obtain ⟨wa, hwa⟩ : ∃ wa, wa = w.alloc (.cells #[.slice A1 n1 c1, .bool q] 24) := ⟨_, rfl⟩
  obtain ⟨w0, hw0⟩ : ∃ w0, w0 = wa.alloc (.cells #[.slice A2 n2 c2, .bool q] 24) := ⟨_, rfl⟩
  have za : wa.heap.size = w.heap.size + 1 := by rw [hwa]; exact World.size_alloc w _
  have hb0 : Below w.heap.size w w0 := by rw [hw0, hwa]; exact ((Below.refl _ _).alloc (Nat.le_refl _) _).alloc (by simp) _
  have hx1 : w0.heap[w.heap.size]? = some (.cells #[.slice A1 n1 c1, .bool q] 24 (0, 0)) := by rw [hw0, Lib.alloc_old _ _ _ (by omega), hwa]; exact heap_alloc_new w _
  have hx2 : w0.heap[w.heap.size + 1]? = some (.cells #[.slice A2 n2 c2, .bool q] 24 (0, 0)) := by rw [hw0, ← za]; exact heap_alloc_new wa _
  have T1 := tree_of hc1
  have T2 := tree_of hc2
  have HC1 := Lib.hid (check_dom A1 n1 c1 l1 q w0 B (h1.below hb0 hB) (Nat.le_trans hB hb0.size))
  have HC2 := Lib.hid (fun W (hW : Below w0.heap.size w0 W) => check_dom A2 n2 c2 l2 q W B ((h2.below hb0 hB).below hW (Nat.le_trans hB hb0.size)) (Nat.le_trans (Nat.le_trans hB hb0.size) hW.size))
  rw [hc1] at HC1
  rw [hc2] at HC2
  have hp1 := T1.pos
  have hp2 := T2.pos
  have hs1 := T1.small
  have hs2 := T2.small
  have hn1 := h1.hn
  have hn2 := h2.hn
  have hk1 := h1.hc
  have hk2 := h2.hc
  obtain ⟨b1, o1, rfl, hd1⟩ := doc_at h1 (by omega)
  obtain ⟨b2, o2, rfl, hd2⟩ := doc_at h2 (by omega)
  have HAL := Lib.hid (fun W (hW : Below w.heap.size w W) => alike_true l1 l2 b1 o1 n1 c1 b2 o2 n2 c2 q q hk1 hk2 f 0 0 W B hl (hd1.below hW hB) (hd2.below hW hB) (Nat.le_trans hB hW.size) (by omega) (by omega))
  have HX1 := Lib.hid hx1
  have HX2 := Lib.hid hx2
  have HB0 := Lib.hid hb0
  have x0 := cell_blk (i := 0) hx1 rfl
  have x1 := cell_blk (i := 1) hx1 rfl
  have hqq : (q == q) = true := by simp
  clear za hb0 hx1 hx2 h1 h2 hc1 hc2 hl T1 T2 hd1 hd2 hp1 hp2 hs1 hs2 hn1 hn2
  go_enter Tryd.func10, Tryd.ntmps10
  go_upto_region 1 with fail
  rw [← hwa, ← hw0]
  clear hwa hw0
  go_wp2_with (first
    | (go_at_call 11; with_reducible refine HC1.out.mono ?_; rintro e' w2 ⟨rfl, hb2⟩; have HB2 := Lib.hid hb2; have z0 := cell_blk (i := 0) ((hb2.block _ (Array.getElem?_eq_some_iff.1 HX2.out).1).trans HX2.out) rfl; have z1 := cell_blk (i := 1) ((hb2.block _ (Array.getElem?_eq_some_iff.1 HX2.out).1).trans HX2.out) rfl)
    | (go_at_call 11; refine (HC2.out w2 HB2.out).mono ?_; rintro e' w3 ⟨rfl, hb3⟩; have HB3 := Lib.hid (HB2.out.trans (hb3.mono HB2.out.size)); have u0 := cell_blk (i := 0) ((HB3.out.block _ (Array.getElem?_eq_some_iff.1 HX1.out).1).trans HX1.out) rfl; have u1 := cell_blk (i := 1) ((HB3.out.block _ (Array.getElem?_eq_some_iff.1 HX1.out).1).trans HX1.out) rfl; have v0 := cell_blk (i := 0) ((HB3.out.block _ (Array.getElem?_eq_some_iff.1 HX2.out).1).trans HX2.out) rfl; have v1 := cell_blk (i := 1) ((HB3.out.block _ (Array.getElem?_eq_some_iff.1 HX2.out).1).trans HX2.out) rfl)
    | (go_at_call 20; refine (HAL.out w3 (HB0.out.trans (HB3.out.mono HB0.out.size))).mono ?_; rintro e' w4 ⟨rfl, hb4⟩))
  go_ret
  exact ⟨rfl, HB0.out.trans ((HB3.out.trans (hb4.mono HB3.out.size)).mono HB0.out.size)⟩
end Go.Proofs.YtomleengbnfikaaDoor
