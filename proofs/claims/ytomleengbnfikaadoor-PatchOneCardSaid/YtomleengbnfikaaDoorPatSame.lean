/-
Patches: the walks of kin and same of the differ.
-/
import Derived.Test.YtomleengbnfikaaDoorPatKit
namespace Go.Proofs.YtomleengbnfikaaDoor
open Go.RowKit Go.Cl
attribute [local go_sem ↓] Go.wp_at_zero Go.wp_at_succ

/-- May a node become another one? -/
def kinB (x y : Nd) : Bool := x.kind == y.kind && x.name.toList == y.name.toList
theorem kin_iff {x y : Nd} : kinB x y = true ↔ x.kind = y.kind ∧ x.name = y.name := by
  unfold kinB
  rw [Bool.and_eq_true, beq_iff_eq, beq_iff_eq]
  exact ⟨fun h => ⟨h.1, ba_eq h.2⟩, fun h => ⟨h.1, by rw [h.2]⟩⟩
theorem kin_any (x y : Nd) (Aa : Option Addr) (na ca : Nat) (Ak : Option Addr) (nk ck : Nat) (Aa2 : Option Addr) (na2 ca2 : Nat) (Ak2 : Option Addr) (nk2 ck2 : Nat) (w : World) :
    Calls Tryd.prog 53 #[.agg #[.int .i64 x.kind, .string x.name, .slice Aa na ca, .string x.text, .int .i64 x.parent, .slice Ak nk ck], .agg #[.int .i64 y.kind, .string y.name, .slice Aa2 na2 ca2, .string y.text, .int .i64 y.parent, .slice Ak2 nk2 ck2]] w fun e' w' => e' = .returned (.bool (kinB x y)) ∧ Below w.heap.size w w' := by
  by_cases hk : x.kind = y.kind
  · have kk : (x.kind == y.kind) = true := by rw [hk]; simp
    have hkin : kinB x y = (x.name.toList == y.name.toList) := by unfold kinB; rw [kk]; rfl
    rw [hkin]
    clear hk hkin
    go_enter Tryd.func53, Tryd.ntmps53
    go_wp2_with fail
    go_ret
    exact ⟨rfl, ((Below.refl _ _).alloc (Nat.le_refl _) _).alloc (by simp) _⟩
  · have kk : (x.kind == y.kind) = false := beq_eq_false_iff_ne.2 hk
    have hkin : kinB x y = false := by unfold kinB; rw [kk]; rfl
    rw [hkin]
    clear hk hkin
    go_enter Tryd.func53, Tryd.ntmps53
    go_wp2_with fail
    go_ret
    exact ⟨rfl, ((Below.refl _ _).alloc (Nat.le_refl _) _).alloc (by simp) _⟩
set_option maxRecDepth 100000 in
set_option maxHeartbeats 8000000 in
theorem dsame_any {l1 l2 : List Nd} (T1 : Tree l1) (T2 : Tree l2) (E b1 o1 n1 c1 b2 o2 n2 c2 : Nat) (q1 q2 : Bool) (v : Value) (mm : Int) (_ : n1 ≤ c1) (_ : n2 ≤ c2) (f : Nat) : ∀ (n m : Nat) (w : World) (B : Nat), n < l1.length → m < l2.length → upN l1 n + f = 41 → DocAt w B b1 o1 n1 l1 → DocAt w B b2 o2 n2 l2 → B ≤ w.heap.size → n1 ≤ 1000 → n2 ≤ 1000 → w.heap[E]? = some (.cells (dfCells (some ⟨b1, o1, none⟩) n1 c1 q1 (some ⟨b2, o2, none⟩) n2 c2 q2 v mm) 59 (0, 0)) →
    Calls Tryd.prog 54 #[.pointer (some ⟨E, 0, none⟩), .int .i64 (n : Int), .int .i64 (m : Int)] w fun e' w' => (∃ r, e' = .returned (.bool r) ∧ (r = true ↔ Like l1 l2 f n m)) ∧ Below w.heap.size w w' := by
  induction f with
  | zero =>
    intro n m w B hn hm hup
    have := (T1.deep n hn).1
    omega
  | succ f ih =>
    intro n m w B hn hm hup hD1 hD2 hBz hs1 hs2 hxE
    obtain ⟨x, hx⟩ : ∃ x, l1[n]? = some x := get_some hn
    obtain ⟨y, hy⟩ : ∃ y, l2[m]? = some y := get_some hm
    have hkd1 : ∀ z ∈ x.kids, ∃ p : Nat, z = (p : Int) ∧ p < l1.length ∧ upN l1 p + f = 41 := fun z hz => by
      obtain ⟨p, e, hp, hpar⟩ := T1.kid hn (by rw [kidsD_at hx]; exact hz)
      exact ⟨p, e, hp, by have := (T1.up_par hp hpar).2; omega⟩
    have hkd2 : ∀ z ∈ y.kids, ∃ p : Nat, z = (p : Int) ∧ p < l2.length := fun z hz => by
      obtain ⟨p, e, hp, _⟩ := T2.kid hm (by rw [kidsD_at hy]; exact hz)
      exact ⟨p, e, hp⟩
    have hnl := hD1.hn
    have hml := hD2.hn
    obtain ⟨Aa, na, ca, Ak, nk, ck, hnd1, p0, p1, p2, p3, p4, p5⟩ := hD1.at_ n x hx
    obtain ⟨Aa2, na2, ca2, Ak2, nk2, ck2, hnd2, d0, d1, d2, d3, d4, d5⟩ := hD2.at_ m y hy
    have HE := Lib.hid (fun W (hW : Below w.heap.size w W) => eqAttrs_any Aa na ca Aa2 na2 ca2 x.attrs y.attrs W (lt B) (lt B) (hnd1.attrs.below hW hBz) (hnd2.attrs.below hW hBz))
    have HXE := Lib.hid hxE
    have HD1 := Lib.hid hD1
    have HD2 := Lib.hid hD2
    have HKI1 := Lib.hid hnd1.kids
    have HKI2 := Lib.hid hnd2.kids
    have HKD1 := Lib.hid hkd1
    have HKD2 := Lib.hid hkd2
    have HNK := Lib.hid hnd1.kids.hn
    have HNK2 := Lib.hid hnd2.kids.hn
    have HBZ := Lib.hid hBz
    have IH := Lib.hid ih
    have HX := Lib.hid hx
    have HY := Lib.hid hy
    have hks := hnd1.kids.small
    have hck := hnd1.kids.hc
    have hck2 := hnd2.kids.hc
    have x0 : w.cell? ⟨E, 0, none⟩ = some (.slice (some ⟨b1, o1, none⟩) n1 c1) := cell_blk (i := 0) hxE rfl
    have y0 : w.cell? ⟨E, 2, none⟩ = some (.slice (some ⟨b2, o2, none⟩) n2 c2) := cell_blk (i := 2) hxE rfl
    have HS1 : Hid (∀ W, Below w.heap.size w W → (fun w' : World => w'.cell? ⟨E, 0, none⟩ = some (.slice (some ⟨b1, o1, none⟩) n1 c1) ∧ w'.cell? ⟨E, 2, none⟩ = some (.slice (some ⟨b2, o2, none⟩) n2 c2) ∧ w'.cell? ⟨b1, o1 + n * 6, none⟩ = some (.int .i64 x.kind) ∧ w'.cell? ⟨b1, o1 + n * 6 + 1, none⟩ = some (.string x.name) ∧ w'.cell? ⟨b1, o1 + n * 6 + 2, none⟩ = some (.slice Aa na ca) ∧ w'.cell? ⟨b1, o1 + n * 6 + 3, none⟩ = some (.string x.text) ∧ w'.cell? ⟨b1, o1 + n * 6 + 4, none⟩ = some (.int .i64 x.parent) ∧ w'.cell? ⟨b1, o1 + n * 6 + 5, none⟩ = some (.slice Ak nk ck) ∧ w'.cell? ⟨b2, o2 + m * 6, none⟩ = some (.int .i64 y.kind) ∧ w'.cell? ⟨b2, o2 + m * 6 + 1, none⟩ = some (.string y.name) ∧ w'.cell? ⟨b2, o2 + m * 6 + 2, none⟩ = some (.slice Aa2 na2 ca2) ∧ w'.cell? ⟨b2, o2 + m * 6 + 3, none⟩ = some (.string y.text) ∧ w'.cell? ⟨b2, o2 + m * 6 + 4, none⟩ = some (.int .i64 y.parent) ∧ w'.cell? ⟨b2, o2 + m * 6 + 5, none⟩ = some (.slice Ak2 nk2 ck2)) W) := fun W h => ⟨cell_be x0 h, cell_be y0 h, cell_be p0 h, cell_be p1 h, cell_be p2 h, cell_be p3 h, cell_be p4 h, cell_be p5 h, cell_be d0 h, cell_be d1 h, cell_be d2 h, cell_be d3 h, cell_be d4 h, cell_be d5 h⟩
    have i1 : (0 : Int) ≤ (n : Int) := by omega
    have i2 : (n : Int) < (n1 : Int) := by omega
    have i3 : (0 : Int) ≤ (m : Int) := by omega
    have i4 : (m : Int) < (n2 : Int) := by omega
    have HKN0 := Lib.hid (fun W => kin_any x y Aa na ca Ak nk ck Aa2 na2 ca2 Ak2 nk2 ck2 W)
    clear hD1 hD2 hn hm hnl hml hnd1 hnd2 hkd1 hkd2 ih hx hy hBz x0 y0 p0 p1 p2 p3 p4 p5 d0 d1 d2 d3 d4 d5 T1 T2 hxE
    go_enter Tryd.func54, Tryd.ntmps54
    go_upto_region 1 with fail
    go_cut [7, 8] (fun v u wx => TwoAt w [.int .i64 x.kind, .string x.name, .slice Aa na ca, .string x.text, .int .i64 x.parent, .slice Ak nk ck] [.int .i64 y.kind, .string y.name, .slice Aa2 na2 ca2, .string y.text, .int .i64 y.parent, .slice Ak2 nk2 ck2] v u wx)
    case first =>
      refine wp_region_G (S := (fun w' : World => w'.cell? ⟨E, 0, none⟩ = some (.slice (some ⟨b1, o1, none⟩) n1 c1) ∧ w'.cell? ⟨E, 2, none⟩ = some (.slice (some ⟨b2, o2, none⟩) n2 c2) ∧ w'.cell? ⟨b1, o1 + n * 6, none⟩ = some (.int .i64 x.kind) ∧ w'.cell? ⟨b1, o1 + n * 6 + 1, none⟩ = some (.string x.name) ∧ w'.cell? ⟨b1, o1 + n * 6 + 2, none⟩ = some (.slice Aa na ca) ∧ w'.cell? ⟨b1, o1 + n * 6 + 3, none⟩ = some (.string x.text) ∧ w'.cell? ⟨b1, o1 + n * 6 + 4, none⟩ = some (.int .i64 x.parent) ∧ w'.cell? ⟨b1, o1 + n * 6 + 5, none⟩ = some (.slice Ak nk ck) ∧ w'.cell? ⟨b2, o2 + m * 6, none⟩ = some (.int .i64 y.kind) ∧ w'.cell? ⟨b2, o2 + m * 6 + 1, none⟩ = some (.string y.name) ∧ w'.cell? ⟨b2, o2 + m * 6 + 2, none⟩ = some (.slice Aa2 na2 ca2) ∧ w'.cell? ⟨b2, o2 + m * 6 + 3, none⟩ = some (.string y.text) ∧ w'.cell? ⟨b2, o2 + m * 6 + 4, none⟩ = some (.int .i64 y.parent) ∧ w'.cell? ⟨b2, o2 + m * 6 + 5, none⟩ = some (.slice Ak2 nk2 ck2))) (T := []) (by kernel_rfl) ?_
      have hS : (fun w' : World => w'.cell? ⟨E, 0, none⟩ = some (.slice (some ⟨b1, o1, none⟩) n1 c1) ∧ w'.cell? ⟨E, 2, none⟩ = some (.slice (some ⟨b2, o2, none⟩) n2 c2) ∧ w'.cell? ⟨b1, o1 + n * 6, none⟩ = some (.int .i64 x.kind) ∧ w'.cell? ⟨b1, o1 + n * 6 + 1, none⟩ = some (.string x.name) ∧ w'.cell? ⟨b1, o1 + n * 6 + 2, none⟩ = some (.slice Aa na ca) ∧ w'.cell? ⟨b1, o1 + n * 6 + 3, none⟩ = some (.string x.text) ∧ w'.cell? ⟨b1, o1 + n * 6 + 4, none⟩ = some (.int .i64 x.parent) ∧ w'.cell? ⟨b1, o1 + n * 6 + 5, none⟩ = some (.slice Ak nk ck) ∧ w'.cell? ⟨b2, o2 + m * 6, none⟩ = some (.int .i64 y.kind) ∧ w'.cell? ⟨b2, o2 + m * 6 + 1, none⟩ = some (.string y.name) ∧ w'.cell? ⟨b2, o2 + m * 6 + 2, none⟩ = some (.slice Aa2 na2 ca2) ∧ w'.cell? ⟨b2, o2 + m * 6 + 3, none⟩ = some (.string y.text) ∧ w'.cell? ⟨b2, o2 + m * 6 + 4, none⟩ = some (.int .i64 y.parent) ∧ w'.cell? ⟨b2, o2 + m * 6 + 5, none⟩ = some (.slice Ak2 nk2 ck2)) w.drew := HS1.out _ (Below.refl _ w).drew
      refine wpAnyG_pure (i := 0) (v := ?_) rfl (by kernel_rfl) (by kernel_rfl) (by kernel_rfl) (fun _ _ _ h => h) rfl ?_ ?_
      rotate_left
      · intro w'
        first | (go_simp; done) | (go_simp; with_reducible rfl)
      refine wpAnyG_pure (i := 1) (v := ?_) rfl (by kernel_rfl) (by kernel_rfl) (by kernel_rfl) (fun _ _ _ h => h) rfl ?_ ?_
      rotate_left
      · intro w'
        first | (go_simp; done) | (go_simp; with_reducible rfl)
      refine wpAnyG_pure (i := 2) (v := ?_) rfl (by kernel_rfl) (by kernel_rfl) (by kernel_rfl) (fun _ _ _ h => h) rfl ?_ ?_
      rotate_left
      · intro w'
        first | (go_simp; done) | (go_simp; with_reducible rfl)
      refine wpAnyG_pure (i := 3) (v := ?_) rfl (by kernel_rfl) (by kernel_rfl) (by kernel_rfl) (fun _ _ _ h => h) rfl ?_ ?_
      rotate_left
      · intro w'
        first | (go_simp; done) | (go_simp; with_reducible rfl)
      refine wpAnyG_take (i := 4) (v := ?_) rfl (by kernel_rfl) (by kernel_rfl) (by kernel_rfl) (by kernel_rfl) (fun _ _ _ h => h) hS rfl ?_ ?_
      rotate_left
      · intro w' hSw
        (try dsimp only at hSw)
        first | (go_simp; done) | (go_simp; with_reducible rfl)
      refine wpAnyG_pure (i := 5) (v := ?_) rfl (by kernel_rfl) (by kernel_rfl) (by kernel_rfl) (fun _ _ _ h => h) rfl ?_ ?_
      rotate_left
      · intro w'
        first | (go_simp; done) | (go_simp; with_reducible rfl)
      refine wpAnyG_pure (i := 6) (v := ?_) rfl (by kernel_rfl) (by kernel_rfl) (by kernel_rfl) (fun _ _ _ h => h) rfl ?_ ?_
      rotate_left
      · intro w'
        first | (go_simp; done) | (go_simp; with_reducible rfl)
      refine wpAnyG_take (i := 7) (v := ?_) rfl (by kernel_rfl) (by kernel_rfl) (by kernel_rfl) (by kernel_rfl) (fun _ _ _ h => h) hS rfl ?_ ?_
      rotate_left
      · intro w' hSw
        (try dsimp only at hSw)
        first | (go_simp; done) | (go_simp; with_reducible rfl)
      refine wpAnyG_pure (i := 8) (v := ?_) rfl (by kernel_rfl) (by kernel_rfl) (by kernel_rfl) (fun _ _ _ h => h) rfl ?_ ?_
      rotate_left
      · intro w'
        first | (go_simp; done) | (go_simp; with_reducible rfl)
      refine wpAnyG_pure (i := 9) (v := ?_) rfl (by kernel_rfl) (by kernel_rfl) (by kernel_rfl) (fun _ _ _ h => h) rfl ?_ ?_
      rotate_left
      · intro w'
        first | (go_simp; done) | (go_simp; with_reducible rfl)
      refine wpAnyG_pure (i := 10) (v := ?_) rfl (by kernel_rfl) (by kernel_rfl) (by kernel_rfl) (fun _ _ _ h => h) rfl ?_ ?_
      rotate_left
      · intro w'
        first | (go_simp; done) | (go_simp; with_reducible rfl)
      refine wpAnyG_pure (i := 11) (v := ?_) rfl (by kernel_rfl) (by kernel_rfl) (by kernel_rfl) (fun _ _ _ h => h) rfl ?_ ?_
      rotate_left
      · intro w'
        first | (go_simp; done) | (go_simp; with_reducible rfl)
      refine wpAnyG_take (i := 12) (v := ?_) rfl (by kernel_rfl) (by kernel_rfl) (by kernel_rfl) (by kernel_rfl) (fun _ _ _ h => h) hS rfl ?_ ?_
      rotate_left
      · intro w' hSw
        (try dsimp only at hSw)
        first | (go_simp; done) | (go_simp; with_reducible rfl)
      refine wpAnyG_pure (i := 13) (v := ?_) rfl (by kernel_rfl) (by kernel_rfl) (by kernel_rfl) (fun _ _ _ h => h) rfl ?_ ?_
      rotate_left
      · intro w'
        first | (go_simp; done) | (go_simp; with_reducible rfl)
      refine wpAnyG_pure (i := 14) (v := ?_) rfl (by kernel_rfl) (by kernel_rfl) (by kernel_rfl) (fun _ _ _ h => h) rfl ?_ ?_
      rotate_left
      · intro w'
        first | (go_simp; done) | (go_simp; with_reducible rfl)
      refine wpAnyG_take (i := 15) (v := ?_) rfl (by kernel_rfl) (by kernel_rfl) (by kernel_rfl) (by kernel_rfl) (fun _ _ _ h => h) hS rfl ?_ ?_
      rotate_left
      · intro w' hSw
        (try dsimp only at hSw)
        first | (go_simp; done) | (go_simp; with_reducible rfl)
      refine wpAnyG_two (i := 16) (j := 17) (by kernel_rfl) rfl rfl rfl rfl (fun K hK => ?_) (fun K hK => ?_)
      · go_simp
        refine hK.out _ _ (fun _ _ => HS1.out _ ((Below.refl _ w).drew.alloc (Nat.le_refl _) _)) ?_
        clear hK K hS
        refine wpAnyG_one (i := 17) (by kernel_rfl) rfl rfl (fun K hK => ?_)
        go_simp
        refine hK.out _ _ (fun _ _ => HS1.out _ (((Below.refl _ w).drew.alloc (Nat.le_refl _) _).alloc (by simp) _)) ?_
        clear hK K
        refine wpAnyG_one (i := 18) (by kernel_rfl) rfl rfl (fun K hK => ?_)
        go_simp
        refine hK.out _ _ (fun _ _ => HS1.out _ (((Below.refl _ w).drew.alloc (Nat.le_refl _) _).alloc (by simp) _)) ?_
        clear hK K
        refine wpAnyG_one (i := 19) (by kernel_rfl) rfl rfl (fun K hK => ?_)
        go_simp
        refine hK.out _ _ (fun _ _ => HS1.out _ (((Below.refl _ w).drew.alloc (Nat.le_refl _) _).alloc (by simp) _)) ?_
        clear hK K
        refine wpAnyG_done (by kernel_rfl) ?_ _
        go_wp2_with fail
        go_meet
        case rel => exact ⟨w.heap.size, w.heap.size + 1, rfl, rfl, (two_new w _ _ _).1, (two_new w _ _ _).2.1, (two_new w _ _ _).2.2⟩
      · go_simp
        refine hK.out _ _ (fun _ _ => HS1.out _ ((Below.refl _ w).drew.alloc (Nat.le_refl _) _)) ?_
        clear hK K hS
        refine wpAnyG_one (i := 16) (by kernel_rfl) rfl rfl (fun K hK => ?_)
        go_simp
        refine hK.out _ _ (fun _ _ => HS1.out _ (((Below.refl _ w).drew.alloc (Nat.le_refl _) _).alloc (by simp) _)) ?_
        clear hK K
        refine wpAnyG_one (i := 18) (by kernel_rfl) rfl rfl (fun K hK => ?_)
        go_simp
        refine hK.out _ _ (fun _ _ => HS1.out _ (((Below.refl _ w).drew.alloc (Nat.le_refl _) _).alloc (by simp) _)) ?_
        clear hK K
        refine wpAnyG_one (i := 19) (by kernel_rfl) rfl rfl (fun K hK => ?_)
        go_simp
        refine hK.out _ _ (fun _ _ => HS1.out _ (((Below.refl _ w).drew.alloc (Nat.le_refl _) _).alloc (by simp) _)) ?_
        clear hK K
        refine wpAnyG_done (by kernel_rfl) ?_ _
        go_wp2_with fail
        go_meet
        case rel => exact ⟨w.heap.size + 1, w.heap.size, rfl, rfl, (two_new w _ _ _).1, (two_new w _ _ _).2.2, (two_new w _ _ _).2.1⟩
    case rest =>
      obtain ⟨O1, O2, rfl, rfl, hbw, ho1, ho2⟩ := hcut
      have HBW := Lib.hid hbw
      have HO1 := Lib.hid ho1
      have HO2 := Lib.hid ho2
      have HKN := Lib.hid (HKN0.out wc)
      have HE2 := Lib.hid (fun W (hW : Below wc.heap.size wc W) => HE.out W (hbw.trans (hW.mono hbw.size)))
      have a0 := cell_blk (i := 0) ho1 rfl
      have a1 := cell_blk (i := 1) ho1 rfl
      have a2 := cell_blk (i := 2) ho1 rfl
      have a3 := cell_blk (i := 3) ho1 rfl
      have a4 := cell_blk (i := 4) ho1 rfl
      have a5 := cell_blk (i := 5) ho1 rfl
      have g0 := cell_blk (i := 0) ho2 rfl
      have g1 := cell_blk (i := 1) ho2 rfl
      have g2 := cell_blk (i := 2) ho2 rfl
      have g3 := cell_blk (i := 3) ho2 rfl
      have g4 := cell_blk (i := 4) ho2 rfl
      have g5 := cell_blk (i := 5) ho2 rfl
      clear hbw ho1 ho2 HS1 HE HKN0
      cases hkin : kinB x y with
      | true =>
        rw [hkin] at HKN
        have HKI := Lib.hid (kin_iff.1 hkin)
        clear hkin
        by_cases e3 : x.text = y.text
        · have kt := beq_str e3
          have HE3 := Lib.hid e3
          clear e3
          obtain hnk | hnk : nk = nk2 ∨ nk ≠ nk2 := by omega
          · subst hnk
            have aa : ((nk : Int) != (nk : Int)) = false := by simp
            by_cases e4 : x.attrs = y.attrs
            · have HE2 := Lib.hid (fun W hW => (HE2.out W hW).mono (R' := fun e' w' => e' = .returned (.bool true) ∧ Below W.heap.size W w') fun e' w' ⟨⟨r, h1, h2⟩, h3⟩ => ⟨by rw [h1, h2.2 e4], h3⟩)
              have HE4 := Lib.hid e4
              clear e4
              go_upto_region 4 with (first | (go_at_call 53; refine HKN.out.mono ?_; rintro e' wk ⟨rfl, hbk⟩; have ak2 := cell_be a2 hbk; have ak3 := cell_be a3 hbk; have ak5 := cell_be a5 hbk; have gk2 := cell_be g2 hbk; have gk3 := cell_be g3 hbk; have gk5 := cell_be g5 hbk) | (go_at_call 35; refine (HE2.out _ hbk).mono ?_; rintro e' w3 ⟨rfl, hb3⟩; have f5 := cell_be ak5 hb3; have h5 := cell_be gk5 hb3))
              clear a0 a1 a2 a3 a4 a5 g0 g1 g2 g3 g4 g5 HE2 ak2 ak3 ak5 gk2 gk3 gk5
              have HB3 := Lib.hid (hbk.trans (hb3.mono hbk.size))
              have HB03 := Lib.hid (HBW.out.trans (HB3.out.mono HBW.out.size))
              clear hbk hb3
              go_upto_region 5 with fail
              clear f5 h5
              go_loopw [57] (fun s wr => ∃ i : Nat, i ≤ nk ∧ s = .int .i64 (i : Int) ∧ Hid (Below w3.heap.size w3 wr) ∧ Hid (KidsTo l1 l2 f x y i)) (fun s _ => nk - (intOf s).toNat)
              case atStart => exact ⟨0, Nat.zero_le _, rfl, Lib.hid (Below.refl _ _), fun j p q h => absurd h (Nat.not_lt_zero _)⟩
              case round =>
                obtain ⟨i, hi, rfl, HR, HLK⟩ := hrel
                have HBR := Lib.hid (HB03.out.trans (HR.out.mono HB03.out.size))
                by_cases hlt : i < nk
                · obtain ⟨zp, hzp⟩ : ∃ zp, x.kids[i]? = some zp := get_some (by have := HNK.out; omega)
                  obtain ⟨zq, hzq⟩ : ∃ zq, y.kids[i]? = some zq := get_some (by have := HNK2.out; omega)
                  obtain ⟨p, rfl, hpl, hpu⟩ := HKD1.out zp (List.mem_of_getElem? hzp)
                  obtain ⟨p2, rfl, hql⟩ := HKD2.out zq (List.mem_of_getElem? hzq)
                  obtain ⟨g1, r1, eg1, _, u1, _⟩ := (HKI1.out.below HBR.out HBZ.out).int hzp
                  obtain ⟨g2, r2, eg2, _, u2, _⟩ := (HKI2.out.below HBR.out HBZ.out).int hzq
                  subst eg1 eg2
                  have hbc : Below wc.heap.size wc wr := HB3.out.trans (HR.out.mono HB3.out.size)
                  have ho1 := (hbc.block _ (Array.getElem?_eq_some_iff.1 HO1.out).1).trans HO1.out
                  have ho2 := (hbc.block _ (Array.getElem?_eq_some_iff.1 HO2.out).1).trans HO2.out
                  have HC := Lib.hid (fun W (hW : Below wr.heap.size wr W) => IH.out p p2 W B hpl hql hpu (HD1.out.below (HBR.out.trans (hW.mono HBR.out.size)) HBZ.out) (HD2.out.below (HBR.out.trans (hW.mono HBR.out.size)) HBZ.out) (Nat.le_trans HBZ.out (Nat.le_trans HBR.out.size hW.size)) hs1 hs2 (((HBR.out.trans (hW.mono HBR.out.size)).block E (Array.getElem?_eq_some_iff.1 HXE.out).1).trans HXE.out))
                  have HZP := Lib.hid hzp
                  have HZQ := Lib.hid hzq
                  have k4 := cell_blk (i := 5) ho1 rfl
                  have k5 := cell_blk (i := 5) ho2 rfl
                  have HS7 : Hid (∀ W, Below wr.heap.size wr W → (fun w' : World => w'.cell? ⟨O1, 5, none⟩ = some (.slice (some ⟨g1, r1, none⟩) nk ck) ∧ w'.cell? ⟨O2, 5, none⟩ = some (.slice (some ⟨g2, r2, none⟩) nk ck2) ∧ w'.cell? ⟨g1, r1 + i, none⟩ = some (.int .i64 (p : Int)) ∧ w'.cell? ⟨g2, r2 + i, none⟩ = some (.int .i64 (p2 : Int))) W) := fun W h => ⟨cell_be k4 h, cell_be k5 h, cell_be u1 h, cell_be u2 h⟩
                  have j1 : (0 : Int) ≤ (i : Int) := by omega
                  have j2 : (i : Int) < (nk : Int) := by omega
                  clear hzp hzq hbc ho1 ho2 k4 k5 u1 u2 hpl hpu hql
                  go_upto_region 7 with fail
                  refine wp_region_G (S := (fun w' : World => w'.cell? ⟨O1, 5, none⟩ = some (.slice (some ⟨g1, r1, none⟩) nk ck) ∧ w'.cell? ⟨O2, 5, none⟩ = some (.slice (some ⟨g2, r2, none⟩) nk ck2) ∧ w'.cell? ⟨g1, r1 + i, none⟩ = some (.int .i64 (p : Int)) ∧ w'.cell? ⟨g2, r2 + i, none⟩ = some (.int .i64 (p2 : Int)))) (T := []) (by kernel_rfl) ?_
                  have hS : (fun w' : World => w'.cell? ⟨O1, 5, none⟩ = some (.slice (some ⟨g1, r1, none⟩) nk ck) ∧ w'.cell? ⟨O2, 5, none⟩ = some (.slice (some ⟨g2, r2, none⟩) nk ck2) ∧ w'.cell? ⟨g1, r1 + i, none⟩ = some (.int .i64 (p : Int)) ∧ w'.cell? ⟨g2, r2 + i, none⟩ = some (.int .i64 (p2 : Int))) wr.drew := HS7.out _ (Below.refl _ wr).drew
                  refine wpAnyG_pure (i := 0) (v := ?_) rfl (by kernel_rfl) (by kernel_rfl) (by kernel_rfl) (fun _ _ _ h => h) rfl ?_ ?_
                  rotate_left
                  · intro w'
                    first | (go_simp; done) | (go_simp; with_reducible rfl)
                  refine wpAnyG_pure (i := 1) (v := ?_) rfl (by kernel_rfl) (by kernel_rfl) (by kernel_rfl) (fun _ _ _ h => h) rfl ?_ ?_
                  rotate_left
                  · intro w'
                    first | (go_simp; done) | (go_simp; with_reducible rfl)
                  refine wpAnyG_take (i := 2) (v := ?_) rfl (by kernel_rfl) (by kernel_rfl) (by kernel_rfl) (by kernel_rfl) (fun _ _ _ h => h) hS rfl ?_ ?_
                  rotate_left
                  · intro w' hSw
                    (try dsimp only at hSw)
                    first | (go_simp; done) | (go_simp; with_reducible rfl)
                  refine wpAnyG_pure (i := 3) (v := ?_) rfl (by kernel_rfl) (by kernel_rfl) (by kernel_rfl) (fun _ _ _ h => h) rfl ?_ ?_
                  rotate_left
                  · intro w'
                    first | (go_simp; done) | (go_simp; with_reducible rfl)
                  refine wpAnyG_pure (i := 4) (v := ?_) rfl (by kernel_rfl) (by kernel_rfl) (by kernel_rfl) (fun _ _ _ h => h) rfl ?_ ?_
                  rotate_left
                  · intro w'
                    first | (go_simp; done) | (go_simp; with_reducible rfl)
                  refine wpAnyG_take (i := 5) (v := ?_) rfl (by kernel_rfl) (by kernel_rfl) (by kernel_rfl) (by kernel_rfl) (fun _ _ _ h => h) hS rfl ?_ ?_
                  rotate_left
                  · intro w' hSw
                    (try dsimp only at hSw)
                    first | (go_simp; done) | (go_simp; with_reducible rfl)
                  refine wpAnyG_pure (i := 6) (v := ?_) rfl (by kernel_rfl) (by kernel_rfl) (by kernel_rfl) (fun _ _ _ h => h) rfl ?_ ?_
                  rotate_left
                  · intro w'
                    first | (go_simp; done) | (go_simp; with_reducible rfl)
                  refine wpAnyG_take (i := 7) (v := ?_) rfl (by kernel_rfl) (by kernel_rfl) (by kernel_rfl) (by kernel_rfl) (fun _ _ _ h => h) hS rfl ?_ ?_
                  rotate_left
                  · intro w' hSw
                    (try dsimp only at hSw)
                    first | (go_simp; done) | (go_simp; with_reducible rfl)
                  refine wpAnyG_pure (i := 8) (v := ?_) rfl (by kernel_rfl) (by kernel_rfl) (by kernel_rfl) (fun _ _ _ h => h) rfl ?_ ?_
                  rotate_left
                  · intro w'
                    first | (go_simp; done) | (go_simp; with_reducible rfl)
                  refine wpAnyG_pure (i := 9) (v := ?_) rfl (by kernel_rfl) (by kernel_rfl) (by kernel_rfl) (fun _ _ _ h => h) rfl ?_ ?_
                  rotate_left
                  · intro w'
                    first | (go_simp; done) | (go_simp; with_reducible rfl)
                  refine wpAnyG_take (i := 10) (v := ?_) rfl (by kernel_rfl) (by kernel_rfl) (by kernel_rfl) (by kernel_rfl) (fun _ _ _ h => h) hS rfl ?_ ?_
                  rotate_left
                  · intro w' hSw
                    (try dsimp only at hSw)
                    first | (go_simp; done) | (go_simp; with_reducible rfl)
                  refine wpAnyG_one (i := 11) (by kernel_rfl) rfl rfl (fun K hK => ?_)
                  go_simp
                  go_at_call 54
                  refine (HC.out wr.drew (Below.refl _ wr).drew).mono ?_
                  rintro e' w6 ⟨⟨b, rfl, hbl⟩, hb6⟩
                  have hbr6 : Below wr.heap.size wr w6 := (Below.refl _ wr).drew.trans hb6
                  refine hK.out _ _ (fun _ _ => HS7.out _ hbr6) ?_
                  clear hK K hS
                  have HB6 := Lib.hid (HR.out.trans (hbr6.mono HR.out.size))
                  have HBL := Lib.hid hbl
                  clear hbr6 hb6 HS7 HC hbl
                  cases b with
                  | true =>
                    refine wpAnyG_pure (i := 12) (v := ?_) rfl (by kernel_rfl) (by kernel_rfl) (by kernel_rfl) (fun _ _ _ h => h) rfl ?_ ?_
                    rotate_left
                    · intro w'
                      first | (go_simp; done) | (go_simp; with_reducible rfl)
                    refine wpAnyG_done (by kernel_rfl) ?_ _
                    have HLK2 := Lib.hid (like_more HLK.out HZP.out HZQ.out (HBL.out.1 rfl))
                    go_wp2_with fail
                    go_roundw
                    case rel => exact ⟨i + 1, by omega, by go_num, HB6, HLK2⟩
                    case measure => simp [intOf]; omega
                  | false =>
                    refine wpAnyG_pure (i := 12) (v := ?_) rfl (by kernel_rfl) (by kernel_rfl) (by kernel_rfl) (fun _ _ _ h => h) rfl ?_ ?_
                    rotate_left
                    · intro w'
                      first | (go_simp; done) | (go_simp; with_reducible rfl)
                    refine wpAnyG_done (by kernel_rfl) ?_ _
                    have HBF := Lib.hid (HB03.out.trans (HB6.out.mono HB03.out.size))
                    go_wp2_with fail
                    go_ret
                    exact ⟨⟨false, rfl, no_like fun h => by cases HBL.out.2 (like_kid h HX.out HY.out HZP.out HZQ.out)⟩, HBF.out⟩
                · have HLL := Lib.hid (show Like l1 l2 (f + 1) n m from ⟨x, y, HX.out, HY.out, HKI.out.1.symm, HKI.out.2.symm, HE3.out.symm, HE4.out.symm, by rw [← HNK.out, ← HNK2.out], fun j z u hz hu => HLK.out j z u (by have := (List.getElem?_eq_some_iff.1 hz).1; have := HNK.out; omega) hz hu⟩)
                  go_wp2_with fail
                  go_ret
                  exact ⟨⟨true, rfl, fun _ => HLL.out, fun _ => rfl⟩, HBR.out⟩
            · have HE2 := Lib.hid (fun W hW => (HE2.out W hW).mono (R' := fun e' w' => e' = .returned (.bool false) ∧ Below W.heap.size W w') fun e' w' ⟨⟨r, h1, h2⟩, h3⟩ => ⟨by cases r with | true => exact (e4 (h2.1 rfl)).elim | false => exact h1, h3⟩)
              have HE4 := Lib.hid e4
              clear e4
              go_wp2_with (first | (go_at_call 53; refine HKN.out.mono ?_; rintro e' wk ⟨rfl, hbk⟩; have ak2 := cell_be a2 hbk; have ak3 := cell_be a3 hbk; have ak5 := cell_be a5 hbk; have gk2 := cell_be g2 hbk; have gk3 := cell_be g3 hbk; have gk5 := cell_be g5 hbk) | (go_at_call 35; refine (HE2.out _ hbk).mono ?_; rintro e' w3 ⟨rfl, hb3⟩; have f5 := cell_be ak5 hb3; have h5 := cell_be gk5 hb3))
              go_ret
              exact ⟨⟨false, rfl, no_like fun h => HE4.out (like_said h HX.out HY.out).2.2.2.1.symm⟩, HBW.out.trans ((hbk.trans (hb3.mono hbk.size)).mono HBW.out.size)⟩
          · have aa : ((nk : Int) != (nk2 : Int)) = true := bne_iff_ne.2 (by omega)
            have HNN : Hid (¬ Like l1 l2 (f + 1) n m) := fun h => hnk (by have := (like_said h HX.out HY.out).2.2.2.2; rw [HNK.out, HNK2.out, this])
            clear hnk
            by_cases e4 : x.attrs = y.attrs
            · have HE2 := Lib.hid (fun W hW => (HE2.out W hW).mono (R' := fun e' w' => e' = .returned (.bool true) ∧ Below W.heap.size W w') fun e' w' ⟨⟨r, h1, h2⟩, h3⟩ => ⟨by rw [h1, h2.2 e4], h3⟩)
              clear e4
              go_wp2_with (first | (go_at_call 53; refine HKN.out.mono ?_; rintro e' wk ⟨rfl, hbk⟩; have ak2 := cell_be a2 hbk; have ak3 := cell_be a3 hbk; have ak5 := cell_be a5 hbk; have gk2 := cell_be g2 hbk; have gk3 := cell_be g3 hbk; have gk5 := cell_be g5 hbk) | (go_at_call 35; refine (HE2.out _ hbk).mono ?_; rintro e' w3 ⟨rfl, hb3⟩; have f5 := cell_be ak5 hb3; have h5 := cell_be gk5 hb3))
              go_ret
              exact ⟨⟨false, rfl, no_like fun h => HNN.out h⟩, HBW.out.trans ((hbk.trans (hb3.mono hbk.size)).mono HBW.out.size)⟩
            · have HE2 := Lib.hid (fun W hW => (HE2.out W hW).mono (R' := fun e' w' => e' = .returned (.bool false) ∧ Below W.heap.size W w') fun e' w' ⟨⟨r, h1, h2⟩, h3⟩ => ⟨by cases r with | true => exact (e4 (h2.1 rfl)).elim | false => exact h1, h3⟩)
              clear e4
              go_wp2_with (first | (go_at_call 53; refine HKN.out.mono ?_; rintro e' wk ⟨rfl, hbk⟩; have ak2 := cell_be a2 hbk; have ak3 := cell_be a3 hbk; have ak5 := cell_be a5 hbk; have gk2 := cell_be g2 hbk; have gk3 := cell_be g3 hbk; have gk5 := cell_be g5 hbk) | (go_at_call 35; refine (HE2.out _ hbk).mono ?_; rintro e' w3 ⟨rfl, hb3⟩; have f5 := cell_be ak5 hb3; have h5 := cell_be gk5 hb3))
              go_ret
              exact ⟨⟨false, rfl, no_like fun h => HNN.out h⟩, HBW.out.trans ((hbk.trans (hb3.mono hbk.size)).mono HBW.out.size)⟩
        · have kt := bne_str e3
          go_wp2_with (go_at_call 53; refine HKN.out.mono ?_; rintro e' wk ⟨rfl, hbk⟩; have ak2 := cell_be a2 hbk; have ak3 := cell_be a3 hbk; have ak5 := cell_be a5 hbk; have gk2 := cell_be g2 hbk; have gk3 := cell_be g3 hbk; have gk5 := cell_be g5 hbk)
          go_ret
          exact ⟨⟨false, rfl, no_like fun h => e3 (like_said h HX.out HY.out).2.2.1.symm⟩, HBW.out.trans (hbk.mono HBW.out.size)⟩
      | false =>
        rw [hkin] at HKN
        have HNK3 : Hid (¬ Like l1 l2 (f + 1) n m) := fun h => by
          have h2 := like_said h HX.out HY.out
          rw [kin_iff.2 ⟨h2.1.symm, h2.2.1.symm⟩] at hkin
          cases hkin
        clear hkin
        go_wp2_with (go_at_call 53; refine HKN.out.mono ?_; rintro e' wk ⟨rfl, hbk⟩; have ak2 := cell_be a2 hbk; have ak3 := cell_be a3 hbk; have ak5 := cell_be a5 hbk; have gk2 := cell_be g2 hbk; have gk3 := cell_be g3 hbk; have gk5 := cell_be g5 hbk)
        go_ret
        exact ⟨⟨false, rfl, no_like fun h => HNK3.out h⟩, HBW.out.trans (hbk.mono HBW.out.size)⟩

end Go.Proofs.YtomleengbnfikaaDoor
