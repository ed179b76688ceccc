/-
The walks of package walk: Before.
-/
import Derived.Test.YtmemadajjmmlpaaDoorWalkStep2
namespace Go.Proofs.YtmemadajjmmlpaaDoor
open Go.RowKit Go.Cl
attribute [local go_sem ↓] Go.wp_at_zero Go.wp_at_succ

/-- From the top down to a node. -/
def pathL (l : List Nd) (m : Int) : List Int := (chainR l m).reverse
/-- Which of two ways down goes ahead. -/
def befF (l : List Nd) : Int → List Int → List Int → Bool
  | prev, x :: ps, y :: qs => if x = y then befF l x ps qs else decide (Lib.idxOf (kidsD l prev) x < Lib.idxOf (kidsD l prev) y)
  | _, [], _ :: _ => true
  | _, _, [] => false
def beforeS (l : List Nd) (a b : Int) : Bool × Int := if checkW l [a, b] ≠ 0 then (false, checkW l [a, b]) else (befF l 0 (pathL l a) (pathL l b), 0)
/-- All nodes of a chain are nodes. -/
theorem Tree.chain_in {l : List Nd} (T : Tree l) (f : Nat) : ∀ m : Nat, m < l.length → upN l m < f → ∀ x ∈ chainR l m, ∃ k : Nat, x = (k : Int) ∧ k < l.length := by
  induction f with
  | zero => intro m hm hf; omega
  | succ f ih =>
    intro m hm hf x hx
    rw [T.chain_step hm] at hx
    rcases List.mem_cons.1 hx with rfl | hx
    · exact ⟨m, rfl, hm⟩
    · rcases T.par hm with e | ⟨p, e, hp, _⟩
      · rw [e, chain_end] at hx; cases hx
      · rw [e] at hx
        exact ih p hp (by have := (T.up_par hm e).2; omega) x hx
theorem Tree.path_in {l : List Nd} (T : Tree l) {m : Nat} (hm : m < l.length) : ∀ x ∈ pathL l m, ∃ k : Nat, x = (k : Int) ∧ k < l.length := by
  intro x hx
  exact T.chain_in (upN l m + 1) m hm (by omega) x (by unfold pathL at hx; simpa using hx)
theorem Tree.path_pos {l : List Nd} (T : Tree l) {m : Nat} (hm : m < l.length) : 0 < (pathL l m).length := by
  unfold pathL
  rw [List.length_reverse, T.chain_step hm, List.length_cons]
  omega
theorem Tree.path_top {l : List Nd} (T : Tree l) {m : Nat} (hm : m < l.length) : (pathL l m)[0]? = some (topR l m) := by
  have := T.path_pos hm
  unfold topR pathL at *
  cases h : (chainR l m).reverse with
  | nil => rw [h] at this; simp at this
  | cons a r => rfl
def prevI (ps : List Int) (i : Nat) : Int := if i = 0 then 0 else ps[i - 1]?.getD 0
theorem bef_same {l : List Nd} {ps qs : List Int} {i : Nat} {x : Int} (h : befF l 0 ps qs = befF l (prevI ps i) (ps.drop i) (qs.drop i)) (hp : ps[i]? = some x) (hq : qs[i]? = some x) : befF l 0 ps qs = befF l (prevI ps (i + 1)) (ps.drop (i + 1)) (qs.drop (i + 1)) := by
  rw [h, List.drop_eq_getElem_cons (List.getElem?_eq_some_iff.1 hp).1, (List.getElem?_eq_some_iff.1 hp).2, List.drop_eq_getElem_cons (List.getElem?_eq_some_iff.1 hq).1, (List.getElem?_eq_some_iff.1 hq).2, befF, if_pos rfl]
  unfold prevI
  rw [if_neg (by omega), Nat.add_sub_cancel, hp]
  rfl
theorem bef_part {l : List Nd} {ps qs : List Int} {i : Nat} {x y : Int} (h : befF l 0 ps qs = befF l (prevI ps i) (ps.drop i) (qs.drop i)) (hp : ps[i]? = some x) (hq : qs[i]? = some y) (hne : x ≠ y) : befF l 0 ps qs = decide (Lib.idxOf (kidsD l (prevI ps i)) x < Lib.idxOf (kidsD l (prevI ps i)) y) := by
  rw [h, List.drop_eq_getElem_cons (List.getElem?_eq_some_iff.1 hp).1, (List.getElem?_eq_some_iff.1 hp).2, List.drop_eq_getElem_cons (List.getElem?_eq_some_iff.1 hq).1, (List.getElem?_eq_some_iff.1 hq).2, befF, if_neg hne]
theorem bef_end {l : List Nd} {ps qs : List Int} {i : Nat} (h : befF l 0 ps qs = befF l (prevI ps i) (ps.drop i) (qs.drop i)) (hi : ps.length ≤ i ∨ qs.length ≤ i) (h1 : i ≤ ps.length) (h2 : i ≤ qs.length) : befF l 0 ps qs = decide (ps.length < qs.length) := by
  rw [h]
  rcases Nat.lt_or_ge i qs.length with hq | hq
  · have hp : ps.length = i := by omega
    rw [List.drop_of_length_le (by omega), List.drop_eq_getElem_cons hq, befF]
    exact (decide_eq_true (by omega)).symm
  · rw [List.drop_of_length_le (l := qs) (by omega)]
    have e : decide (ps.length < qs.length) = false := decide_eq_false (by omega)
    rw [e]
    cases ps.drop i <;> rfl

theorem ret2 {a a' : Bool} {c c' : Int} (h : (a, c) = (a', c')) : Ending.returned (.tuple #[.bool a, .int .i64 c]) = .returned (.tuple #[.bool a', .int .i64 c']) := by
  injection h with h1 h2
  rw [h1, h2]
set_option maxRecDepth 100000 in
set_option maxHeartbeats 8000000 in
theorem before_any (A : Option Addr) (n c : Nat) (l : List Nd) (q : Bool) (a b : Int) (w : World) (B : Nat) (hl : Sl tNd w (lt B) A n c l) (hB : B ≤ w.heap.size) (ha : (Lit.int .i64 a).wf = true) (hb : (Lit.int .i64 b).wf = true) :
    Calls Tryd.prog 40 #[.agg #[.slice A n c, .bool q], .int .i64 a, .int .i64 b] w fun e w' => e = .returned (.tuple #[.bool (beforeS l a b).1, .int .i64 (beforeS l a b).2]) ∧ Below w.heap.size w w' := by
  obtain ⟨w0, hw0⟩ : ∃ w0, w0 = w.alloc (.cells #[.slice A n c, .bool q] 24) := ⟨_, rfl⟩
  have hbx : w0.heap[w.heap.size]? = some (.cells #[.slice A n c, .bool q] 24 (0, 0)) := by rw [hw0]; exact heap_alloc_new w _
  have b0 : w0.cell? ⟨w.heap.size, 0, none⟩ = some (.slice A n c) := cell_blk hbx rfl
  have b1 : w0.cell? ⟨w.heap.size, 1, none⟩ = some (.bool q) := cell_blk hbx rfl
  have hb0 : Below w.heap.size w w0 := by rw [hw0]; exact (Below.refl _ _).alloc (Nat.le_refl _) _
  have hz0 : w.heap.size < w0.heap.size := by rw [hw0, World.size_alloc]; omega
  have hbA : Below w.heap.size w (w0.alloc (.cells #[.int .i64 a, .int .i64 b] 3)) := hb0.alloc (by omega) _
  have HBA := Lib.hid hbA
  have HB0 := Lib.hid hb0
  have HL := Lib.hid hl
  have HC := Lib.hid (check_walk A n c l q (some ⟨w0.heap.size, 0, none⟩) 2 2 [a, b] (w0.alloc (.cells #[.int .i64 a, .int .i64 b] 3)) B ((hl.below hb0 hB).al (Nat.le_trans hB hb0.size) _) (by rw [World.size_alloc]; omega) ((ints_two ha hb).up (by rw [World.size_alloc]; exact Nat.le_refl _)))
  clear hb0 hbx hl hbA
  go_enter Tryd.func40, Tryd.ntmps40
  go_upto_region 1 with fail
  rw [← hw0]
  clear hw0
  go_wp2_with fail
  refine HC.out.mono ?_
  rintro e w1 ⟨hb1, ⟨h1, rfl⟩ | ⟨h1, g, bb, o, rfl, rfl, hwk, hg⟩⟩
  · have HR := Lib.hid (show beforeS l a b = (false, checkW l [a, b]) from by unfold beforeS; rw [if_pos h1])
    have h1c : (checkW l [a, b] != 0) = true := by simpa using h1
    generalize checkW l [a, b] = e0 at *
    clear h1
    go_wp2_with fail
    go_ret2
    exact ⟨by rw [HR.out]; rfl, HBA.out.trans (hb1.mono HBA.out.size)⟩
  · have HR := Lib.hid (show beforeS l a b = (befF l 0 (pathL l a) (pathL l b), 0) from by unfold beforeS; rw [if_neg (by rw [h1]; simp)])
    obtain ⟨_, hin⟩ := checkW_in h1
    obtain ⟨ka, rfl, hka, hta⟩ := hin a (by simp)
    obtain ⟨kb, rfl, hkb, htb⟩ := hin b (by simp)
    have HB1 := Lib.hid (HBA.out.trans (hb1.mono HBA.out.size))
    have HWK := Lib.hid hwk
    have T := hwk.tree
    have HT := Lib.hid T
    have HTA := Lib.hid (show (pathL l ka)[0]? = some 0 from by rw [T.path_top hka, hta])
    have HTB := Lib.hid (show (pathL l kb)[0]? = some 0 from by rw [T.path_top hkb, htb])
    have HPA := Lib.hid (path_any w1 g bb o n c q l ka hwk hka)
    have hz1 := HB1.out.size
    clear h1 hb1 hg hin hta htb b0 b1
    go_wp2_with fail
    refine HPA.out.mono ?_
    rintro e w2 ⟨v1, rfl, hown1, hb2⟩
    have HPB := Lib.hid (path_any w2 g bb o n c q l kb (hwk.below hb2) hkb)
    have HB2 := Lib.hid (HB1.out.trans (hb2.mono hz1))
    have hbz2 := hb2.size
    have HBW2 := Lib.hid hb2
    have HO1 := Lib.hid hown1
    clear hb2 hown1 hwk
    go_wp2_with fail
    refine HPB.out.mono ?_
    rintro e w3 ⟨v2, rfl, hown2, hb3⟩
    have HB3 := Lib.hid (HB2.out.trans (hb3.mono HB2.out.size))
    have HBW3 := Lib.hid (HBW2.out.trans (hb3.mono hbz2))
    have hown1 := OwnF.below HO1.out hb3 (Nat.le_refl _)
    have la : (chainR l ka).length = (pathL l ka).length := by unfold pathL; rw [List.length_reverse]
    have lb : (chainR l kb).length = (pathL l kb).length := by unfold pathL; rw [List.length_reverse]
    have la41 : (pathL l ka).length ≤ 41 := by rw [← la]; exact T.chain_len hka
    have lb41 : (pathL l kb).length ≤ 41 := by rw [← lb]; exact T.chain_len hkb
    have pa0 := T.path_pos hka
    have pb0 := T.path_pos hkb
    have HINA := Lib.hid (T.path_in hka)
    rw [la] at hown1
    rw [lb] at hown2
    obtain ⟨A1, c1, rfl, hs1⟩ := OwnF.sl hown1 (by decide) (by show (pathL l ka).length * 8 ≤ _; omega)
    obtain ⟨A2, c2, rfl, hs2⟩ := OwnF.sl hown2 (by decide) (by show (pathL l kb).length * 8 ≤ _; omega)
    have hs1' : Sl (tInt .i64) w3 (lt w3.heap.size) A1 (pathL l ka).length c1 (pathL l ka) := hs1
    have hs2' : Sl (tInt .i64) w3 (lt w3.heap.size) A2 (pathL l kb).length c2 (pathL l kb) := hs2
    have HS1 := Lib.hid hs1'
    have HS2 := Lib.hid hs2'
    have hwk3 := HWK.out.below HBW3.out
    have HWK3 := Lib.hid hwk3
    clear hown1 hown2 hs1 hs2 hs1' hs2' la lb hb3 hwk3 T HO1 HPA HPB
    generalize pathL l ka = ps at *
    generalize pathL l kb = qs at *
    obtain ⟨N1, hN1⟩ : ∃ N, ps.length = N := ⟨_, rfl⟩
    obtain ⟨N2, hN2⟩ : ∃ N, qs.length = N := ⟨_, rfl⟩
    rw [hN1] at HS1 la41 pa0 ⊢
    rw [hN2] at HS2 lb41 pb0 ⊢
    have HN1 := Lib.hid hN1
    have HN2 := Lib.hid hN2
    clear hN1 hN2
    obtain ⟨N, hmin, hm1, hm2, hm3⟩ : ∃ N : Nat, min (N1 : Int) (N2 : Int) = (N : Int) ∧ N ≤ N1 ∧ N ≤ N2 ∧ (N = N1 ∨ N = N2) := ⟨min N1 N2, by omega, by omega, by omega, by omega⟩
    go_wp2_with fail
    go_loopw [36, 12] (fun s _ wr => ∃ i : Nat, i ≤ N ∧ s = .int .i64 (i : Int) ∧ (∃ k, wr = w3.drewN k) ∧ Hid (befF l 0 ps qs = befF l (prevI ps i) (ps.drop i) (qs.drop i)) ∧ Hid (∀ j, j < i → ps[j]? = qs[j]?)) (fun s _ _ => N - (intOf s).toNat)
    case atStart => exact ⟨0, Nat.zero_le _, rfl, ⟨0, rfl⟩, Lib.hid rfl, Lib.hid (fun j hj => by omega)⟩
    case round =>
      obtain ⟨i, hi, rfl, ⟨kq, rfl⟩, HBF, HSM⟩ := hrel
      by_cases hlt : i < N
      · obtain ⟨x, hx⟩ : ∃ x, ps[i]? = some x := get_some (by have := HN1.out; omega)
        obtain ⟨y, hy⟩ : ∃ y, qs[i]? = some y := get_some (by have := HN2.out; omega)
        obtain ⟨gp, op, rfl, _, cx, _⟩ := HS1.out.int hx
        obtain ⟨gq, oq, rfl, _, cy, _⟩ := HS2.out.int hy
        have dx : (w3.drewN kq).cell? ⟨gp, op + i, none⟩ = some (.int .i64 x) := cx
        have dy : (w3.drewN kq).cell? ⟨gq, oq + i, none⟩ = some (.int .i64 y) := cy
        have i1 : (0 : Int) ≤ (i : Int) := by omega
        have i2 : (i : Int) < (N1 : Int) := by omega
        have i3 : (i : Int) < (N2 : Int) := by omega
        have HX := Lib.hid hx
        have HY := Lib.hid hy
        clear hx hy
        by_cases hxy : x = y
        · subst hxy
          have hne : (x != x) = false := by simp
          have HBF2 := Lib.hid (bef_same HBF.out HX.out HY.out)
          have HSM2 : Hid (∀ j, j < i + 1 → ps[j]? = qs[j]?) := fun j hj => by
            by_cases e : j = i
            · subst e; rw [HX.out, HY.out]
            · exact HSM.out j (by omega)
          go_wp2_with fail
          go_quiet (fail)
          go_wp2_with fail
          go_roundw
          case rel => exact ⟨i + 1, by omega, by go_num, ⟨_, rfl⟩, HBF2, HSM2⟩
          case measure => simp [intOf]; omega
        · have hne : (x != y) = true := by simpa using hxy
          have hi0 : 0 < i := by
            rcases Nat.eq_zero_or_pos i with e | e
            · subst e
              have h1 := HX.out
              have h2 := HY.out
              rw [HTA.out] at h1
              rw [HTB.out] at h2
              exact absurd (Option.some.inj (h1.symm.trans h2)) hxy
            · exact e
          have HBP := Lib.hid (bef_part HBF.out HX.out HY.out hxy)
          obtain ⟨z, hz⟩ : ∃ z, ps[i - 1]? = some z := get_some (by have := HN1.out; omega)
          obtain ⟨k, rfl, hk⟩ := HINA.out z (List.mem_of_getElem? hz)
          have hpv : prevI ps i = (k : Int) := by unfold prevI; rw [if_neg (by omega), hz]; rfl
          rw [hpv] at HBP
          obtain ⟨gp', op', ep, _, cz, _⟩ := HS1.out.int hz
          obtain ⟨rfl, rfl⟩ : gp = gp' ∧ op = op' := by simpa using ep
          have dz : (w3.drewN kq).cell? ⟨gp, op + (i - 1), none⟩ = some (.int .i64 (k : Int)) := cz
          obtain ⟨Ak, nk, ck, _, c5, hks⟩ := HWK3.out.node hk
          have d5 : (w3.drewN kq).cell? ⟨bb, o + k * 6 + 5, none⟩ = some (.slice Ak nk ck) := c5
          have dg : (w3.drewN kq).cell? ⟨g, 0, none⟩ = some (.slice (some ⟨bb, o, none⟩) n c) := cell_blk (i := 0) HWK3.out.box rfl
          have w1 : IntKind.i64.wrap ((i : Int) - 1) = (i : Int) - 1 := IntWalk.i64_in _ (by omega)
          have n1 : ((i : Int) - 1).toNat = i - 1 := by omega
          have j1 : (0 : Int) ≤ (i : Int) - 1 := by omega
          have j2 : (i : Int) - 1 < (N1 : Int) := by omega
          have k1 : (0 : Int) ≤ (k : Int) := by omega
          have k2 : (k : Int) < (n : Int) := by have := HWK3.out.doc.hn; omega
          have HIX : Hid (∀ r u, Calls Tryd.prog 65 #[.slice Ak nk ck, .int .i64 u] (w3.drewN r) fun e w' => e = .returned (.int .i64 (Lib.idxOf (kidsD l k) u)) ∧ w' = w3.drewN r) := fun r u => index_int Ak nk ck (kidsD l k) u (w3.drewN r) (lt w3.heap.size) (hks.keep fun _ _ => rfl)
          have dg3 : w3.cell? ⟨g, 0, none⟩ = some (.slice (some ⟨bb, o, none⟩) n c) := cell_blk (i := 0) HWK3.out.box rfl
          clear hz hpv ep hxy
          generalize kidsD l k = ks at *
          go_wp2_with fail
          go_quiet (fail)
          go_wp2_with fail
          go_quiet (fail)
          go_wp2_with fail
          go_quiet ((go_at_call 65; exact (HIX.out _ _).mono fun _ _ h => ⟨h.1, _, h.2⟩))
          go_wp2_with fail
          go_ret2
          exact ⟨by rw [HR.out, HBP.out]; rfl, below_dN (below_dN (below_dN (below_dN HB3.out _) _) _) _⟩
      · have HBE := Lib.hid (bef_end HBF.out (by have := HN1.out; have := HN2.out; omega) (by have := HN1.out; omega) (by have := HN2.out; omega))
        go_wp2_with fail
        go_ret2
        exact ⟨by rw [HR.out, HBE.out, HN1.out, HN2.out]; simp, below_dN HB3.out _⟩
end Go.Proofs.YtmemadajjmmlpaaDoor
