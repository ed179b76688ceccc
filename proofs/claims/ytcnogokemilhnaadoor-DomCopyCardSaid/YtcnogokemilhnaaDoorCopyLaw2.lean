/-
What DomCopy says: the plain law. No program in sight.
-/
import Derived.Test.YtcnogokemilhnaaDoorCopyLaw
import Derived.Test.YtcnogokemilhnaaDoorTextOf
import Derived.Test.YtcnogokemilhnaaDoorBothLaw
import Derived.Test.YtcnogokemilhnaaDoorEdWalksB
namespace Go.Proofs.YtcnogokemilhnaaDoor
open Go.RowKit Go.Cl
set_option linter.unusedVariables false

theorem Tree.preF_full {l : List Nd} (T : Tree l) (f : Nat) : ∀ m : Nat, m < l.length → 41 ≤ upN l m + f → preF l f m = preR l m := by
  induction f with
  | zero => intro m hm h; have := (T.deep m hm).1; omega
  | succ f ih =>
    intro m hm h
    rw [preF, T.pre_step hm]
    congr 1
    refine fm_congr fun z hz => ?_
    obtain ⟨c, rfl, hc, hp⟩ := T.kid hm hz
    have := (T.up_par hc hp).2
    exact ih c hc (by omega)
section
variable {l : List Nd} (G : Good l) {n : Nat} (hn : n < l.length) (h0 : n ≠ 0) {c : List Nd} (C : Cp l n c) (Gc : Good c)
include G hn C
theorem cp_kids {k : Nat} (hk : (k : Int) ∈ preR l n) : kidsD c (cpN l n k : Nat) = (kidsD l k).map fun z => ((cpN l n z : Nat) : Int) := by
  obtain ⟨q, e, hq⟩ := (tree_of (check_of G)).pre_in hn hk
  have : k = q := by omega
  subst this
  obtain ⟨x, hx⟩ := get_some hq
  rw [kidsD_at (C.new k x hk hx), kidsD_at hx]
theorem copy_pre (f : Nat) : ∀ k : Nat, (k : Int) ∈ preR l n → k < l.length → preF c f (cpN l n k : Nat) = (preF l f k).map fun z => ((cpN l n z : Nat) : Int) := by
  have T := tree_of (check_of G)
  induction f with
  | zero => intro k _ _; rfl
  | succ f ih =>
    intro k hk hkl
    rw [preF, preF, cp_kids G hn C hk, List.map_cons, List.flatMap_map, List.map_flatMap]
    congr 1
    refine fm_congr fun z hz => ?_
    obtain ⟨q, rfl, hq, _⟩ := T.kid hkl hz
    exact ih q (T.kid_in hn hk hz) hq
include Gc
omit Gc in
theorem copy_top : upN c (l.length : Nat) = 0 := by
  have T := tree_of (check_of G)
  obtain ⟨x, hx⟩ := get_some hn
  have h := C.new n x (T.self_in hn) hx
  rw [T.cpN_self hn] at h
  unfold upN
  exact upF_stop h (by show (if n = n then (-1 : Int) else _) < 0; rw [if_pos rfl]; decide)
omit Gc in
theorem copy_order : preR c (l.length : Nat) = (preR l n).map fun z => ((cpN l n z : Nat) : Int) := by
  have T := tree_of (check_of G)
  have h1 : preR c (l.length : Nat) = preF c 41 (l.length : Nat) := by
    unfold preR
    rw [copy_top G hn C]
  have h2 := copy_pre G hn C 41 n (T.self_in hn) hn
  rw [T.cpN_self hn] at h2
  rw [h1, h2, T.preF_full 41 n hn (by omega)]
theorem copy_text : txtOf c (l.length : Nat) = txtOf l n := by
  have T := tree_of (check_of G)
  have Tc := tree_of (check_of Gc)
  obtain ⟨x, hx⟩ := get_some hn
  have hnew := C.new n x (T.self_in hn) hx
  rw [T.cpN_self hn] at hnew
  have hlt := (List.getElem?_eq_some_iff.1 hnew).1
  have a1 : askS c (l.length : Nat) = 0 := by
    unfold askS
    rw [if_neg (by rw [check_of Gc]; simp), if_neg (by omega)]
  have a2 : askS l n = 0 := by
    unfold askS
    rw [if_neg (by rw [check_of G]; simp), if_neg (by omega)]
  have k1 : kindD c (l.length : Nat) = x.kind := by rw [kindD_at hnew]
  have k2 : kindD l n = x.kind := kindD_at hx
  have t1 : textD c (l.length : Nat) = x.text := by rw [textD_at hnew]
  have t2 : textD l n = x.text := textD_at hx
  have hj : joinB (wholeK c) (preR c (l.length : Nat)) = joinB (wholeK l) (preR l n) := by
    apply join_ext
    rw [copy_order G hn C, List.flatMap_map, List.flatMap_def, List.flatMap_def]
    congr 1
    refine List.map_congr_left fun z hz => ?_
    obtain ⟨q, rfl, hq⟩ := T.pre_in hn hz
    obtain ⟨y, hy⟩ := get_some hq
    have h3 := C.new q y hz hy
    have e1 : kindD c (cpN l n q : Nat) = y.kind := by rw [kindD_at h3]
    have e2 : kindD l q = y.kind := kindD_at hy
    have e3 : textD c (cpN l n q : Nat) = y.text := by rw [textD_at h3]
    have e4 : textD l q = y.text := textD_at hy
    unfold wholeK
    rw [e1, e2, e3, e4]
  have u1 : txtOf c (l.length : Nat) = if kindD c (l.length : Nat) = 4 then (textD c (l.length : Nat), 0) else (joinB (wholeK c) (preR c (l.length : Nat)), 0) := if_neg (by rw [a1]; simp)
  have u2 : txtOf l n = if kindD l n = 4 then (textD l n, 0) else (joinB (wholeK l) (preR l n), 0) := if_neg (by rw [a2]; simp)
  rw [u1, u2, k1, k2, t1, t2, hj]
omit Gc hn in
theorem like_old (f : Nat) : ∀ j : Nat, j < l.length → upN l j + f = 41 → Like c l f j j := by
  have T := tree_of (check_of G)
  induction f with
  | zero => intro j hj h; have := (T.deep j hj).1; omega
  | succ f ih =>
    intro j hj hf
    obtain ⟨x, hx⟩ := get_some hj
    refine ⟨x, x, (C.old j hj).trans hx, hx, rfl, rfl, rfl, rfl, rfl, fun i p q hp hq => ?_⟩
    have hpq : p = q := by rw [hp] at hq; exact Option.some.inj hq
    subst hpq
    obtain ⟨m, rfl, hm, hpar⟩ := T.kid hj (by rw [kidsD_at hx]; exact List.mem_of_getElem? hp)
    have := (T.up_par hm hpar).2
    exact ⟨m, m, rfl, rfl, ih m hm (by omega)⟩
omit Gc hn in
theorem copy_up_old {j d : Nat} (hj : j < l.length) (hu : Up l j d) : Up c j d := by
  have T := tree_of (check_of G)
  have key : ∀ (z : Int) (d : Nat), Up l z d → (∃ m : Nat, z = (m : Int) ∧ m < l.length) → Up c z d := by
    intro z d hu
    have hpar0 : ∀ j, j < l.length → parD c j = parD l j := fun j hj => by
      obtain ⟨x, hx⟩ := get_some hj
      rw [parD_at hx, parD_at ((C.old j hj).trans hx)]
    induction hu with
    | @top z h => rintro ⟨m, rfl, hm⟩; exact Up.top (by rw [hpar0 m hm]; exact h)
    | @step z d h _ ih =>
      rintro ⟨m, rfl, hm⟩
      refine Up.step (by rw [hpar0 m hm]; exact h) ?_
      rw [hpar0 m hm]
      apply ih
      rcases T.par hm with e | ⟨p, e, hp, _⟩
      · omega
      · exact ⟨p, e, hp⟩
  exact key j d hu ⟨j, rfl, hj⟩
theorem copy_deep (f : Nat) : ∀ k : Nat, (k : Int) ∈ preR l n → k < l.length → upN l k + f = 41 → deepR c (cpN l n k : Nat) + upN l k ≤ 40 := by
  have T := tree_of (check_of G)
  have Tc := tree_of (check_of Gc)
  induction f with
  | zero => intro k _ hk h; have := (T.deep k hk).1; omega
  | succ f ih =>
    intro k hk hkl hf
    have hlt : cpN l n k < c.length := by rw [C.len]; exact (T.cpN_ge hn hk).2
    have hd := (T.deep k hkl).1
    rw [Tc.deep_step hlt, cp_kids G hn C hk]
    have : (((kidsD l k).map fun z => ((cpN l n z : Nat) : Int)).map fun k => deepR c k + 1).foldl max 0 ≤ 40 - upN l k := by
      refine foldl_max_le _ _ _ (Nat.zero_le _) fun y hy => ?_
      rw [List.map_map] at hy
      obtain ⟨z, hz, rfl⟩ := List.mem_map.1 hy
      obtain ⟨q, rfl, hq, hp⟩ := T.kid hkl hz
      have h1 := (T.up_par hq hp).2
      have h2 := ih q (T.kid_in hn hk hz) hq (by omega)
      show deepR c (cpN l n q : Nat) + 1 ≤ _
      omega
    omega
end
/-- The edits of DomCopy. -/
def cpIns (p k n : Int) : Edt := ⟨5, p, k, n, ⟨#[]⟩, ⟨#[]⟩, ⟨0, ⟨#[]⟩, [], ⟨#[]⟩, 0, []⟩⟩
def cpRem (n : Int) : Edt := ⟨6, n, 0, 0, ⟨#[]⟩, ⟨#[]⟩, ⟨0, ⟨#[]⟩, [], ⟨#[]⟩, 0, []⟩⟩
/-- Put in the other's place. -/
theorem copy_put {l : List Nd} (G : Good l) {n : Nat} (hn : n < l.length) (h0 : n ≠ 0) {c : List Nd} (C : Cp l n c) (Gc : Good c) {p : Nat} (hp : parD l n = (p : Int)) :
    ∃ l2, alR c [cpIns p l.length n, cpRem n] = (l2, 0, 0) ∧ Good l2 ∧ Like l2 l 41 0 0 := by
  have T := tree_of (check_of G)
  have Tc := tree_of (check_of Gc)
  obtain ⟨xn, hxn⟩ := get_some hn
  have hpl := (T.up_par hn hp).1
  obtain ⟨x, hx⟩ := get_some hpl
  have hmem : (n : Int) ∈ x.kids := by
    rcases T.par hn with h1 | ⟨p', h1, _, h2⟩
    · omega
    · have : p = p' := by omega
      subst this
      rw [kidsD_at hx] at h2
      exact h2
  obtain ⟨i, hi, hi2, _⟩ := idx_of_mem hmem
  have hnew := C.new n xn (T.self_in hn) hxn
  rw [T.cpN_self hn] at hnew
  obtain ⟨y, hy⟩ : ∃ y, c[l.length]? = some y := ⟨_, hnew⟩
  have ey : y = { xn with parent := if n = n then -1 else (cpN l n xn.parent : Nat), kids := xn.kids.map fun z => ((cpN l n z : Nat) : Int) } := Option.some.inj (hy.symm.trans hnew)
  have yk : y.kind = xn.kind := by rw [ey]
  have yp : y.parent = -1 := by rw [ey]; show (if n = n then (-1 : Int) else _) = -1; rw [if_pos rfl]
  have ykd : y.kids = xn.kids.map fun z => ((cpN l n z : Nat) : Int) := by rw [ey]
  have hxc : c[p]? = some x := (C.old p hpl).trans hx
  have hkn1 : xn.kind ≠ 1 := fun h => h0 ((G.root n xn hxn).1 h)
  have hpb : parentB x.kind = true := by
    have hb := ((nodeE_iff x).1 (G.each x (List.mem_of_getElem? hx))).1.2.2
    unfold bareB at hb
    cases hq : x.kids with
    | nil => rw [hq] at hmem; cases hmem
    | cons a r =>
      rw [hq] at hb
      simp only [List.isEmpty_cons, Bool.or_false, Bool.and_eq_true] at hb
      exact hb.2
  have hno3 : ¬ (x.kind = 1 ∧ y.kind = 3) := fun ⟨h1, h2⟩ => by
    have hp0 := (G.root p x hx).1 h1
    obtain ⟨m, w, e, hw, _, h3⟩ := (G.kr.kids p x hx).2 n hmem
    have : n = m := by omega
    subst this
    rw [hxn] at hw
    obtain rfl := Option.some.inj hw
    exact h3 ⟨hp0, by rw [← yk]; exact h2⟩
  have hia : insAt x.kids n = (i : Int) := by unfold insAt; rw [if_neg (by omega), hi]
  have hnb : belowB c p (l.length : Nat) = false := by
    cases h : belowB c p (l.length : Nat) with
    | false => rfl
    | true =>
      exfalso
      obtain ⟨r, hr⟩ := (Gc.below_iff (u := p) (m := l.length) (by rw [C.len]; omega)).1 h
      have key : ∀ (z : Int) (r : Nat), Bel c (l.length : Nat) z r → ¬ ∃ m : Nat, z = (m : Int) ∧ m < l.length := by
        intro z r hb
        induction hb with
        | self => rintro ⟨m, e, hm⟩; omega
        | @step z r h _ ih =>
          rintro ⟨m, rfl, hm⟩
          obtain ⟨w, hw⟩ := get_some hm
          have e1 : parD c m = parD l m := by rw [parD_at hw, parD_at ((C.old m hm).trans hw)]
          rcases T.par hm with e | ⟨q, e, hq, _⟩
          · omega
          · exact ih ⟨q, by rw [e1]; exact e, hq⟩
      exact key p r hr ⟨p, rfl, hpl⟩
  have hup : upN l n = upN l p + 1 := (T.up_par hn hp).2
  obtain ⟨dp, _, hdp⟩ := G.deep p hpl
  have hupc : upN c p = upN l p := by
    rw [(Gc.upN (by rw [C.len]; omega) (copy_up_old G C hpl hdp)).1, (G.upN hpl hdp).1]
  have hdeep := copy_deep G hn C Gc _ n (T.self_in hn) hn (T.fuel hn)
  rw [T.cpN_self hn] at hdeep
  have hie : insErr c p (l.length : Nat) n = 0 := by
    unfold insErr
    rw [nodeAt_nat, nodeAt_nat, hxc, hy]
    simp only
    rw [if_neg (by rw [hpb, yk]; rintro (h | h | h); · cases h
                   · exact hkn1 h
                   · exact hno3 ⟨h.1, by rw [yk]; exact h.2⟩), if_neg (by omega), if_neg (by omega), if_neg (by rw [hnb]; simp), if_neg (by omega)]
  obtain ⟨m', t', x', y', em, et, hok⟩ := insErr_iff hie
  have : p = m' := by omega
  subst this
  have : l.length = t' := by omega
  subst this
  have : x = x' := Option.some.inj (hxc.symm.trans hok.hx)
  subst this
  have : y = y' := Option.some.inj (hy.symm.trans hok.hy)
  subst this
  have G1 := good_ins Gc hie
  have hdo := hok.do_
  rw [hia, Int.toNat_natCast] at hdo
  have hcl : l.length < c.length := (List.getElem?_eq_some_iff.1 hy).1
  have hcp : p < c.length := by omega
  have hg1 := fun j => get2 (l := c) (x := { x with kids := x.kids.take i ++ ((l.length : Nat) : Int) :: x.kids.drop i }) (y := { y with parent := (p : Int) }) hcp hcl j
  rw [hdo] at G1
  have hnp : n ≠ p := fun e => by subst e; omega
  have hcn : c[n]? = some xn := (C.old n hn).trans hxn
  have g1n : ((c.set p { x with kids := x.kids.take i ++ ((l.length : Nat) : Int) :: x.kids.drop i }).set l.length { y with parent := (p : Int) })[n]? = some xn := by
    rw [hg1, if_neg (by omega), if_neg hnp, hcn]
  generalize hc1 : (c.set p { x with kids := x.kids.take i ++ ((l.length : Nat) : Int) :: x.kids.drop i }).set l.length { y with parent := (p : Int) } = c1 at *
  have hpx : xn.parent = (p : Int) := by rw [← parD_at hxn]; exact hp
  have hre : remErr c1 n = 0 := by
    unfold remErr
    rw [nodeAt_nat, g1n]
    simp only
    rw [if_neg hkn1, if_neg (by omega)]
  obtain ⟨n', p', i', xn', yp', en, hr⟩ := remErr_iff G1 hre
  have : n = n' := by omega
  subst this
  have : xn = xn' := Option.some.inj (g1n.symm.trans hr.hx)
  subst this
  have : p = p' := by have := hr.par; omega
  subst this
  have g1p : c1[p]? = some { x with kids := x.kids.take i ++ ((l.length : Nat) : Int) :: x.kids.drop i } := by rw [hg1, if_neg (by omega), if_pos rfl]
  have ep : yp' = { x with kids := x.kids.take i ++ ((l.length : Nat) : Int) :: x.kids.drop i } := Option.some.inj (hr.hy.symm.trans g1p)
  have G2 := good_rem G1 hre
  have hil := (List.getElem?_eq_some_iff.1 hi2).1
  have hnd1 := (G1.kr.kids p _ g1p).1
  have hi' : i' = i + 1 := by
    have h1 := hr.at_
    rw [ep] at h1
    have h2 : (x.kids.take i ++ ((l.length : Nat) : Int) :: x.kids.drop i)[i + 1]? = some (n : Int) := by
      have hl : (x.kids.take i).length = i := by rw [List.length_take]; omega
      rw [List.getElem?_append_right (by omega), hl, show i + 1 - i = 0 + 1 by omega, List.getElem?_cons_succ, List.getElem?_drop]
      exact hi2
    have h3 := idx_uniq hnd1 h1
    have h4 := idx_uniq hnd1 h2
    omega
  subst hi'
  have hkids2 : yp'.kids.eraseIdx (i + 1) = x.kids.set i ((l.length : Nat) : Int) := by
    rw [ep]
    apply List.ext_getElem?
    intro j
    rw [List.getElem?_eraseIdx]
    have hl : (x.kids.take i).length = i := by rw [List.length_take]; omega
    by_cases hj : j < i
    · rw [if_pos (by omega), List.getElem?_append_left (by omega), List.getElem?_take_of_lt hj, List.getElem?_set_ne (by omega)]
    · by_cases hj2 : j = i
      · subst hj2
        rw [if_pos (by omega), List.getElem?_append_right (by omega), hl, Nat.sub_self, List.getElem?_set_self hil]
        rfl
      · rw [if_neg (by omega), List.getElem?_append_right (by omega), hl, show j + 1 - i = (j - i) + 1 by omega, List.getElem?_cons_succ, List.getElem?_drop, show i + (j - i) = j by omega, List.getElem?_set_ne (by omega)]
  have hdo2 := hr.do_
  rw [hkids2] at hdo2
  rw [hdo2] at G2
  have hc1l : c1.length = c.length := by rw [← hc1]; simp
  have hg2 := fun j => get2 (l := c1) (x := { yp' with kids := x.kids.set i ((l.length : Nat) : Int) }) (y := { xn with parent := -1 }) (by omega : p < c1.length) (by omega : n < c1.length) j
  generalize hl2 : (c1.set p { yp' with kids := x.kids.set i ((l.length : Nat) : Int) }).set n { xn with parent := -1 } = l2 at *
  refine ⟨l2, ?_, G2, ?_⟩
  · have e1 : edErr c (cpIns p l.length n) = 0 := by
      have : edErr c (cpIns p l.length n) = insErr c p (l.length : Nat) n := by simp [edErr, cpIns]
      rw [this, hie]
    have d1 : edDo c (cpIns p l.length n) = c1 := by
      have : edDo c (cpIns p l.length n) = insDo c p (l.length : Nat) n := by simp [edDo, cpIns]
      rw [this, hdo]
    have e2 : edErr c1 (cpRem n) = 0 := by
      have : edErr c1 (cpRem n) = remErr c1 n := by simp [edErr, cpRem]
      rw [this, hre]
    have d2 : edDo c1 (cpRem n) = l2 := by
      have : edDo c1 (cpRem n) = remDo c1 n := by simp [edDo, cpRem]
      rw [this, hdo2]
    unfold alR alErr
    rw [if_neg (by rw [if_neg (by rw [check_of Gc]; simp), if_neg (by simp)]; simp), edAll, if_neg (by rw [e1]; simp), d1, edAll, if_neg (by rw [e2]; simp), d2, edAll]
  · have B : ∀ f k : Nat, (k : Int) ∈ preR l n → k < l.length → upN l k + f = 41 → Like l2 l f (cpN l n k) k := by
      intro f
      induction f with
      | zero => intro k _ hk h; have := (T.deep k hk).1; omega
      | succ f ih =>
        intro k hk hkl hf
        obtain ⟨z, hz⟩ := get_some hkl
        have hge := (T.cpN_ge hn hk).1
        have hc := C.new k z hk hz
        have hsame : ∃ z', l2[cpN l n k]? = some z' ∧ z'.kind = z.kind ∧ z'.name = z.name ∧ z'.text = z.text ∧ z'.attrs = z.attrs ∧ z'.kids = z.kids.map fun w => ((cpN l n w : Nat) : Int) := by
          rw [hg2, if_neg (by omega), if_neg (by omega), hg1]
          by_cases hL : cpN l n k = l.length
          · rw [if_pos hL]
            have hkn : (k : Int) = (n : Int) := T.cpN_inj hn hk (T.self_in hn) (by rw [T.cpN_self hn]; exact hL)
            have : k = n := by omega
            subst this
            rw [hxn] at hz
            obtain rfl := Option.some.inj hz
            exact ⟨_, rfl, yk, by rw [ey], by rw [ey], by rw [ey], ykd⟩
          · rw [if_neg hL, if_neg (by omega), hc]
            exact ⟨_, rfl, rfl, rfl, rfl, rfl, rfl⟩
        obtain ⟨z', hz', q1, q2, q3, q4, q5⟩ := hsame
        refine ⟨z', z, hz', hz, q1.symm, q2.symm, q3.symm, q4.symm, by rw [q5]; simp, fun j u v hu hv => ?_⟩
        obtain ⟨q, rfl, hq, hpar⟩ := T.kid hkl (by rw [kidsD_at hz]; exact List.mem_of_getElem? hv)
        rw [q5, List.getElem?_map, hv] at hu
        obtain rfl := Option.some.inj hu
        have h1 := (T.up_par hq hpar).2
        exact ⟨_, _, rfl, rfl, ih q (T.kid_in hn hk (by rw [kidsD_at hz]; exact List.mem_of_getElem? hv)) hq (by omega)⟩
    have A : ∀ f j : Nat, j < l.length → j ≠ n → upN l j + f = 41 → Like l2 l f j j := by
      intro f
      induction f with
      | zero => intro j hj _ h; have := (T.deep j hj).1; omega
      | succ f ih =>
        intro j hj hjn hf
        obtain ⟨z, hz⟩ := get_some hj
        have hkid : ∀ (a : Nat) (v : Int), z.kids[a]? = some v → ∃ q : Nat, v = (q : Int) ∧ q < l.length ∧ parD l q = (j : Int) ∧ upN l q + f = 41 := fun a v hv => by
          obtain ⟨q, e, hq, hpar⟩ := T.kid hj (by rw [kidsD_at hz]; exact List.mem_of_getElem? hv)
          have h1 := (T.up_par hq hpar).2
          exact ⟨q, e, hq, hpar, by omega⟩
        by_cases hjp : j = p
        · subst hjp
          rw [hx] at hz
          obtain rfl := Option.some.inj hz
          have h2j : l2[j]? = some { yp' with kids := x.kids.set i ((l.length : Nat) : Int) } := by rw [hg2, if_neg hjn, if_pos rfl]
          refine ⟨_, x, h2j, hx, by rw [ep], by rw [ep], by rw [ep], by rw [ep], by simp, fun a u v hu hv => ?_⟩
          obtain ⟨q, rfl, hq, hpar, hfq⟩ := hkid a v hv
          by_cases hai : a = i
          · subst hai
            rw [hi2] at hv
            have : n = q := by have := Option.some.inj hv; omega
            subst this
            have hu : (x.kids.set a ((l.length : Nat) : Int))[a]? = some u := hu
            rw [List.getElem?_set_self hil] at hu
            obtain rfl := Option.some.inj hu
            have h3 := B f n (T.self_in hn) hn hfq
            rw [T.cpN_self hn] at h3
            exact ⟨_, _, rfl, rfl, h3⟩
          · have hu : (x.kids.set i ((l.length : Nat) : Int))[a]? = some u := hu
            rw [List.getElem?_set_ne (Ne.symm hai), hv] at hu
            obtain rfl := Option.some.inj hu
            refine ⟨q, q, rfl, rfl, ih q hq (fun e => ?_) hfq⟩
            subst e
            have h4 := idx_uniq (G.kr.kids j x hx).1 hv
            have h5 := idx_uniq (G.kr.kids j x hx).1 hi2
            omega
        · have h2j : l2[j]? = some z := by rw [hg2, if_neg hjn, if_neg hjp, hg1, if_neg (by omega), if_neg hjp]; exact (C.old j hj).trans hz
          refine ⟨z, z, h2j, hz, rfl, rfl, rfl, rfl, rfl, fun a u v hu hv => ?_⟩
          have huv : u = v := by rw [hu] at hv; exact Option.some.inj hv
          subst huv
          obtain ⟨q, rfl, hq, hpar, hfq⟩ := hkid a u hv
          exact ⟨q, q, rfl, rfl, ih q hq (fun e => by subst e; omega) hfq⟩
    have hu0 : upN l ((0 : Nat) : Int) = 0 := by
      have hroot := T.root
      obtain ⟨x0, hx0⟩ := get_some T.pos
      rw [show (0 : Int) = ((0 : Nat) : Int) from rfl, parD_at hx0] at hroot
      unfold upN
      exact upF_stop hx0 (by omega)
    exact A 41 0 G.pos (Ne.symm h0) (by omega)
end Go.Proofs.YtcnogokemilhnaaDoor
