/-
What Copy makes: the plain law. No program in sight.
-/
import Derived.Test.YtfgmfmkibjfknaaDoorSpanPartsLaw
import Derived.Test.YtfgmfmkibjfknaaDoorAlike
namespace Go.Proofs.YtfgmfmkibjfknaaDoor
open Go.RowKit Go.Cl
set_option linter.unusedVariables false

/-! ### a node and all below it, in order -/
theorem flatMap_one {α : Type} {f : Int → List α} {z0 : Int} : ∀ {ks : List Int}, ks.Nodup → z0 ∈ ks → (∀ z ∈ ks, z ≠ z0 → f z = []) → ks.flatMap f = f z0
  | [], _, h, _ => by cases h
  | x :: r, hn, h, hz => by
    obtain ⟨hx, hr⟩ := List.nodup_cons.1 hn
    rw [List.flatMap_cons]
    rcases List.mem_cons.1 h with rfl | h
    · have : r.flatMap f = [] := List.flatMap_eq_nil_iff.2 fun z hzr => hz z (by simp [hzr]) (fun e => hx (e ▸ hzr))
      rw [this, List.append_nil]
    · rw [hz x (by simp) (fun e => hx (e ▸ h)), List.nil_append]
      exact flatMap_one hr h fun z hzr => hz z (by simp [hzr])
section
variable {l : List Nd} (T : Tree l)
include T
theorem Tree.fuel {m : Nat} (hm : m < l.length) : upN l m + (41 - upN l m) = 41 := by have := (T.deep m hm).1; omega
theorem Tree.pre_in {m : Nat} (hm : m < l.length) {x : Int} (h : x ∈ preR l m) : ∃ k : Nat, x = (k : Int) ∧ k < l.length := by
  obtain ⟨k, e, hk, _⟩ := (T.pre_chain _ m hm (T.fuel hm)).2 x h
  exact ⟨k, e, hk⟩
theorem Tree.pre_nodup {m : Nat} (hm : m < l.length) : (preR l m).Nodup := by
  refine List.Pairwise.imp ?_ (T.pre_sorted _ m hm (T.fuel hm)).1
  intro x y h e
  rw [e, cmpL_self] at h
  exact absurd h (by decide)
/-- How deep what lies below a node is. -/
theorem Tree.pre_up (f : Nat) : ∀ m : Nat, m < l.length → upN l m + f = 41 → ∀ k : Nat, (k : Int) ∈ preR l m → upN l m ≤ upN l k ∧ (upN l k = upN l m → k = m) := by
  induction f with
  | zero => intro m hm hf; have := (T.deep m hm).1; omega
  | succ f ih =>
    intro m hm hf k hk
    rw [T.pre_step hm] at hk
    rcases List.mem_cons.1 hk with e | hk
    · have : k = m := by omega
      subst this
      exact ⟨Nat.le_refl _, fun _ => rfl⟩
    · obtain ⟨z, hz, hk⟩ := List.mem_flatMap.1 hk
      obtain ⟨c, rfl, hc, hp⟩ := T.kid hm hz
      have h1 := (T.up_par hc hp).2
      have h2 := (ih c hc (by omega) k hk).1
      exact ⟨by omega, fun e => by omega⟩
theorem Tree.pre_tail {m : Nat} (hm : m < l.length) : (preR l m).tail = (kidsD l m).flatMap (preR l) := by rw [T.pre_step hm]; rfl
theorem Tree.tail_parent {m : Nat} (hm : m < l.length) {z : Int} (h : z ∈ (preR l m).tail) : parD l z ∈ preR l m := by
  obtain ⟨i, hi⟩ := List.mem_iff_getElem?.1 h
  rw [List.getElem?_tail] at hi
  obtain ⟨j, _, hj⟩ := T.pre_parent _ m hm (T.fuel hm) (i + 1) z (by omega) hi
  exact List.mem_of_getElem? hj
/-- Of all that is below, a node's kids are those that call it their parent. -/
theorem Tree.tail_kids (f : Nat) : ∀ m : Nat, m < l.length → upN l m + f = 41 → ∀ k : Nat, (k : Int) ∈ preR l m → (preR l m).tail.filter (fun z => parD l z == (k : Int)) = kidsD l k := by
  induction f with
  | zero => intro m hm hf; have := (T.deep m hm).1; omega
  | succ f ih =>
    intro m hm hf k hk
    rw [T.pre_tail hm, List.filter_flatMap]
    have hkid : ∀ z ∈ kidsD l m, ∃ c : Nat, z = (c : Int) ∧ c < l.length ∧ parD l c = (m : Int) ∧ upN l c + f = 41 ∧ upN l c = upN l m + 1 := fun z hz => by
      obtain ⟨c, e, hc, hp⟩ := T.kid hm hz
      have := (T.up_par hc hp).2
      exact ⟨c, e, hc, hp, by omega, this⟩
    have out : ∀ z ∈ kidsD l m, (k : Int) ∉ preR l z → (preR l z).filter (fun w => parD l w == (k : Int)) = if m = k then [z] else [] := fun z hz hno => by
      obtain ⟨c, rfl, hc, hp, _, _⟩ := hkid z hz
      have ht : (preR l c).tail.filter (fun w => parD l w == (k : Int)) = [] := List.filter_eq_nil_iff.2 fun w hw h => hno (by
        have := T.tail_parent hc hw
        rw [eq_of_beq h] at this
        exact this)
      have e : preR l c = (c : Int) :: (preR l c).tail := by rw [T.pre_tail hc, ← T.pre_step hc]
      rw [e]
      by_cases h : m = k
      · rw [if_pos h, List.filter_cons_of_pos (by rw [hp, h]; simp), ht]
      · rw [if_neg h, List.filter_cons_of_neg (by rw [hp]; simp; omega), ht]
    by_cases h : m = k
    · subst h
      have h2 : ∀ z ∈ kidsD l m, (preR l z).filter (fun w => parD l w == (m : Int)) = [z] := fun z hz => by
        rw [out z hz (fun hin => by
          obtain ⟨c, rfl, hc, hp, hf2, hu⟩ := hkid z hz
          have := (T.pre_up f c hc hf2 m hin).1
          omega), if_pos rfl]
      rw [fm_congr h2]
      induction kidsD l m with
      | nil => rfl
      | cons x r ih2 => rw [List.flatMap_cons, ih2]; rfl
    · have hk2 := hk
      rw [T.pre_step hm] at hk2
      rcases List.mem_cons.1 hk2 with e | hk2
      · omega
      obtain ⟨z0, hz0, hk0⟩ := List.mem_flatMap.1 hk2
      have hpw := (T.pre_sorted _ m hm (T.fuel hm)).1
      rw [T.pre_step hm] at hpw
      have hp2 := (List.pairwise_flatMap.1 (List.pairwise_cons.1 hpw).2).2
      have uniq : ∀ z ∈ kidsD l m, (k : Int) ∈ preR l z → z = z0 := fun z hz hin => by
        obtain ⟨i, hi⟩ := List.mem_iff_getElem?.1 hz
        obtain ⟨j, hj⟩ := List.mem_iff_getElem?.1 hz0
        obtain ⟨hi1, hi2⟩ := List.getElem?_eq_some_iff.1 hi
        obtain ⟨hj1, hj2⟩ := List.getElem?_eq_some_iff.1 hj
        rcases Nat.lt_trichotomy i j with hij | hij | hij
        · have := List.pairwise_iff_getElem.1 hp2 i j hi1 hj1 hij k (by rw [hi2]; exact hin) k (by rw [hj2]; exact hk0)
          rw [cmpL_self] at this
          exact absurd this (by decide)
        · subst hij
          rw [hi] at hj
          exact Option.some.inj hj
        · have := List.pairwise_iff_getElem.1 hp2 j i hj1 hi1 hij k (by rw [hj2]; exact hk0) k (by rw [hi2]; exact hin)
          rw [cmpL_self] at this
          exact absurd this (by decide)
      rw [flatMap_one (z0 := z0) (T.nodup hm) hz0 (fun z hz hne => by rw [out z hz (fun hin => hne (uniq z hz hin)), if_neg h])]
      obtain ⟨c, rfl, hc, hp, hf2, _⟩ := hkid z0 hz0
      have e : preR l c = (c : Int) :: (preR l c).tail := by rw [T.pre_tail hc, ← T.pre_step hc]
      rw [e, List.filter_cons_of_neg (by rw [hp]; simp; omega)]
      exact ih c hc hf2 k hk0
end

/-! ### the copy -/
/-- The number of a copied node. -/
def cpN (l : List Nd) (n : Nat) (k : Int) : Nat := l.length + (Lib.idxOf (preR l n) k).toNat
def nodeD (l : List Nd) (k : Int) : Nd := (l[k.toNat]?).getD zNd0
where zNd0 : Nd := ⟨0, ⟨#[]⟩, [], ⟨#[]⟩, 0, []⟩
/-- One node more. -/
def cpStep (l : List Nd) (n : Nat) (out : List Nd) (k : Int) : List Nd :=
  if k = (n : Int) then out ++ [{ nodeD l k with parent := -1, kids := [] }]
  else (match out[cpN l n (parD l k)]? with
    | none => out
    | some y => out.set (cpN l n (parD l k)) { y with kids := y.kids ++ [(out.length : Int)] }) ++ [{ nodeD l k with parent := (cpN l n (parD l k) : Nat), kids := [] }]
def cpTo (l : List Nd) (n : Nat) : Nat → List Nd
  | 0 => l
  | i + 1 => match (preR l n)[i]? with
    | none => cpTo l n i
    | some k => cpStep l n (cpTo l n i) k
/-- A copied node, as far as one has come. -/
def cpNode (l : List Nd) (n i : Nat) (k : Int) : Nd :=
  { nodeD l k with parent := if k = (n : Int) then -1 else (cpN l n (parD l k) : Nat), kids := (((preR l n).take i).tail.filter (fun z => parD l z == k)).map fun z => ((cpN l n z : Nat) : Int) }
structure CpOk (l : List Nd) (n i : Nat) (c : List Nd) : Prop where
  len : c.length = l.length + i
  old : ∀ j, j < l.length → c[j]? = l[j]?
  new : ∀ (j : Nat) k, j < i → (preR l n)[j]? = some k → c[l.length + j]? = some (cpNode l n i k)
theorem Tree.cpN_at {l : List Nd} (T : Tree l) {n : Nat} (hn : n < l.length) {j : Nat} {k : Int} (h : (preR l n)[j]? = some k) : cpN l n k = l.length + j := by
  unfold cpN
  rw [idx_uniq (T.pre_nodup hn) h, Int.toNat_natCast]
theorem Tree.cp_to {l : List Nd} (T : Tree l) {n : Nat} (hn : n < l.length) : ∀ i, i ≤ (preR l n).length → CpOk l n i (cpTo l n i) := by
  intro i
  induction i with
  | zero => intro _; exact ⟨rfl, fun _ _ => rfl, fun j k hj => by omega⟩
  | succ i ih =>
    intro hi
    have C := ih (by omega)
    obtain ⟨k, hk⟩ := get_some (l := preR l n) (k := i) (by omega)
    have e : cpTo l n (i + 1) = cpStep l n (cpTo l n i) k := by rw [cpTo, hk]
    rw [e]
    generalize cpTo l n i = out at C
    have hnk := T.cpN_at hn hk
    have head : (preR l n)[0]? = some (n : Int) := by rw [T.pre_step hn]; rfl
    have hkn : k = (n : Int) ↔ i = 0 := by
      constructor
      · intro h
        have h1 := idx_uniq (T.pre_nodup hn) hk
        have h2 := idx_uniq (T.pre_nodup hn) head
        rw [h] at h1
        omega
      · intro h
        subst h
        rw [head] at hk
        exact (Option.some.inj hk).symm
    have tk : (preR l n).take (i + 1) = (preR l n).take i ++ [k] := take_snoc hk
    have ttail : 0 < i → ((preR l n).take (i + 1)).tail = ((preR l n).take i).tail ++ [k] := fun h0 => by
      rw [tk]
      cases hq : (preR l n).take i with
      | nil =>
        have h1 := congrArg List.length hq
        rw [List.length_take, List.length_nil] at h1
        omega
      | cons a r => rfl
    by_cases h : k = (n : Int)
    · have hi0 := hkn.1 h
      subst hi0
      have es : cpStep l n out k = out ++ [{ nodeD l k with parent := -1, kids := [] }] := if_pos h
      rw [es]
      refine ⟨by rw [List.length_append, C.len]; rfl, fun j hj => ?_, fun j k' hj hk' => ?_⟩
      · rw [List.getElem?_append_left (by rw [C.len]; omega)]; exact C.old j hj
      · have : j = 0 := by omega
        subst this
        rw [hk] at hk'
        obtain rfl := Option.some.inj hk'
        rw [List.getElem?_append_right (by rw [C.len]; omega), C.len, show l.length + 0 - (l.length + 0) = 0 by omega]
        show some _ = some _
        congr 1
        unfold cpNode
        rw [if_pos h, tk]
        rfl
    · have hi0 : 0 < i := Nat.pos_of_ne_zero fun e => h (hkn.2 e)
      obtain ⟨jp, hjp, hp⟩ := T.pre_parent _ n hn (T.fuel hn) i k hi0 hk
      have hpn := T.cpN_at hn hp
      have hy := C.new jp _ hjp hp
      have es : cpStep l n out k = out.set (l.length + jp) { cpNode l n i (parD l k) with kids := (cpNode l n i (parD l k)).kids ++ [(out.length : Int)] } ++ [{ nodeD l k with parent := (cpN l n (parD l k) : Nat), kids := [] }] := by
        unfold cpStep
        rw [if_neg h, hpn, hy]
      rw [es]
      refine ⟨by rw [List.length_append, List.length_set, C.len]; rfl, fun j hj => ?_, fun j k' hj hk' => ?_⟩
      · rw [List.getElem?_append_left (by rw [List.length_set, C.len]; omega), List.getElem?_set_ne (by omega)]
        exact C.old j hj
      · by_cases hji : j = i
        · subst hji
          rw [hk] at hk'
          obtain rfl := Option.some.inj hk'
          rw [List.getElem?_append_right (by rw [List.length_set, C.len]; omega), List.length_set, C.len, Nat.sub_self]
          show some _ = some _
          congr 1
          unfold cpNode
          rw [if_neg h]
          have hno : ((preR l n).take (j + 1)).tail.filter (fun z => parD l z == k) = [] := List.filter_eq_nil_iff.2 fun w hw hwk => by
            rw [ttail hi0] at hw
            have hpar : parD l w = k := eq_of_beq hwk
            obtain ⟨kk, e2, hkk⟩ := T.pre_in hn (List.mem_of_getElem? hk)
            have hcase : ∃ i2, 0 < i2 ∧ i2 ≤ j ∧ (preR l n)[i2]? = some w := by
              rcases List.mem_append.1 hw with hw | hw
              · obtain ⟨i3, h3⟩ := List.mem_iff_getElem?.1 hw
                rw [List.getElem?_tail] at h3
                have h4 : i3 + 1 < j := by
                  have := (List.getElem?_eq_some_iff.1 h3).1
                  rw [List.length_take] at this
                  omega
                rw [List.getElem?_take_of_lt h4] at h3
                exact ⟨i3 + 1, by omega, by omega, h3⟩
              · obtain rfl := List.mem_singleton.1 hw
                exact ⟨j, hi0, Nat.le_refl _, hk⟩
            obtain ⟨i2, h5, h6, h7⟩ := hcase
            obtain ⟨j2, h8, h9⟩ := T.pre_parent _ n hn (T.fuel hn) i2 w h5 h7
            rw [hpar] at h9
            have h10 := idx_uniq (T.pre_nodup hn) h9
            have h11 := idx_uniq (T.pre_nodup hn) hk
            omega
          rw [hno]
          rfl
        · have hj2 : j < i := by omega
          rw [List.getElem?_append_left (by rw [List.length_set, C.len]; omega)]
          have hold := C.new j k' hj2 hk'
          by_cases hjj : j = jp
          · subst hjj
            rw [hp] at hk'
            obtain rfl := Option.some.inj hk'
            rw [List.getElem?_set_self (by rw [C.len]; omega)]
            congr 1
            unfold cpNode
            rw [ttail hi0, List.filter_append, List.map_append]
            have : [k].filter (fun z => parD l z == parD l k) = [k] := by simp
            rw [this, C.len, List.map_cons, hnk]
            rfl
          · rw [List.getElem?_set_ne (by omega), hold]
            congr 1
            unfold cpNode
            rw [ttail hi0, List.filter_append]
            have hne : (parD l k == k') = false := by
              rw [beq_eq_false_iff_ne]
              rintro rfl
              have h10 := idx_uniq (T.pre_nodup hn) hp
              have h11 := idx_uniq (T.pre_nodup hn) hk'
              omega
            have : [k].filter (fun z => parD l z == k') = [] := by simp [hne]
            rw [this, List.append_nil]

/-! ### the copy, whole -/
def cpEnd (l : List Nd) (n : Nat) : List Nd := cpTo l n (preR l n).length
structure Cp (l : List Nd) (n : Nat) (c : List Nd) : Prop where
  len : c.length = l.length + (preR l n).length
  old : ∀ j, j < l.length → c[j]? = l[j]?
  new : ∀ (k : Nat) x, (k : Int) ∈ preR l n → l[k]? = some x → c[cpN l n k]? = some { x with parent := if k = n then -1 else (cpN l n x.parent : Nat), kids := x.kids.map fun z => ((cpN l n z : Nat) : Int) }
  num : ∀ j, l.length ≤ j → j < c.length → ∃ k : Nat, (k : Int) ∈ preR l n ∧ k < l.length ∧ j = cpN l n k
theorem Tree.cp_end {l : List Nd} (T : Tree l) {n : Nat} (hn : n < l.length) : Cp l n (cpEnd l n) := by
  have C := T.cp_to hn (preR l n).length (Nat.le_refl _)
  unfold cpEnd
  refine ⟨C.len, C.old, fun k x hk hx => ?_, fun j h1 h2 => ?_⟩
  · obtain ⟨j, hj⟩ := List.mem_iff_getElem?.1 hk
    have hjl := (List.getElem?_eq_some_iff.1 hj).1
    rw [T.cpN_at hn hj, C.new j k hjl hj]
    congr 1
    unfold cpNode
    have hnd : nodeD l k = x := by unfold nodeD; rw [Int.toNat_natCast, hx]; rfl
    have hf := T.tail_kids _ n hn (T.fuel hn) k hk
    rw [List.take_length, hf, hnd, kidsD_at hx, parD_at hx]
    by_cases h : k = n
    · rw [if_pos (by rw [h]), if_pos h]
    · rw [if_neg (by omega), if_neg h]
  · obtain ⟨z, hz⟩ := get_some (l := preR l n) (k := j - l.length) (by have := C.len; omega)
    obtain ⟨k, rfl, hk⟩ := T.pre_in hn (List.mem_of_getElem? hz)
    exact ⟨k, List.mem_of_getElem? hz, hk, by rw [T.cpN_at hn hz]; omega⟩
theorem Tree.cpN_inj {l : List Nd} (T : Tree l) {n : Nat} (hn : n < l.length) {x y : Int} (hx : x ∈ preR l n) (hy : y ∈ preR l n) (h : cpN l n x = cpN l n y) : x = y := by
  obtain ⟨i, hi⟩ := List.mem_iff_getElem?.1 hx
  obtain ⟨j, hj⟩ := List.mem_iff_getElem?.1 hy
  rw [T.cpN_at hn hi, T.cpN_at hn hj] at h
  have : i = j := by omega
  subst this
  rw [hi] at hj
  exact Option.some.inj hj
theorem Tree.cpN_ge {l : List Nd} (T : Tree l) {n : Nat} (hn : n < l.length) {x : Int} (hx : x ∈ preR l n) : l.length ≤ cpN l n x ∧ cpN l n x < l.length + (preR l n).length := by
  obtain ⟨i, hi⟩ := List.mem_iff_getElem?.1 hx
  rw [T.cpN_at hn hi]
  have := (List.getElem?_eq_some_iff.1 hi).1
  omega
theorem Tree.cpN_self {l : List Nd} (T : Tree l) {n : Nat} (hn : n < l.length) : cpN l n n = l.length := by
  have head : (preR l n)[0]? = some (n : Int) := by rw [T.pre_step hn]; rfl
  rw [T.cpN_at hn head]; omega
theorem Tree.self_in {l : List Nd} (T : Tree l) {n : Nat} (hn : n < l.length) : (n : Int) ∈ preR l n := by rw [T.pre_step hn]; simp
theorem Tree.kid_in {l : List Nd} (T : Tree l) {n : Nat} (hn : n < l.length) {k : Nat} (hk : (k : Int) ∈ preR l n) {z : Int} (hz : z ∈ kidsD l k) : z ∈ preR l n := T.pre_kids _ n hn (T.fuel hn) k z hk hz
/-- Below a node the node's parent does not lie. -/
theorem Tree.par_not {l : List Nd} (T : Tree l) {n : Nat} (hn : n < l.length) {k : Nat} (hk : (k : Int) ∈ preR l n) (hkl : k < l.length) {z : Nat} (hz : (z : Int) ∈ kidsD l k) : z ≠ n := by
  rintro rfl
  obtain ⟨m, e, hm, hp⟩ := T.kid hkl hz
  have : z = m := by omega
  subst this
  have h1 := (T.up_par hm hp).2
  have h2 := (T.pre_up _ z hn (T.fuel hn) k hk).1
  omega
/-- The way up within what is copied. -/
theorem Tree.par_in {l : List Nd} (T : Tree l) {n : Nat} (hn : n < l.length) {k : Nat} (hk : (k : Int) ∈ preR l n) (h : k ≠ n) : parD l k ∈ preR l n := by
  obtain ⟨i, hi⟩ := List.mem_iff_getElem?.1 hk
  have h0 : 0 < i := Nat.pos_of_ne_zero fun e => by
    subst e
    have head : (preR l n)[0]? = some (n : Int) := by rw [T.pre_step hn]; rfl
    rw [head] at hi
    have := Option.some.inj hi
    omega
  obtain ⟨j, _, hj⟩ := T.pre_parent _ n hn (T.fuel hn) i k h0 hi
  exact List.mem_of_getElem? hj
theorem parD_nat {l : List Nd} {m : Nat} {x : Nd} (h : l[m]? = some x) : parD l m = x.parent := parD_at h
/-- What is copied of a document that is right is right. -/
theorem copy_good {l : List Nd} (G : Good l) {n : Nat} (hn : n < l.length) (h0 : n ≠ 0) (hs : l.length + (preR l n).length ≤ 200) {c : List Nd} (C : Cp l n c) : Good c := by
  have T := tree_of (check_of G)
  have hno0 : ∀ k : Nat, (k : Int) ∈ preR l n → k ≠ 0 := fun k hk e => by
    subst e
    have h1 := (T.pre_up _ n hn (T.fuel hn) 0 hk)
    have hr := T.root
    have h2 : upN l ((0 : Nat) : Int) = 0 := by
      obtain ⟨x, hx⟩ := get_some T.pos
      rw [show (0 : Int) = ((0 : Nat) : Int) from rfl, parD_at hx] at hr
      unfold upN
      exact upF_stop hx (by omega)
    have := h1.2 (by omega)
    omega
  have split : ∀ (j : Nat) z, c[j]? = some z → (j < l.length ∧ l[j]? = some z) ∨ ∃ (k : Nat) (x : Nd), (k : Int) ∈ preR l n ∧ l[k]? = some x ∧ j = cpN l n k ∧ z = { x with parent := if k = n then -1 else (cpN l n x.parent : Nat), kids := x.kids.map fun z => ((cpN l n z : Nat) : Int) } := fun j z hz => by
    by_cases hj : j < l.length
    · exact Or.inl ⟨hj, by rw [← C.old j hj]; exact hz⟩
    · obtain ⟨k, hk, hkl, e⟩ := C.num j (by omega) (List.getElem?_eq_some_iff.1 hz).1
      obtain ⟨x, hx⟩ := get_some hkl
      refine Or.inr ⟨k, x, hk, hx, e, ?_⟩
      rw [e, C.new k x hk hx] at hz
      exact (Option.some.inj hz).symm
  refine ⟨by rw [C.len]; exact hs, by rw [C.len]; have := G.pos; omega, fun j z hz => ?_, fun z hz => ?_, ⟨fun j z hz => ?_, fun j z hz hp => ?_, fun z hz => ?_⟩, fun j hj => ?_⟩
  · rcases split j z hz with ⟨hj, h⟩ | ⟨k, x, hk, hx, e, rfl⟩
    · exact G.root j z h
    · have h1 := (T.cpN_ge hn hk).1
      have h2 := G.pos
      constructor
      · intro hk1
        exact absurd ((G.root k x hx).1 hk1) (hno0 k hk)
      · intro h; omega
  · obtain ⟨j, hj⟩ := List.mem_iff_getElem?.1 hz
    rcases split j z hj with ⟨_, h⟩ | ⟨k, x, hk, hx, e, rfl⟩
    · exact G.each z (List.mem_of_getElem? h)
    · exact nodeE_kids (G.each x (List.mem_of_getElem? hx)) _ (Or.inr fun e => by rw [e]; rfl) _
  · rcases split j z hz with ⟨hj, h⟩ | ⟨k, x, hk, hx, e, rfl⟩
    · obtain ⟨h1, h2⟩ := G.kr.kids j z h
      refine ⟨h1, fun q hq => ?_⟩
      obtain ⟨m, y, e, hy, hpar, h3⟩ := h2 q hq
      exact ⟨m, y, e, by rw [C.old m (List.getElem?_eq_some_iff.1 hy).1]; exact hy, hpar, h3⟩
    · have hkl := (List.getElem?_eq_some_iff.1 hx).1
      have hin : ∀ q ∈ x.kids, q ∈ preR l n := fun q hq => T.kid_in hn hk (by rw [kidsD_at hx]; exact hq)
      obtain ⟨h1, h2⟩ := G.kr.kids k x hx
      refine ⟨?_, fun q hq => ?_⟩
      · refine List.Pairwise.map _ (fun a b hab h => ?_) (List.Pairwise.imp_of_mem (fun {a b} ha hb hab => (⟨ha, hb, hab⟩ : a ∈ x.kids ∧ b ∈ x.kids ∧ a ≠ b)) h1)
        exact hab.2.2 (T.cpN_inj hn (hin a hab.1) (hin b hab.2.1) (by omega))
      · obtain ⟨z, hz, rfl⟩ := List.mem_map.1 hq
        obtain ⟨m, y, e2, hy, hpar, h3⟩ := h2 z hz
        subst e2
        have hmn : m ≠ n := T.par_not hn hk hkl (by rw [kidsD_at hx]; exact hz)
        refine ⟨_, _, rfl, C.new m y (hin _ hz) hy, ?_, fun hh => ?_⟩
        · show (if m = n then (-1 : Int) else (cpN l n y.parent : Nat)) = _
          rw [if_neg hmn, hpar, e]
        · have h4 := (T.cpN_ge hn hk).1
          have h5 := G.pos
          omega
  · rcases split j z hz with ⟨hj, h⟩ | ⟨k, x, hk, hx, e, rfl⟩
    · obtain ⟨p, y, hy, hin⟩ := G.kr.known j z h hp
      exact ⟨p, y, by rw [C.old p (List.getElem?_eq_some_iff.1 hy).1]; exact hy, hin⟩
    · have hkl := (List.getElem?_eq_some_iff.1 hx).1
      by_cases hkn : k = n
      · exact absurd (if_pos hkn) hp
      · have hpi := T.par_in hn hk hkn
        rw [parD_at hx] at hpi
        obtain ⟨p, e2, hpl⟩ := T.pre_in hn hpi
        obtain ⟨y, hy⟩ := get_some hpl
        rw [e2] at hpi
        refine ⟨_, _, C.new p y hpi hy, ?_⟩
        have hmem : (k : Int) ∈ y.kids := by
          rcases T.par hkl with h1 | ⟨p', h1, _, h2⟩
          · rw [parD_at hx] at h1; omega
          · rw [parD_at hx, e2] at h1
            have : p = p' := by omega
            subst this
            rw [kidsD_at hy] at h2
            exact h2
        rw [e]
        exact List.mem_map.2 ⟨k, hmem, rfl⟩
  · rw [C.old 0 G.pos] at hz
    exact G.kr.top z hz
  · have hpar0 : ∀ j, j < l.length → parD c j = parD l j := fun j hj => by
      obtain ⟨x, hx⟩ := get_some hj
      rw [parD_at hx, parD_at ((C.old j hj).trans hx)]
    by_cases hjl : j < l.length
    · obtain ⟨d, hd, hu⟩ := G.deep j hjl
      refine ⟨d, hd, ?_⟩
      have key : ∀ (z : Int) (d : Nat), Up l z d → (∃ m : Nat, z = (m : Int) ∧ m < l.length) → Up c z d := by
        intro z d hu
        induction hu with
        | @top z h => rintro ⟨m, rfl, hm⟩; exact Up.top (by rw [hpar0 m hm]; exact h)
        | @step z d h _ ih =>
          rintro ⟨m, rfl, hm⟩
          refine Up.step (by rw [hpar0 m hm]; exact h) ?_
          rw [hpar0 m hm]
          apply ih
          rcases T.par hm with e | ⟨p, e, hp, _⟩
          · omega
          · exact ⟨p, e, hp⟩
      exact key j d hu ⟨j, rfl, hjl⟩
    · obtain ⟨k, hk, hkl, e⟩ := C.num j (by omega) hj
      have key : ∀ (f k : Nat), upN l k < f → (k : Int) ∈ preR l n → k < l.length → Up c (cpN l n k : Nat) (upN l k - upN l n) := by
        intro f
        induction f with
        | zero => intro k h; omega
        | succ f ih =>
          intro k hf hk hkl
          obtain ⟨x, hx⟩ := get_some hkl
          have hc := C.new k x hk hx
          by_cases hkn : k = n
          · subst hkn
            rw [Nat.sub_self]
            refine Up.top ?_
            rw [parD_at hc]
            show (if k = k then (-1 : Int) else _) < 0
            rw [if_pos rfl]; decide
          · have hpi := T.par_in hn hk hkn
            obtain ⟨p, e2, hpl⟩ := T.pre_in hn hpi
            have h1 := (T.up_par hkl e2).2
            rw [e2] at hpi
            have h2 := (T.pre_up _ n hn (T.fuel hn) p hpi).1
            rw [show upN l k - upN l n = (upN l p - upN l n) + 1 by omega]
            rw [parD_at hx] at e2
            have hp2 : parD c (cpN l n k : Nat) = (cpN l n p : Nat) := by
              rw [parD_at hc]
              show (if k = n then (-1 : Int) else (cpN l n x.parent : Nat)) = _
              rw [if_neg hkn, e2]
            refine Up.step (by rw [hp2]; omega) ?_
            rw [hp2]
            exact ih p (by omega) hpi hpl
      refine ⟨_, ?_, by rw [e]; exact key _ k (Nat.lt_succ_self _) hk hkl⟩
      have := (T.deep k hkl).1
      omega
/-- The copy is like what it is of. -/
theorem copy_like {l : List Nd} (G : Good l) {n : Nat} (hn : n < l.length) {c : List Nd} (C : Cp l n c) (f : Nat) : ∀ k : Nat, (k : Int) ∈ preR l n → k < l.length → upN l k + f = 41 → Like c l f (cpN l n k) k ∧ Like l c f k (cpN l n k) := by
  have T := tree_of (check_of G)
  induction f with
  | zero => intro k _ hk h; have := (T.deep k hk).1; omega
  | succ f ih =>
    intro k hk hkl hf
    obtain ⟨x, hx⟩ := get_some hkl
    have hc := C.new k x hk hx
    have hkid : ∀ (i : Nat) (z : Int), x.kids[i]? = some z → ∃ q : Nat, z = (q : Int) ∧ (q : Int) ∈ preR l n ∧ q < l.length ∧ upN l q + f = 41 := fun i z hz => by
      obtain ⟨q, e, hq, hp⟩ := T.kid hkl (by rw [kidsD_at hx]; exact List.mem_of_getElem? hz)
      have h1 := (T.up_par hq hp).2
      exact ⟨q, e, by rw [← e]; exact T.kid_in hn hk (by rw [kidsD_at hx]; exact List.mem_of_getElem? hz), hq, by omega⟩
    constructor
    · refine ⟨_, x, hc, hx, rfl, rfl, rfl, rfl, by simp, fun i p q hp hq => ?_⟩
      obtain ⟨q', rfl, hin, hql, hfq⟩ := hkid i q hq
      rw [List.getElem?_map, hq] at hp
      obtain rfl := Option.some.inj hp
      exact ⟨_, _, rfl, rfl, (ih q' hin hql hfq).1⟩
    · refine ⟨x, _, hx, hc, rfl, rfl, rfl, rfl, by simp, fun i p q hp hq => ?_⟩
      obtain ⟨p', rfl, hin, hpl, hfp⟩ := hkid i p hp
      rw [List.getElem?_map, hp] at hq
      obtain rfl := Option.some.inj hq
      exact ⟨_, _, rfl, rfl, (ih p' hin hpl hfp).2⟩
end Go.Proofs.YtfgmfmkibjfknaaDoor
