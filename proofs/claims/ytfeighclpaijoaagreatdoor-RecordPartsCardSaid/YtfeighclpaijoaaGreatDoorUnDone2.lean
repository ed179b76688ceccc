/-
The walks of package record's undoer: undone, whatever the step.
-/
import Derived.Test.YtfeighclpaijoaaGreatDoorUnDone
import Derived.Test.YtfeighclpaijoaaGreatDoorUnAttr
import Derived.Test.YtfeighclpaijoaaGreatDoorUnMade
import Derived.Test.YtfeighclpaijoaaGreatDoorUnDrop
import Derived.Test.YtfeighclpaijoaaGreatDoorUnIns
import Derived.Test.YtfeighclpaijoaaGreatDoorUnRem
namespace Go.Proofs.YtfeighclpaijoaaGreatDoor
open Go.RowKit Go.Cl
theorem setAt_set {l : List Nd} {n : Int} {m : Nat} {x : Nd} (f : Nd → Nd) (hn : n = (m : Int)) (hx : l[m]? = some x) : setAt l n f = l.set m (f x) := by
  subst hn
  unfold setAt nodeAt
  rw [if_neg (by omega), Int.toNat_natCast, hx]
section
variable {w : World} {E g c base : Nat} {l l' : List Nd} {q : Bool} {ps : List (Value × Value)} {s : Stp} {Aa : Option Addr} {na ca : Nat} {Ak : Option Addr} {nk ck : Nat}
theorem good_attrs {k : List Nd} (G : Good k) {m : Nat} {x : Nd} (hx : k[m]? = some x) : x.attrs.length ≤ 12 := (edok_good G hx).attrs
theorem call_text (h : UnAt w E g c base l q ps) (hok : StpOk w (lt base) s Aa na ca Ak nk ck) (G' : Good l') (hu : unText l s = some l') :
    Calls Tryz.prog 34 #[.pointer (some ⟨E, 0, none⟩), .agg (stpCells s Aa na ca Ak nk ck)] w (UnPost w E base q l') := by
  unfold unText at hu
  cases hx : nodeAt l s.edit.at_ with
  | none => rw [hx] at hu; cases hu
  | some x =>
    rw [hx] at hu
    simp only at hu
    obtain ⟨m, hm, hx⟩ := nodeAt_some hx
    split at hu
    · cases hu
    · rename_i hk
      rw [setAt_set _ hm hx] at hu
      obtain rfl := Option.some.inj hu
      have hk' : x.kind = 3 ∨ x.kind = 4 := by
        rcases Classical.em (x.kind = 3) with h3 | h3
        · exact .inl h3
        · exact .inr (Classical.byContradiction fun h4 => hk ⟨h3, h4⟩)
      exact unText_any w E g c base l q ps s Aa na ca Ak nk ck h hok hm hx hk' (edok_good G' (m := m) (by rw [List.getElem?_set_self (List.getElem?_eq_some_iff.1 hx).1]))
theorem call_drop (h : UnAt w E g c base l q ps) (hok : StpOk w (lt base) s Aa na ca Ak nk ck) (G' : Good l') (hu : unDrop l s = some l') :
    Calls Tryz.prog 33 #[.pointer (some ⟨E, 0, none⟩), .agg (stpCells s Aa na ca Ak nk ck)] w (UnPost w E base q l') := by
  unfold unDrop at hu
  cases hx : nodeAt l s.edit.at_ with
  | none => rw [hx] at hu; cases hu
  | some x =>
    rw [hx] at hu
    simp only at hu
    obtain ⟨m, hm, hx⟩ := nodeAt_some hx
    split at hu
    · cases hu
    · rename_i hk
      rw [setAt_set _ hm hx] at hu
      obtain rfl := Option.some.inj hu
      simp only [not_or, Classical.not_not, Int.not_lt, Int.not_le] at hk
      obtain ⟨i, hi⟩ : ∃ i : Nat, s.place = (i : Int) := ⟨s.place.toNat, by omega⟩
      have hf : findA x.attrs s.edit.name = -1 := by
        rcases findA_cases x.attrs s.edit.name with h1 | ⟨j, _, h1, _⟩
        · exact h1.1
        · rw [h1] at hk; omega
      have h12 := good_attrs G' (m := m) (x := { x with attrs := x.attrs.take s.place.toNat ++ (s.edit.name, s.was) :: x.attrs.drop s.place.toNat }) (by rw [List.getElem?_set_self (List.getElem?_eq_some_iff.1 hx).1])
      rw [List.perm_middle.length_eq, List.take_append_drop, List.length_cons] at h12
      have e : s.place.toNat = i := by omega
      rw [e]
      exact unDrop_any w E g c base l q ps s Aa na ca Ak nk ck h hok hm hx hk.1 hi (by omega) hf h12
theorem call_made (h : UnAt w E g c base l q ps) (hok : StpOk w (lt base) s Aa na ca Ak nk ck) (hu : unMake l s = some l') :
    Calls Tryz.prog 35 #[.pointer (some ⟨E, 0, none⟩), .agg (stpCells s Aa na ca Ak nk ck)] w (UnPost w E base q l') := by
  unfold unMake at hu
  split at hu
  · cases hu
  · rename_i hk
    obtain rfl := Option.some.inj hu
    simp only [not_or, Classical.not_not, Int.not_lt, ne_eq] at hk
    obtain ⟨m, hm⟩ : ∃ m, l.length = m + 1 := ⟨l.length - 1, by omega⟩
    have hlt : m < l.length := by omega
    have e : ((l.length : Int) - 1) = (m : Int) := by omega
    have hn : nodeD l ((l.length : Int) - 1) = l[m] := by
      unfold nodeD nodeAt
      rw [e, if_neg (by omega), Int.toNat_natCast, List.getElem?_eq_getElem hlt]
      rfl
    rw [hn] at hk
    rw [show l.length - 1 = m from by omega]
    exact unMade_any w E g c base l q ps s Aa na ca Ak nk ck h hok hm (by omega) (List.getElem?_eq_getElem hlt) (by omega) hk.2.2.1 hk.2.2.2
theorem no_self {k : List Nd} (G : Good k) {m : Nat} {x : Nd} (hx : k[m]? = some x) : x.parent ≠ (m : Int) := by
  intro e
  obtain ⟨d, _, hu⟩ := G.deep m (List.getElem?_eq_some_iff.1 hx).1
  have hp : parD k (m : Int) = (m : Int) := by rw [parD_at hx]; exact e
  cases hu with
  | top h0 => rw [hp] at h0; omega
  | step h0 h1 =>
    rw [hp] at h1
    have h2 := Up.fn (Up.step h0 (by rw [hp]; exact h1)) h1
    omega
theorem call_attr (h : UnAt w E g c base l q ps) (hok : StpOk w (lt base) s Aa na ca Ak nk ck) (G : Good l) (hu : unAttr l s = some l') :
    Calls Tryz.prog 32 #[.pointer (some ⟨E, 0, none⟩), .agg (stpCells s Aa na ca Ak nk ck)] w (UnPost w E base q l') := by
  unfold unAttr at hu
  cases hx : nodeAt l s.edit.at_ with
  | none => rw [hx] at hu; cases hu
  | some x =>
    rw [hx] at hu
    simp only at hu
    obtain ⟨m, hm, hx⟩ := nodeAt_some hx
    have h12 := good_attrs G hx
    split at hu
    · rename_i hk
      obtain ⟨i, a, hf, ha, _⟩ := findA_nat hk.1
      rw [setAt_set _ hm hx] at hu
      obtain rfl := Option.some.inj hu
      have e : (findA x.attrs s.edit.name).toNat = i := by omega
      rw [e, ha]
      exact unAttr_set w E g c base l q ps s Aa na ca Ak nk ck h hok hm hx hf ha hk.2 h12
    · rename_i hn
      split at hu
      · rename_i hk
        obtain ⟨i, a, hf, ha, _⟩ := findA_nat hk.1
        rw [setAt_set _ hm hx] at hu
        obtain rfl := Option.some.inj hu
        have e : (findA x.attrs s.edit.name).toNat = i := by omega
        rw [e]
        have hh : s.had = false := by
          cases h9 : s.had with
          | false => rfl
          | true => exact absurd ⟨hk.1, h9⟩ hn
        exact unAttr_cut w E g c base l q ps s Aa na ca Ak nk ck h hok hm hx hf ha hh (by omega) h12
      · cases hu
theorem call_ins (h : UnAt w E g c base l q ps) (hok : StpOk w (lt base) s Aa na ca Ak nk ck) (G : Good l) (hu : unIns l s = some l') :
    Calls Tryz.prog 36 #[.pointer (some ⟨E, 0, none⟩), .agg (stpCells s Aa na ca Ak nk ck)] w (UnPost w E base q l') := by
  unfold unIns at hu
  cases hx : nodeAt l s.edit.at_ with
  | none => rw [hx] at hu; cases hu
  | some x =>
    cases hz : nodeAt l s.edit.to_ with
    | none => rw [hx, hz] at hu; cases hu
    | some z =>
      rw [hx, hz] at hu
      simp only at hu
      obtain ⟨m, hm, hx⟩ := nodeAt_some hx
      obtain ⟨t, ht, hz⟩ := nodeAt_some hz
      split at hu
      · cases hu
      · rename_i hk
        simp only [not_or, Classical.not_not, Int.not_lt, Int.not_le, ne_eq] at hk
        obtain ⟨i, hi⟩ : ∃ i : Nat, s.place = (i : Int) := ⟨s.place.toNat, by omega⟩
        have e : s.place.toNat = i := by omega
        rw [e, ht] at hk
        have hne : m ≠ t := by
          rintro rfl
          obtain ⟨m', y, e1, hy, hp, _⟩ := (G.kr.kids m x hx).2 _ (List.mem_of_getElem? hk.2.2)
          obtain rfl : m = m' := by omega
          exact no_self G hy hp
        rw [setAt_set _ hm hx, setAt_set (x := z) _ ht (by rw [List.getElem?_set_ne hne]; exact hz), e] at hu
        obtain rfl := Option.some.inj hu
        exact unIns_any w E g c base l q ps s Aa na ca Ak nk ck h hok hm ht hx hz hne hi hk.2.2
theorem call_rem (h : UnAt w E g c base l q ps) (hok : StpOk w (lt base) s Aa na ca Ak nk ck) (G' : Good l') (hu : unRem l s = some l') :
    Calls Tryz.prog 37 #[.pointer (some ⟨E, 0, none⟩), .agg (stpCells s Aa na ca Ak nk ck)] w (UnPost w E base q l') := by
  unfold unRem at hu
  cases hz : nodeAt l s.parent with
  | none => rw [hz] at hu; cases hu
  | some z =>
    cases hx : nodeAt l s.edit.at_ with
    | none => rw [hx, hz] at hu; cases hu
    | some x =>
      rw [hx, hz] at hu
      simp only at hu
      obtain ⟨m, hm, hx⟩ := nodeAt_some hx
      obtain ⟨t, ht, hz⟩ := nodeAt_some hz
      split at hu
      · cases hu
      · rename_i hk
        simp only [not_or, Classical.not_not, Int.not_lt, ne_eq] at hk
        obtain ⟨i, hi⟩ : ∃ i : Nat, s.place = (i : Int) := ⟨s.place.toNat, by omega⟩
        have e : s.place.toNat = i := by omega
        have htl := (List.getElem?_eq_some_iff.1 hz).1
        have hml := (List.getElem?_eq_some_iff.1 hx).1
        rw [setAt_set _ ht hz, e, hm] at hu
        have hne : m ≠ t := by
          rintro rfl
          rw [setAt_nat (x := { z with kids := z.kids.take i ++ (m : Int) :: z.kids.drop i }) (by rw [List.getElem?_set_self htl])] at hu
          obtain rfl := Option.some.inj hu
          exact no_self G' (m := m) (x := { z with kids := z.kids.take i ++ (m : Int) :: z.kids.drop i, parent := s.parent }) (by rw [List.getElem?_set_self (by rw [List.length_set]; exact htl)]) ht
        rw [setAt_nat (x := x) (by rw [List.getElem?_set_ne (fun e => hne e.symm)]; exact hx), ht] at hu
        obtain rfl := Option.some.inj hu
        have h12 := (edok_good G' (m := t) (x := { z with kids := z.kids.take i ++ (m : Int) :: z.kids.drop i }) (by rw [List.getElem?_set_ne hne, List.getElem?_set_self htl])).kids
        rw [List.perm_middle.length_eq, List.take_append_drop, List.length_cons] at h12
        exact unRem_any w E g c base l q ps s Aa na ca Ak nk ck h hok ht hm (by have := hk.1; omega) hx hk.2.1 hz hne hi (by omega) h12
/-- undone, where the step may be undone. -/
theorem undone_any (h : UnAt w E g c base l q ps) (hok : StpOk w (lt base) s Aa na ca Ak nk ck) (G : Good l) (G' : Good l') (hu : unD l s = some l') :
    Calls Tryz.prog 18 #[.pointer (some ⟨E, 0, none⟩), .agg (stpCells s Aa na ca Ak nk ck)] w (UnPost w E base q l') := by
  have hB : base ≤ w.heap.size := Nat.le_trans h.le (Nat.le_of_lt h.lt)
  unfold unD at hu
  split at hu
  · rename_i hd
    exact undone1 w E g c base l l' q ps s Aa na ca Ak nk ck h hd fun w0 hb => call_attr (h.next hb) (hok.below hb hB) G hu
  split at hu
  · rename_i hd
    exact undone2 w E g c base l l' q ps s Aa na ca Ak nk ck h hd fun w0 hb => call_drop (h.next hb) (hok.below hb hB) G' hu
  split at hu
  · rename_i hd
    exact undone3 w E g c base l l' q ps s Aa na ca Ak nk ck h hd fun w0 hb => call_text (h.next hb) (hok.below hb hB) G' hu
  split at hu
  · rename_i hd
    exact undone4 w E g c base l l' q ps s Aa na ca Ak nk ck h hd fun w0 hb => call_made (h.next hb) (hok.below hb hB) hu
  split at hu
  · rename_i hd
    exact undone5 w E g c base l l' q ps s Aa na ca Ak nk ck h hd fun w0 hb => call_ins (h.next hb) (hok.below hb hB) G hu
  split at hu
  · rename_i hd
    exact undone6 w E g c base l l' q ps s Aa na ca Ak nk ck h hd fun w0 hb => call_rem (h.next hb) (hok.below hb hB) G' hu
  · cases hu
end
end Go.Proofs.YtfeighclpaijoaaGreatDoor
