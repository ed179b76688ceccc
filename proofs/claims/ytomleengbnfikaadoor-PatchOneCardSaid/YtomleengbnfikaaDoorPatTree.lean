/-
Patches, where one node has turned: what node tells of a tree.
-/
import Derived.Test.YtomleengbnfikaaDoorPatNode
namespace Go.Proofs.YtomleengbnfikaaDoor
open Go.RowKit Go.Cl

section
variable {l l' : List Nd} {t : Nat} {x x' : Nd} (H : Turned l l' t x x')
include H
theorem Turned.worth {f j : Nat} (hj : j < l.length) (hf : upN l j + f = 41) : wthF l l' f j j = 2 ∨ ((t : Int) ∈ preR l j ∧ wthF l l' f j j = 1) := by
  obtain ⟨y, y', hy, hy', hk, hn, _⟩ := H.nodes hj
  have hkin : kinB y y' = true := kin_iff.2 ⟨hk.symm, hn.symm⟩
  by_cases hl : Like l l' f j j
  · exact .inl (wth_two hy hy' hkin hl)
  · refine .inr ⟨?_, wth_one hy hy' hkin hl⟩
    by_cases hm : (t : Int) ∈ preR l j
    · exact hm
    · exact absurd (H.like f j hj hf hm) hl
theorem Turned.diag {n f : Nat} {y : Nd} (hn : n < l.length) (hy : l[n]? = some y) (hf : upN l n + (f + 1) = 41) : ∀ k, k < y.kids.length → Diag (Wk l l' f y.kids y.kids) (dpF (Wk l l' f y.kids y.kids) y.kids.length y.kids.length) k := by
  have T := tree_of (check_of H.good)
  have hkids : kidsD l n = y.kids := kidsD_at hy
  have hkid : ∀ (j : Nat) z, y.kids[j]? = some z → ∃ p : Nat, z = (p : Int) ∧ p < l.length ∧ upN l p + f = 41 := fun j z hz => by
    obtain ⟨p, e, hp, hpar⟩ := T.kid hn (by rw [hkids]; exact List.mem_of_getElem? hz)
    exact ⟨p, e, hp, by have := (T.up_par hp hpar).2; omega⟩
  have hu := T.pre_uniq hn
  rw [T.pre_step hn, hkids] at hu
  obtain ⟨_, h2⟩ := List.nodup_cons.1 hu
  obtain ⟨h3, h4⟩ := flat_nodup h2 (by rw [← hkids]; exact T.kid_self hn)
  obtain ⟨s, hs⟩ : ∃ s : Nat, ∀ (j : Nat) z, y.kids[j]? = some z → (t : Int) ∈ preR l z → j = s := by
    by_cases hex : ∃ (j : Nat) (z : Int), y.kids[j]? = some z ∧ (t : Int) ∈ preR l z
    · obtain ⟨s, z, hz, ht⟩ := hex
      refine ⟨s, fun j u hu2 ht2 => ?_⟩
      have e := h4 t u z (List.mem_of_getElem? hu2) (List.mem_of_getElem? hz) ht2 ht
      subst e
      exact (List.getElem?_inj (List.getElem?_eq_some_iff.1 hu2).1 h3).1 (hu2.trans hz.symm)
    · exact ⟨0, fun j z hz ht => absurd ⟨j, z, hz, ht⟩ hex⟩
  intro k hk
  refine dp_same (s := s) (fun i k => (wk_le _ _ _ _ _ _ _).2) (fun j hj => ?_) hk
  obtain ⟨z, hz⟩ : ∃ z, y.kids[j]? = some z := get_some hj
  obtain ⟨p, rfl, hp, hpf⟩ := hkid j z hz
  unfold Wk
  rw [hz]
  rcases H.worth hp hpf with h | ⟨h5, h⟩
  · exact .inl h
  · exact .inr ⟨hs j _ hz h5, h⟩
/-- What node tells: the turned node's edits, if it lies below. -/
theorem dnode_turned (base E b1 o1 n1 c1 b2 o2 n2 c2 : Nat) (q1 q2 : Bool) (mm : Int) (hn1 : n1 ≤ c1) (hn2 : n2 ≤ c2) (hs1 : n1 ≤ 1000) (hs2 : n2 ≤ 1000) (B : Nat) (hB : B ≤ base) (f : Nat) : ∀ (n : Nat) (w : World) (v : Value) (es : List Edt), n < l.length → upN l n + f = 41 → DocAt w B b1 o1 n1 l → DocAt w B b2 o2 n2 l' → Df w base E (some ⟨b1, o1, none⟩) n1 c1 q1 (some ⟨b2, o2, none⟩) n2 c2 q2 v es mm → es.length + f ≤ 1041 →
    Calls Tryd.prog 18 #[.pointer (some ⟨E, 0, none⟩), .int .i64 (n : Int), .int .i64 (n : Int)] w fun e' w' => e' = .returned undef ∧ DStep w base E (some ⟨b1, o1, none⟩) n1 c1 q1 (some ⟨b2, o2, none⟩) n2 c2 q2 v (es ++ outT l t (ownE t x x') n) mm w' := by
  have T := tree_of (check_of H.good)
  have T2 := tree_of (check_of H.good2)
  induction f with
  | zero => intro n w v es hn h; have := (T.deep n hn).1; omega
  | succ f ih =>
    intro n w v es hn hf hd1 hd2 hdf hle
    obtain ⟨y, y', hy, hy', hk, hnm, hkids, hla, hlb, hown⟩ := H.nodes hn
    have hyo := (nodeE_iff y).1 (H.good.each y (List.mem_of_getElem? hy))
    have hyo' := (nodeE_iff y').1 (H.good2.each y' (List.mem_of_getElem? hy'))
    have hkD : kidsD l n = y.kids := kidsD_at hy
    have hkid : ∀ z ∈ y.kids, ∃ p : Nat, z = (p : Int) ∧ p < l.length ∧ upN l p + f = 41 := fun z hz => by
      obtain ⟨p, e, hp, hpar⟩ := T.kid hn (by rw [hkD]; exact hz)
      exact ⟨p, e, hp, by have := (T.up_par hp hpar).2; omega⟩
    have hlen := H.len
    have hkl : y.kids.length ≤ 1000 := by
      have := H.good.kids_few hy
      omega
    obtain ⟨M, hM⟩ : ∃ M, y.kids.length = M := ⟨_, rfl⟩
    have hpart : ∀ k, ((ownE (n : Int) y y') ++ (y.kids.reverse.take k).flatMap (outT l t (ownE t x x'))).length ≤ 1 := fun k => by
      have h1 := T.out_step (E := ownE t x x') (t := t) hn
      rw [← hown, hkD] at h1
      have h2 : (outT l t (ownE t x x') n).length ≤ 1 := by
        unfold outT
        split
        · exact H.few
        · exact Nat.zero_le _
      rw [← h1] at h2
      refine Nat.le_trans ?_ h2
      rw [List.length_append, List.length_append]
      have h3 : (y.kids.reverse.take k).flatMap (outT l t (ownE t x x')) ++ (y.kids.reverse.drop k).flatMap (outT l t (ownE t x x')) = y.kids.reverse.flatMap (outT l t (ownE t x x')) := by
        rw [← List.flatMap_append, List.take_append_drop]
      rw [← h3, List.length_append]
      omega
    have h := dnode_gen T T2 base E b1 o1 n1 c1 b2 o2 n2 c2 q1 q2 v es mm hn1 hn2 f n n y y' w B hy hy' hd1 hd2 hB hs1 hs2 hdf (by omega)
      hkid (fun z hz => by rw [hkids] at hz; obtain ⟨p, e, hp, _⟩ := hkid z hz; exact ⟨p, e, by omega⟩) (by rw [hkids]; exact Nat.le_refl _) (by rw [hkids]; exact hkl) (Nat.le_trans hyo.2.2.1.few (by decide)) (Nat.le_trans hyo'.2.2.1.few (by decide)) hla hlb (Nat.le_trans hyo'.2.2.2.1 (by decide)) (by rw [hkids]; exact H.diag hn hy hf)
      (fun k => es ++ ((ownE (n : Int) y y') ++ (y.kids.reverse.take k).flatMap (outT l t (ownE t x x')))) (fun _ => mm) (fun k => if k = 0 then -1 else outF y.kids (M - k)) (by simp) rfl rfl (fun k hkk => ?_)
    · refine h.mono fun e' w' hh => ⟨hh.1, ?_⟩
      have h1 := T.out_step (E := ownE t x x') (t := t) hn
      rw [← hown, hkD] at h1
      have h2 := hh.2
      rw [hkids, ← List.length_reverse, List.take_length, h1] at h2
      exact h2
    · rw [hkids] at hkk ⊢
      left
      obtain ⟨z, hz⟩ : ∃ z, y.kids[y.kids.length - 1 - k]? = some z := get_some (by omega)
      obtain ⟨p, rfl, hp, hpf⟩ := hkid z (List.mem_of_getElem? hz)
      have hout : outF y.kids (y.kids.length - 1 - k) = (p : Int) := by unfold outF; rw [hz]; rfl
      have hrev : y.kids.reverse[k]? = some (p : Int) := by rw [List.getElem?_reverse hkk]; exact hz
      rw [hout, hz]
      refine ⟨by omega, ?_, fun W v' hb hd => ?_⟩
      · show (if k + 1 = 0 then (-1 : Int) else _) = _
        rw [if_neg (by omega), ← hM, show y.kids.length - (k + 1) = y.kids.length - 1 - k from by omega, hout]
      · have h1 := ih p W v' _ hp hpf (hd1.below hb hB) (hd2.below hb hB) hd (by
          rw [List.length_append]
          have := hpart k
          omega)
        refine h1.mono fun e' w' hh => ⟨hh.1, ?_⟩
        have h2 := hh.2
        rw [List.append_assoc] at h2
        have h3 : (y.kids.reverse.take (k + 1)).flatMap (outT l t (ownE t x x')) = (y.kids.reverse.take k).flatMap (outT l t (ownE t x x')) ++ outT l t (ownE t x x') (p : Int) := by
          rw [take_snoc hrev, List.flatMap_append]
          simp
        show DStep _ _ _ _ _ _ _ _ _ _ _ _ (es ++ (_ ++ (y.kids.reverse.take (k + 1)).flatMap _)) _ _
        rw [h3, ← List.append_assoc (ownE (n : Int) y y')]
        exact h2
end
end Go.Proofs.YtomleengbnfikaaDoor
