/-
The walks of package dom: up, Check.
-/
import Derived.Test.YtmemadajjmmlpaaDoorDomKids2
namespace Go.Proofs.YtmemadajjmmlpaaDoor
open Go.RowKit Go.Cl
attribute [local go_sem ↓] Go.wp_at_zero Go.wp_at_succ

theorem upF_go {l : List Nd} {f m : Nat} {x : Nd} {p : Nat} (hx : l[m]? = some x) (hp : x.parent = (p : Int)) : upF l (f + 1) (m : Int) = upF l f (p : Int) + 1 := by
  rw [upF, Int.toNat_natCast, map_at hx, hp]
  rw [if_pos (by omega)]
theorem upF_stop {l : List Nd} {f m : Nat} {x : Nd} (hx : l[m]? = some x) (hp : x.parent < 0) : upF l f (m : Int) = 0 := by
  cases f with
  | zero => rfl
  | succ f =>
    rw [upF, Int.toNat_natCast, map_at hx]
    rw [if_neg (by omega)]

set_option maxRecDepth 100000 in
set_option maxHeartbeats 1000000 in
theorem up_any (A : Option Addr) (n c : Nat) (l : List Nd) (q : Bool) (k : Nat) (w : World) (B : Nat) (hl : Sl tNd w (lt B) A n c l) (hB : B ≤ w.heap.size) (hn : n ≤ 200) (hk : k < n) (hpar : ∀ x ∈ l, x.parent < (n : Int)) :
    Calls Tryd.prog 55 #[.agg #[.slice A n c, .bool q], .int .i64 (k : Int)] w fun e w' => e = .returned (.int .i64 (upN l (k : Int))) ∧ Below w.heap.size w w' := by
  have HL := Lib.hid hl.hn
  have HP := Lib.hid hpar
  obtain ⟨b, o, rfl, hd⟩ := doc_at hl (by omega)
  have hcap : n ≤ c := hl.hc
  obtain ⟨w0, hw0⟩ : ∃ w0, w0 = w.alloc (.cells #[.slice (some ⟨b, o, none⟩) n c, .bool q] 24) := ⟨_, rfl⟩
  have bx : w0.cell? ⟨w.heap.size, 0, none⟩ = some (.slice (some ⟨b, o, none⟩) n c) := by rw [hw0]; exact cell_blk (heap_alloc_new w _) rfl
  have hb0 : Below w.heap.size w w0 := by rw [hw0]; exact (Below.refl _ _).alloc (Nat.le_refl _) _
  have HD := Lib.hid (hd.below hb0 hB)
  have HB0 := Lib.hid hb0
  clear hd hb0 hpar
  go_enter Tryd.func55, Tryd.ntmps55
  go_upto_region 1 with fail
  rw [← hw0]
  clear hw0
  go_loop [1, 4] (fun s t => ∃ (m many : Nat), m < n ∧ many ≤ n + 1 ∧ s = .int .i64 (m : Int) ∧ t = .int .i64 (many : Int) ∧ Hid (upN l (k : Int) = many + upF l (n + 1 - many) (m : Int))) (fun _ t => n + 1 - (intOf t).toNat)
  case atStart => exact ⟨k, 0, hk, Nat.zero_le _, rfl, rfl, Lib.hid (by unfold upN; rw [HL.out]; simp)⟩
  case round =>
    obtain ⟨m, many, hm, hmn, rfl, rfl, HU⟩ := hrel
    obtain ⟨x, hx⟩ : ∃ x, l[m]? = some x := get_some (by have := HL.out; omega)
    obtain ⟨_, _, _, _, _, _, _, _, _, _, _, c4, _⟩ := HD.out.at_ m x hx
    have hpx := HP.out x (List.mem_of_getElem? hx)
    have i1 : (0 : Int) ≤ (m : Int) := by omega
    have i2 : (m : Int) < (n : Int) := by omega
    by_cases hp0 : 0 ≤ x.parent
    · by_cases hmn2 : many ≤ n
      · obtain ⟨p, hp⟩ : ∃ p : Nat, x.parent = (p : Int) := ⟨x.parent.toNat, by omega⟩
        have HU2 := Lib.hid (show upN l (k : Int) = (many + 1 : Nat) + upF l (n + 1 - (many + 1)) (p : Int) from by
          rw [HU.out, show n + 1 - many = (n + 1 - (many + 1)) + 1 from by omega, upF_go hx hp]
          omega)
        have hpn : p < n := by omega
        rw [hp] at c4
        clear hx hp hp0 hpx
        go_wp2_with fail
        go_round
        case rel => exact ⟨p, many + 1, hpn, by omega, rfl, by go_num, HU2⟩
        case measure => simp [intOf]; omega
      · have HR := Lib.hid (show upN l (k : Int) = many from by rw [HU.out, show n + 1 - many = 0 from by omega]; rfl)
        clear hx
        go_wp2_with fail
        go_ret
        exact ⟨retI (by rw [HR.out]), HB0.out⟩
    · have HR := Lib.hid (show upN l (k : Int) = many from by rw [HU.out, upF_stop hx (by omega)]; rfl)
      clear hx
      go_wp2_with fail
      go_ret
      exact ⟨retI (by rw [HR.out]), HB0.out⟩

/-! ### what kids tells -/
/-- What has been marked. -/
structure KidsOk (l : List Nd) (i : Nat) (seen : List Bool) : Prop where
  len : seen.length = l.length
  kids : ∀ (j : Nat) x, j < i → l[j]? = some x → x.kids.Nodup ∧ ∀ k ∈ x.kids, ∃ m y, k = ((m : Nat) : Int) ∧ l[m]? = some y ∧ y.parent = (j : Int) ∧ ¬ (j = 0 ∧ y.kind = 3)
  marks : ∀ m : Nat, seen[m]? = some true → ∃ j x, j < i ∧ l[j]? = some x ∧ (m : Int) ∈ x.kids
/-- One list of kids, as far as it has gone. -/
structure KidsPart (l : List Nd) (i : Nat) (s0 seen : List Bool) (ks : List Int) : Prop where
  len : seen.length = l.length
  kids : ks.Nodup ∧ ∀ k ∈ ks, ∃ m y, k = ((m : Nat) : Int) ∧ l[m]? = some y ∧ y.parent = (i : Int) ∧ ¬ (i = 0 ∧ y.kind = 3) ∧ seen[m]? = some true
  marks : ∀ m : Nat, seen[m]? = some true → s0[m]? = some true ∨ (m : Int) ∈ ks
  keep : ∀ m : Nat, s0[m]? = some true → seen[m]? = some true
theorem kidE_facts {l : List Nd} {i : Nat} {seen : List Bool} {k : Int} (hs : seen.length = l.length) (h : kidE l i seen k = 0) : ∃ m y, k = ((m : Nat) : Int) ∧ l[m]? = some y ∧ y.parent = (i : Int) ∧ ¬ (i = 0 ∧ y.kind = 3) ∧ seen[m]? = some false := by
  unfold kidE at h
  by_cases h1 : k < 0 ∨ (l.length : Int) ≤ k
  · rw [if_pos h1] at h; cases h
  · rw [if_neg h1] at h
    obtain ⟨m, rfl⟩ : ∃ m : Nat, k = (m : Int) := ⟨k.toNat, by omega⟩
    obtain ⟨y, hy⟩ := get_some (l := l) (k := m) (by omega)
    obtain ⟨s, hss⟩ := get_some (l := seen) (k := m) (by omega)
    rw [Int.toNat_natCast, map_at hy, map_at hy, hss, Option.getD_some] at h
    by_cases h2 : y.parent ≠ (i : Int) ∨ s = true
    · rw [if_pos h2] at h; cases h
    · rw [if_neg h2] at h
      by_cases h3 : i = 0 ∧ y.kind = 3
      · rw [if_pos h3] at h; cases h
      · refine ⟨m, y, rfl, hy, by by_cases e : y.parent = (i : Int); exact e; exact absurd (Or.inl e) h2, h3, ?_⟩
        rw [hss]
        cases s with
        | true => exact absurd (Or.inr rfl) h2
        | false => rfl
theorem kidsF_part {l : List Nd} {i : Nat} {s0 : List Bool} (r : List Int) : ∀ (ks : List Int) (seen : List Bool), KidsPart l i s0 seen ks → (kidsF l i seen r).1 = 0 → KidsPart l i s0 (kidsF l i seen r).2 (ks ++ r) := by
  induction r with
  | nil => intro ks seen h _; rw [List.append_nil]; exact h
  | cons k r ih =>
    intro ks seen h h0
    rw [kidsF] at h0 ⊢
    by_cases he : kidE l i seen k = 0
    · rw [if_neg (by rw [he]; decide)] at h0 ⊢
      obtain ⟨m, y, rfl, hy, hp, h3, hs⟩ := kidE_facts h.len he
      rw [Int.toNat_natCast] at h0 ⊢
      have hm := (List.getElem?_eq_some_iff.1 hs).1
      have key : KidsPart l i s0 (seen.set m true) (ks ++ [(m : Int)]) := by
        refine ⟨by rw [List.length_set]; exact h.len, ⟨?_, ?_⟩, ?_, ?_⟩
        · rw [List.nodup_append]
          refine ⟨h.kids.1, by simp, ?_⟩
          intro a ha b hb e
          simp at hb
          subst hb
          subst e
          obtain ⟨m', y', e1, _, _, _, hs'⟩ := h.kids.2 _ ha
          have : m = m' := by omega
          subst this
          rw [hs] at hs'
          cases hs'
        · intro k' hk'
          rcases List.mem_append.1 hk' with hk' | hk'
          · obtain ⟨m', y', e1, a1, a2, a3, a4⟩ := h.kids.2 _ hk'
            refine ⟨m', y', e1, a1, a2, a3, ?_⟩
            rw [List.getElem?_set]
            split
            · rename_i e; subst e; simp
            · exact a4
          · simp at hk'
            subst hk'
            exact ⟨m, y, rfl, hy, hp, h3, by rw [List.getElem?_set_self hm]⟩
        · intro m' hm'
          rw [List.getElem?_set] at hm'
          split at hm'
          · rename_i e; subst e; exact Or.inr (by simp)
          · rcases h.marks m' hm' with a | a
            · exact Or.inl a
            · exact Or.inr (List.mem_append_left _ a)
        · intro m' hm'
          rw [List.getElem?_set]
          split
          · rename_i e; subst e; simp
          · exact h.keep m' hm'
      have := ih (ks ++ [(m : Int)]) (seen.set m true) key h0
      rwa [List.append_assoc] at this
    · rw [if_pos he] at h0
      exact absurd h0 he
theorem allKids_ok_of {l : List Nd} (r : List Nd) : ∀ (i : Nat) (seen : List Bool), l.drop i = r → KidsOk l i seen → (allKids l i seen r).1 = 0 → KidsOk l (i + r.length) (allKids l i seen r).2 := by
  induction r with
  | nil => intro i seen _ h _; exact h
  | cons x r ih =>
    intro i seen hd h h0
    have hx : l[i]? = some x := by
      have := List.getElem?_drop (xs := l) (i := i) (j := 0)
      rw [hd] at this
      simpa using this.symm
    have hd2 : l.drop (i + 1) = r := by
      have := congrArg (List.drop 1) hd
      rwa [List.drop_drop] at this
    rw [allKids] at h0 ⊢
    by_cases he : (kidsF l i seen x.kids).1 = 0
    · rw [if_neg (by rw [he]; decide)] at h0 ⊢
      have hpart := kidsF_part (l := l) (i := i) (s0 := seen) x.kids [] seen ⟨h.len, ⟨List.nodup_nil, fun k hk => by cases hk⟩, fun m hm => Or.inl hm, fun m hm => hm⟩ he
      rw [List.nil_append] at hpart
      have key : KidsOk l (i + 1) (kidsF l i seen x.kids).2 := by
        refine ⟨hpart.len, ?_, ?_⟩
        · intro j y hj hy
          by_cases e : j = i
          · subst e
            rw [hx] at hy
            obtain rfl := Option.some.inj hy
            exact ⟨hpart.kids.1, fun k hk => by
              obtain ⟨m, z, e1, a1, a2, a3, _⟩ := hpart.kids.2 k hk
              exact ⟨m, z, e1, a1, a2, a3⟩⟩
          · exact h.kids j y (by omega) hy
        · intro m hm
          rcases hpart.marks m hm with a | a
          · obtain ⟨j, y, hj, hy, hk⟩ := h.marks m a
            exact ⟨j, y, by omega, hy, hk⟩
          · exact ⟨i, x, by omega, hx, a⟩
      have := ih (i + 1) _ hd2 key h0
      rw [List.length_cons]
      rwa [show i + 1 + r.length = i + (r.length + 1) from by omega] at this
    · rw [if_pos he] at h0
      exact absurd h0 he
/-- What a document whose kids are right is like. -/
structure KidsRight (l : List Nd) : Prop where
  kids : ∀ (j : Nat) x, l[j]? = some x → x.kids.Nodup ∧ ∀ k ∈ x.kids, ∃ m y, k = ((m : Nat) : Int) ∧ l[m]? = some y ∧ y.parent = (j : Int) ∧ ¬ (j = 0 ∧ y.kind = 3)
  known : ∀ (m : Nat) y, l[m]? = some y → y.parent ≠ -1 → ∃ (j : Nat) (x : Nd), l[j]? = some x ∧ (m : Int) ∈ x.kids
  top : ∀ x, l[0]? = some x → x.parent = -1
theorem lost_none (seen : List Bool) (l : List Nd) (h : lostB seen l = false) (hs : seen.length = l.length) : ∀ (m : Nat) y, l[m]? = some y → y.parent ≠ -1 → seen[m]? = some true := by
  induction l generalizing seen with
  | nil => intro m y hy; simp at hy
  | cons x l ih =>
    cases seen with
    | nil => simp at hs
    | cons s t =>
      rw [lostB, Bool.or_eq_false_iff] at h
      intro m y hy hp
      cases m with
      | zero =>
        simp at hy
        subst hy
        have h1 := h.1
        have : (x.parent != -1) = true := by simpa using hp
        rw [this] at h1
        simp at h1
        simp [h1]
      | succ m =>
        simp at hy
        have := ih t h.2 (by simpa using hs) m y hy hp
        simpa using this
theorem kids_right {l : List Nd} (h0 : 0 < l.length) (h : kidsE l = 0) : KidsRight l := by
  unfold kidsE at h
  simp only at h
  by_cases h1 : (allKids l 0 (List.replicate l.length false) l).1 = 0
  · rw [if_neg (by rw [h1]; decide)] at h
    have hok := allKids_ok_of (l := l) l 0 (List.replicate l.length false) rfl ⟨by simp, fun j x hj => by omega, fun m hm => by
      have := (List.getElem?_eq_some_iff.1 hm).2
      simp at this⟩ h1
    rw [Nat.zero_add] at hok
    by_cases h2 : lostB (allKids l 0 (List.replicate l.length false) l).2 l = true
    · rw [if_pos h2] at h; cases h
    · rw [if_neg h2] at h
      by_cases h3 : (l.map Nd.parent).headD 0 ≠ -1
      · rw [if_pos h3] at h; cases h
      · refine ⟨fun j x hx => hok.kids j x (List.getElem?_eq_some_iff.1 hx).1 hx, fun m y hy hp => ?_, fun x hx => ?_⟩
        · obtain ⟨j, x, _, hx, hk⟩ := hok.marks m (lost_none _ _ (by simpa using h2) hok.len m y hy hp)
          exact ⟨j, x, hx, hk⟩
        · cases l with
          | nil => cases hx
          | cons z r =>
            have hz : z = x := by simpa using hx
            subst hz
            simpa using h3
  · rw [if_pos h1] at h
    exact absurd h h1
theorem KidsRight.parent_lt {l : List Nd} (h : KidsRight l) : ∀ x ∈ l, x.parent = -1 ∨ ∃ j y, x.parent = ((j : Nat) : Int) ∧ l[j]? = some y := by
  intro x hx
  by_cases hp : x.parent = -1
  · exact Or.inl hp
  · obtain ⟨m, hm⟩ := List.mem_iff_getElem?.1 hx
    obtain ⟨j, y, hy, hk⟩ := h.known m x hm hp
    obtain ⟨m', z, e, hz, hpz, _⟩ := (h.kids j y hy).2 _ hk
    have : m = m' := by omega
    subst this
    rw [hm] at hz
    obtain rfl := Option.some.inj hz
    exact Or.inr ⟨j, y, hpz, hy⟩
end Go.Proofs.YtmemadajjmmlpaaDoor
