/-
The common node of two, and what is within what. No program in sight.
-/
import Derived.Test.YtmemadajjmmlpaaDoorBeforeLaw
namespace Go.Proofs.YtmemadajjmmlpaaDoor
open Go.RowKit Go.Cl

/-- The last node that two ways down share. -/
def comF : Int → List Int → List Int → Int
  | p, x :: ps, y :: qs => if x = y then comF x ps qs else p
  | p, [], _ => p
  | p, _ :: _, [] => p
def withinS (l : List Nd) (a b : Int) : Bool × Int := if checkW l [a, b] ≠ 0 then (false, checkW l [a, b]) else ((pathL l a).contains b, 0)
def commonS (l : List Nd) (a b : Int) : Int × Int := if checkW l [a, b] ≠ 0 then (0, checkW l [a, b]) else (comF 0 (pathL l a) (pathL l b), 0)
theorem com_nil (p : Int) (ps : List Int) : comF p ps [] = p := by cases ps <;> rfl
theorem com_comm : ∀ (ps qs : List Int) (p : Int), comF p ps qs = comF p qs ps := by
  intro ps
  induction ps with
  | nil => intro qs p; rw [com_nil]; rfl
  | cons x ps ih =>
    intro qs p
    cases qs with
    | nil => rw [com_nil]; rfl
    | cons y qs =>
      rw [comF, comF]
      by_cases h : x = y
      · subst h
        rw [if_pos rfl, if_pos rfl, ih]
      · rw [if_neg h, if_neg (fun e => h e.symm)]
theorem com_mem : ∀ (ps qs : List Int) (p : Int), comF p ps qs ∈ p :: ps := by
  intro ps
  induction ps with
  | nil => intro qs p; simp [comF]
  | cons x ps ih =>
    intro qs p
    cases qs with
    | nil => simp [com_nil]
    | cons y qs =>
      rw [comF]
      by_cases h : x = y
      · subst h
        rw [if_pos rfl]
        exact List.mem_cons_of_mem _ (ih qs x)
      · rw [if_neg h]
        simp

theorem kids_part {l : List Nd} {b : Int} : ∀ (r : List Int) (x p a : Int), KidsTo l p (x :: r) a → b ∈ x :: r → ∃ r1, KidsTo l p (x :: r1) b := by
  intro r
  induction r with
  | nil =>
    intro x p a h hb
    obtain rfl : b = x := by simpa using hb
    exact ⟨[], h.1, rfl⟩
  | cons y r ih =>
    intro x p a h hb
    by_cases hbx : b = x
    · subst hbx
      exact ⟨[], h.1, rfl⟩
    · obtain ⟨r1, h1⟩ := ih y x a h.2 (by
        rcases List.mem_cons.1 hb with e | e
        · exact absurd e hbx
        · exact e)
      exact ⟨y :: r1, h.1, h1⟩
section
variable {l : List Nd} (T : Tree l)
include T
/-- On a way down one goes down. -/
theorem Tree.kids_deep : ∀ (r : List Int) (p : Nat) (m : Int), p < l.length → KidsTo l p r m → ∀ z ∈ r, ∃ n : Nat, z = (n : Int) ∧ n < l.length ∧ upN l p < upN l n := by
  intro r
  induction r with
  | nil => intro p m _ _ z hz; cases hz
  | cons x r ih =>
    intro p m hp h z hz
    obtain ⟨n, rfl, hn, hpar⟩ := T.kid hp h.1
    have hu := (T.up_par hn hpar).2
    rcases List.mem_cons.1 hz with rfl | hz
    · exact ⟨n, rfl, hn, by omega⟩
    · obtain ⟨q, e, hq, hd⟩ := ih n m hn h.2 z hz
      exact ⟨q, e, hq, by omega⟩
theorem Tree.path_app : ∀ (r : List Int) (p : Nat) (m : Int), p < l.length → KidsTo l p r m → pathL l m = pathL l p ++ r := by
  intro r
  induction r with
  | nil =>
    intro p m _ h
    rw [← show (p : Int) = m from h, List.append_nil]
  | cons x r ih =>
    intro p m hp h
    obtain ⟨n, rfl, hn, hpar⟩ := T.kid hp h.1
    have h0 : pathL l n = pathL l p ++ [(n : Int)] := by
      unfold pathL
      rw [T.chain_step hn, List.reverse_cons, hpar]
    rw [ih n m hn h.2, h0, List.append_assoc]
    rfl
/-- No kid of the common node is above both. -/
theorem Tree.com_kid : ∀ (r s : List Int) (p : Nat) (a b k : Int), p < l.length → KidsTo l p r a → KidsTo l p s b → k ∈ kidsD l (comF p r s) → k ∈ (p : Int) :: r → k ∈ (p : Int) :: s → False := by
  intro r
  induction r with
  | nil =>
    intro s p a b k hp ha hb hk h1 _
    have hk' : k ∈ kidsD l p := by simpa [comF] using hk
    obtain ⟨n, rfl, hn, hpar⟩ := T.kid hp hk'
    have hu := (T.up_par hn hpar).2
    have e : (n : Int) = p := by simpa using h1
    have e' : n = p := by omega
    subst e'
    omega
  | cons x r ih =>
    intro s p a b k hp ha hb hk h1 h2
    cases s with
    | nil =>
      rw [com_nil] at hk
      obtain ⟨n, rfl, hn, hpar⟩ := T.kid hp hk
      have hu := (T.up_par hn hpar).2
      have e : (n : Int) = p := by simpa using h2
      have e' : n = p := by omega
      subst e'
      omega
    | cons y s =>
      obtain ⟨nx, rfl, hnx, hpx⟩ := T.kid hp ha.1
      obtain ⟨ny, rfl, hny, hpy⟩ := T.kid hp hb.1
      have hux := (T.up_par hnx hpx).2
      have huy := (T.up_par hny hpy).2
      by_cases hxy : (nx : Int) = ny
      · rw [comF, if_pos hxy] at hk
        obtain rfl : nx = ny := by omega
        have hc := com_mem r s (nx : Int)
        obtain ⟨q, hq, hql, hqd⟩ : ∃ q : Nat, comF (nx : Int) r s = (q : Int) ∧ q < l.length ∧ upN l nx ≤ upN l q := by
          rcases List.mem_cons.1 hc with e | e
          · exact ⟨nx, e, hnx, Nat.le_refl _⟩
          · obtain ⟨q, e1, e2, e3⟩ := T.kids_deep r nx a hnx ha.2 _ e
            exact ⟨q, e1, e2, by omega⟩
        have hkp : k ≠ (p : Int) := fun e => by
          rw [hq] at hk
          obtain ⟨n, rfl, hn, hpar⟩ := T.kid hql hk
          have hu := (T.up_par hn hpar).2
          have : n = p := by omega
          subst this
          omega
        refine ih s nx a b k hnx ha.2 hb.2 hk ?_ ?_
        · rcases List.mem_cons.1 h1 with e | e
          · exact absurd e hkp
          · exact e
        · rcases List.mem_cons.1 h2 with e | e
          · exact absurd e hkp
          · exact e
      · rw [comF, if_neg hxy] at hk
        obtain ⟨n, rfl, hn, hpar⟩ := T.kid hp hk
        have hu := (T.up_par hn hpar).2
        have one : ∀ (z : Nat) (t : List Int) (m : Int), z < l.length → upN l z = upN l p + 1 → KidsTo l z t m → (n : Int) ∈ (p : Int) :: (z : Int) :: t → n = z := fun z t m hz huz hkt hm => by
          rcases List.mem_cons.1 hm with e | e
          · have : n = p := by omega
            subst this
            omega
          · rcases List.mem_cons.1 e with e | e
            · omega
            · obtain ⟨q, e1, _, e3⟩ := T.kids_deep t z m hz hkt _ e
              have : n = q := by omega
              subst this
              omega
        have e1 := one nx r a hnx hux ha.2 h1
        have e2 := one ny s b hny huy hb.2 h2
        omega
/-- One of the two is above the other just where it is the common one. -/
theorem Tree.com_within : ∀ (r s : List Int) (p : Nat) (a b : Int), p < l.length → KidsTo l p r a → KidsTo l p s b → (b ∈ (p : Int) :: r ↔ comF p r s = b) := by
  intro r
  induction r with
  | nil =>
    intro s p a b hp ha hb
    simp only [comF, List.mem_singleton]
    exact eq_comm
  | cons x r ih =>
    intro s p a b hp ha hb
    cases s with
    | nil =>
      obtain rfl : (p : Int) = b := hb
      simp [com_nil]
    | cons y s =>
      have hbp : b ≠ (p : Int) := fun e => by
        have hlast : b ∈ y :: s := by
          have : ∀ (t : List Int) (z w : Int), KidsTo l z (w :: t) b → b ∈ w :: t := by
            intro t
            induction t with
            | nil => intro z w h; have : w = b := h.2; simp [this]
            | cons u t iht => intro z w h; exact List.mem_cons_of_mem _ (iht w u h.2)
          exact this s p y hb
        obtain ⟨q, e1, _, e3⟩ := T.kids_deep (y :: s) p b hp hb _ hlast
        have : q = p := by omega
        subst this
        omega
      obtain ⟨nx, rfl, hnx, hpx⟩ := T.kid hp ha.1
      by_cases hxy : (nx : Int) = y
      · subst hxy
        rw [comF, if_pos rfl, ← ih s nx a b hnx ha.2 hb.2]
        constructor
        · intro h
          rcases List.mem_cons.1 h with e | e
          · exact absurd e hbp
          · exact e
        · exact List.mem_cons_of_mem _
      · rw [comF, if_neg hxy]
        constructor
        · intro h
          rcases List.mem_cons.1 h with e | e
          · exact e.symm
          · exfalso
            obtain ⟨r1, h1⟩ := kids_part r (nx : Int) p a ha e
            have e1 := T.path_app _ p b hp h1
            have e2 := T.path_app _ p b hp hb
            rw [e1] at e2
            have e3 := List.append_cancel_left e2
            simp only [List.cons.injEq] at e3
            exact hxy e3.1
        · intro e
          exact absurd e.symm hbp
end
/-- What WalkCommon asks, all at once. -/
structure ComLaw (l : List Nd) (a b c : Int) : Prop where
  fore : commonS l a b = (c, 0)
  back : commonS l b a = (c, 0)
  wa : withinS l a c = (true, 0)
  wb : withinS l b c = (true, 0)
  wab : withinS l a b = (c == b, 0)
  node : ∃ m : Nat, c = (m : Int) ∧ m < l.length
  kids : ∀ k ∈ kidsD l c, ∃ p q, withinS l a k = (p, 0) ∧ withinS l b k = (q, 0) ∧ (p && q) = false
theorem checkW_two {l : List Nd} (h : checkD l = 0) {a b : Nat} (ha : a < l.length) (hb : b < l.length) (ha0 : topR l a = 0) (hb0 : topR l b = 0) : checkW l [(a : Int), (b : Int)] = 0 := by
  unfold checkW
  rw [if_neg (by rw [h]; simp), if_neg, if_neg]
  · unfold looseB
    simp [ha0, hb0]
  · unfold outB
    simp
    omega
theorem com_bad {l : List Nd} {a b : Int} (h : checkW l [a, b] ≠ 0) : commonS l a b = (0, checkW l [a, b]) := by
  unfold commonS
  rw [if_pos h]
theorem com_law {l : List Nd} {a b : Int} (h : checkW l [a, b] = 0) : ∃ c, ComLaw l a b c := by
  obtain ⟨hc, hin⟩ := checkW_in h
  have T := tree_of hc
  obtain ⟨a, rfl, ha, ha0⟩ := hin a (by simp)
  obtain ⟨b, rfl, hb, hb0⟩ := hin b (by simp)
  obtain ⟨r, h1, h2⟩ := T.path_kids (upN l a + 1) a ha (by omega)
  obtain ⟨s, h3, h4⟩ := T.path_kids (upN l b + 1) b hb (by omega)
  rw [ha0] at h1 h2
  rw [hb0] at h3 h4
  have h00 : comF 0 (pathL l a) (pathL l b) = comF ((0 : Nat) : Int) r s := by
    rw [h1, h3, comF, if_pos rfl]
    rfl
  have hmA := com_mem r s ((0 : Nat) : Int)
  have hmB := com_mem s r ((0 : Nat) : Int)
  rw [← com_comm] at hmB
  have pin : ∀ (m : Nat), m < l.length → topR l m = 0 → ∀ x ∈ pathL l m, ∃ n : Nat, x = (n : Int) ∧ n < l.length ∧ topR l n = 0 := by
    have key : ∀ (f m : Nat), m < l.length → upN l m < f → ∀ x ∈ pathL l m, ∃ n : Nat, x = (n : Int) ∧ n < l.length ∧ topR l n = topR l m := by
      intro f
      induction f with
      | zero => intro m _ hf; omega
      | succ f ih =>
        intro m hm hf x hx
        unfold pathL at hx
        rw [T.chain_step hm, List.reverse_cons] at hx
        rcases List.mem_append.1 hx with hx | hx
        · rcases T.par hm with e | ⟨p, e, hp, _⟩
          · rw [e, chain_end] at hx; cases hx
          · rw [e] at hx
            obtain ⟨n, e1, e2, e3⟩ := ih p hp (by have := (T.up_par hm e).2; omega) x hx
            exact ⟨n, e1, e2, e3.trans (T.top_par hm hp e).symm⟩
        · obtain rfl : x = (m : Int) := by simpa using hx
          exact ⟨m, rfl, hm, rfl⟩
    intro m hm h0 x hx
    obtain ⟨n, e1, e2, e3⟩ := key (upN l m + 1) m hm (by omega) x hx
    exact ⟨n, e1, e2, e3.trans h0⟩
  have hcA : comF ((0 : Nat) : Int) r s ∈ pathL l a := by rw [h1]; exact hmA
  have hcB : comF ((0 : Nat) : Int) r s ∈ pathL l b := by rw [h3]; exact hmB
  obtain ⟨m, hm, hml, hm0⟩ := pin a ha ha0 _ hcA
  have wi : ∀ (x y : Nat), x < l.length → y < l.length → topR l x = 0 → topR l y = 0 → withinS l x y = ((pathL l x).contains (y : Int), 0) := fun x y hx hy hx0 hy0 => by
    unfold withinS
    rw [if_neg (by rw [checkW_two hc hx hy hx0 hy0]; simp)]
  refine ⟨comF ((0 : Nat) : Int) r s, ?_, ?_, ?_, ?_, ?_, ⟨m, hm, hml⟩, ?_⟩
  · unfold commonS
    rw [if_neg (by rw [h]; simp), h00]
  · unfold commonS
    rw [← checkW_comm l a b, if_neg (by rw [h]; simp), com_comm, h00]
  · rw [hm, wi a m ha hml ha0 hm0, ← hm]
    simpa using hcA
  · rw [hm, wi b m hb hml hb0 hm0, ← hm]
    simpa using hcB
  · rw [wi a b ha hb ha0 hb0, h1]
    have := T.com_within r s 0 a b T.pos h2 h4
    congr 1
    rw [Bool.eq_iff_iff, List.contains_iff_mem, beq_iff_eq]
    exact this
  · intro k hk
    rw [hm] at hk
    obtain ⟨n, rfl, hn, hp⟩ := T.kid hml hk
    have hn0 : topR l n = 0 := (T.top_par hn hml hp).trans hm0
    refine ⟨_, _, wi a n ha hn ha0 hn0, wi b n hb hn hb0 hn0, ?_⟩
    rw [← hm] at hk
    by_cases hpa : (n : Int) ∈ pathL l a
    · by_cases hpb : (n : Int) ∈ pathL l b
      · rw [h1] at hpa
        rw [h3] at hpb
        exact (T.com_kid r s 0 a b n T.pos h2 h4 hk hpa hpb).elim
      · have : (pathL l b).contains (n : Int) = false := by simpa using hpb
        rw [this, Bool.and_false]
    · have : (pathL l a).contains (n : Int) = false := by simpa using hpa
      rw [this, Bool.false_and]
end Go.Proofs.YtmemadajjmmlpaaDoor
