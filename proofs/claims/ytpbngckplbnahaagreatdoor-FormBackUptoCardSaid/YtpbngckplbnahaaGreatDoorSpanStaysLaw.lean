/-
Ranges stay ranges, whatever is edited: the plain law. No program in sight.
-/
import Derived.Test.YtpbngckplbnahaaGreatDoorSpanB
namespace Go.Proofs.YtpbngckplbnahaaGreatDoor
open Go.RowKit Go.Cl

/-- A node of the tree. -/
inductive Tr (l : List Nd) : Nat → Prop
  | root : 0 < l.length → Tr l 0
  | step {m p : Nat} : m < l.length → parD l m = (p : Int) → Tr l p → Tr l m
theorem Tr.lt {l : List Nd} {m : Nat} (h : Tr l m) : m < l.length := by
  cases h with
  | root h => exact h
  | step h _ _ => exact h
theorem Tree.tr_of {l : List Nd} (T : Tree l) (f : Nat) : ∀ m : Nat, m < l.length → upN l m < f → topR l m = 0 → Tr l m := by
  induction f with
  | zero => intro m _ h; omega
  | succ f ih =>
    intro m hm hf ht
    rcases Nat.eq_zero_or_pos m with h0 | h0
    · subst h0; exact Tr.root hm
    · rcases T.par hm with e | ⟨p, e, hp, _⟩
      · have := T.top_loose2 hm e
        omega
      · have h1 := (T.up_par hm e).2
        exact Tr.step hm e (ih p hp (by omega) ((T.top_par hm hp e).symm.trans ht))
theorem Tree.top_tr {l : List Nd} (T : Tree l) {m : Nat} (h : Tr l m) : topR l m = 0 := by
  induction h with
  | root h => exact T.top_loose2 h T.root
  | step h e hp ih => exact (T.top_par h hp.lt e).trans ih
/-- Kid by kid, from the root down. -/
def downP (l : List Nd) (n : Nat) : List Int := (stepsR l n).reverse
theorem down_root {l : List Nd} (T : Tree l) : downP l 0 = [] := by
  unfold downP
  rw [show ((0 : Nat) : Int) = 0 from rfl, steps_root T]; rfl
theorem Tree.down_step {l : List Nd} (T : Tree l) {m p : Nat} (hm : m < l.length) (e : parD l m = (p : Int)) : downP l m = downP l p ++ [2 * Lib.idxOf (kidsD l p) m + 1] := by
  have h0 : 0 < m := by
    rcases Nat.eq_zero_or_pos m with h0 | h0
    · subst h0
      have := T.root
      rw [show ((0 : Nat) : Int) = 0 from rfl] at e
      omega
    · exact h0
  unfold downP
  rw [T.steps_up hm h0, e, List.reverse_cons]
theorem path_down (l : List Nd) (m : Nat) (a : Int) : pathP l ⟨m, a⟩ = downP l m ++ [2 * a] := by
  unfold pathP downP
  rw [List.reverse_cons]
theorem Tree.down_inj {l : List Nd} (T : Tree l) {m n : Nat} (hm : Tr l m) (hn : Tr l n) (h : downP l m = downP l n) : m = n :=
  T.steps_inj _ m n hm.lt hn.lt (Nat.lt_succ_self _) (T.top_tr hm) (T.top_tr hn) (List.reverse_inj.1 h)
theorem steps_odd (l : List Nd) : ∀ (f : Nat) (z x : Int), x ∈ stepsF l f z → x % 2 = 1 := by
  intro f
  induction f with
  | zero => intro z x h; cases h
  | succ f ih =>
    intro z x h
    rw [stepsF] at h
    by_cases hz : z ≤ 0
    · rw [if_pos hz] at h; cases h
    · rw [if_neg hz] at h
      rcases List.mem_cons.1 h with rfl | h
      · omega
      · exact ih _ x h
theorem down_odd (l : List Nd) (m : Nat) : ∀ x ∈ downP l m, x % 2 = 1 := fun x hx => steps_odd l _ _ x (List.mem_reverse.1 hx)

/-- One step of a way down turned. -/
def atF (f : Int → Int) : List Int → List Int → List Int
  | _, [] => []
  | [], x :: r => f x :: r
  | a :: s, b :: r => if a = b then b :: atF f s r else b :: r
theorem atF_nil (f : Int → Int) (s : List Int) : atF f s [] = [] := by cases s <;> rfl
theorem atF_snoc (f : Int → Int) : ∀ (s π : List Int) (v : Int), atF f s (π ++ [v]) = atF f s π ++ [if π = s then f v else v]
  | [], [], v => by simp [atF]
  | [], x :: r, v => by simp [atF]
  | a :: s, [], v => by
    by_cases h : a = v
    · simp [atF, h, atF_nil]
    · simp [atF, h]
  | a :: s, b :: r, v => by
    by_cases h : a = b
    · subst h
      simp only [List.cons_append, atF, if_pos]
      rw [atF_snoc f s r v]
      simp
    · have h2 : ¬ b = a := fun e => h e.symm
      simp [atF, h, h2]
theorem atF_self (f : Int → Int) : ∀ s : List Int, atF f s s = s
  | [] => rfl
  | a :: s => by rw [atF, if_pos rfl, atF_self f s]
theorem cmpL_atF {f : Int → Int} (hf : ∀ x y, cmpI (f x) (f y) = cmpI x y) : ∀ s a b : List Int, cmpL (atF f s a) (atF f s b) = cmpL a b
  | s, [], [] => by rw [atF_nil]
  | [], [], y :: t => by rw [atF_nil]; rfl
  | c :: s, [], y :: t => by
    rw [atF_nil, atF]
    split <;> rfl
  | [], x :: r, [] => by rw [atF_nil]; rfl
  | c :: s, x :: r, [] => by
    rw [atF_nil, atF]
    split <;> rfl
  | [], x :: r, y :: t => by
    rw [atF, atF, cmpL, cmpL, hf]
  | c :: s, x :: r, y :: t => by
    rw [atF, atF, cmpL]
    by_cases h1 : c = x
    · subst h1
      by_cases h2 : c = y
      · subst h2
        rw [if_pos rfl, if_pos rfl, cmpL, cmpI_self, if_neg (by simp), if_neg (by simp)]
        exact cmpL_atF hf s r t
      · rw [if_pos rfl, if_neg h2, cmpL]
        have : cmpI c y ≠ 0 := fun e => h2 (cmpI_zero e)
        rw [if_pos this, if_pos this]
    · by_cases h2 : c = y
      · subst h2
        rw [if_neg h1, if_pos rfl, cmpL]
        have : cmpI x c ≠ 0 := fun e => h1 (cmpI_zero e).symm
        rw [if_pos this, if_pos this]
      · rw [if_neg h1, if_neg h2, cmpL]
/-- If what is kept keeps its parent, and its place among the kids turns by f at one parent alone, then ways down turn so. -/
theorem down_at {l l' : List Nd} (T : Tree l) (T' : Tree l') (s : List Int) (f : Int → Int) (K : Nat → Prop) (hK : ∀ n p : Nat, K n → parD l n = (p : Int) → K p)
    (hp : ∀ n p : Nat, K n → Tr l p → n < l.length → parD l n = (p : Int) → n < l'.length ∧ parD l' n = (p : Int) ∧ 2 * Lib.idxOf (kidsD l' p) n + 1 = if downP l p = s then f (2 * Lib.idxOf (kidsD l p) n + 1) else 2 * Lib.idxOf (kidsD l p) n + 1) :
    ∀ n, Tr l n → K n → Tr l' n ∧ downP l' n = atF f s (downP l n) := by
  intro n h
  induction h with
  | root _ =>
    intro _
    rw [down_root T, down_root T', atF_nil]
    exact ⟨Tr.root T'.pos, rfl⟩
  | @step m p hm e ht ih =>
    intro k
    obtain ⟨h1, h2⟩ := ih (hK m p k e)
    obtain ⟨h3, h4, h5⟩ := hp m p k ht hm e
    refine ⟨Tr.step h3 h4 h1, ?_⟩
    rw [T.down_step hm e, T'.down_step h3 h4, atF_snoc, h2, h5]
theorem order_down (l : List Nd) (m n : Nat) (a b : Int) : orderR l ⟨m, a⟩ ⟨n, b⟩ = cmpL (downP l m ++ [2 * a]) (downP l n ++ [2 * b]) := by
  rw [orderR_path, path_down, path_down]
/-- A point that may be. -/
theorem ptE_of {l : List Nd} {m : Nat} {a : Int} (T : Tree l) (h : Tr l m) (h0 : 0 ≤ a) (h1 : a ≤ (roomD l m : Int)) : ptE l ⟨m, a⟩ = 0 := by
  have h2 := h.lt
  have h3 := T.top_tr h
  unfold ptE
  simp only
  rw [if_neg (by omega), if_neg (by rw [h3]; simp)]
theorem pt_tr {l : List Nd} (T : Tree l) {p : Pt} (h : ptE l p = 0) : ∃ (m : Nat) (a : Int), p = ⟨m, a⟩ ∧ Tr l m ∧ 0 ≤ a ∧ a ≤ (roomD l m : Int) := by
  obtain ⟨m, e, hm, h1, h2, h3⟩ := pt_ok h
  obtain ⟨pn, pa⟩ := p
  simp only at e h1 h2
  subst e
  exact ⟨m, pa, rfl, T.tr_of _ m hm (Nat.lt_succ_self _) h3, h1, h2⟩
theorem room_at {l : List Nd} {m : Nat} {x : Nd} (h : l[m]? = some x) : roomD l m = if x.kind = 3 ∨ x.kind = 4 then x.text.size else x.kids.length := by
  unfold roomD
  rw [Int.toNat_natCast, h]
theorem cmpI_of_lt {f : Int → Int} (hf : ∀ x y, x < y → f x < f y) (x y : Int) : cmpI (f x) (f y) = cmpI x y := by
  unfold cmpI
  by_cases h1 : x < y
  · rw [if_pos h1, if_pos (hf x y h1)]
  · by_cases h2 : y < x
    · have := hf y x h2
      rw [if_neg h1, if_pos h2, if_neg (by omega), if_pos this]
    · have : x = y := by omega
      subst this
      rw [if_neg (by omega), if_neg (by omega), if_neg (by omega), if_neg (by omega)]
theorem spanS_zero {l : List Nd} {a b : Pt} : spanS l a b = 0 ↔ checkD l = 0 ∧ ptE l a = 0 ∧ ptE l b = 0 ∧ orderR l a b ≤ 0 := by
  unfold spanS
  constructor
  · intro h
    by_cases h1 : ptsS l [a, b] ≠ 0
    · rw [if_pos h1] at h; exact absurd h h1
    · rw [if_neg h1] at h
      obtain ⟨hc, ha, hb⟩ := ptsS_two.1 (by simpa using h1)
      by_cases h2 : 0 < orderR l a b
      · rw [if_pos h2] at h; cases h
      · exact ⟨hc, ha, hb, by omega⟩
  · rintro ⟨hc, ha, hb, ho⟩
    have := ptsS_two.2 ⟨hc, ha, hb⟩
    rw [if_neg (by rw [this]; simp), if_neg (by omega)]

/-! ### where a point goes -/
def movedP (l : List Nd) (p : Pt) (e : Edt) : Pt :=
  if e.do_ = 5 then (if p.node = e.at_ ∧ insAt (kidsD l e.at_) e.before < p.at_ then ⟨p.node, p.at_ + 1⟩ else p)
  else if e.do_ = 6 then (if belowB l p.node e.at_ = true then ⟨parD l e.at_, Lib.idxOf (kidsD l (parD l e.at_)) e.at_⟩
    else if p.node = parD l e.at_ ∧ Lib.idxOf (kidsD l (parD l e.at_)) e.at_ < p.at_ then ⟨p.node, p.at_ - 1⟩ else p)
  else if e.do_ = 3 then (if p.node = e.at_ then ⟨p.node, min p.at_ (e.value.size : Int)⟩ else p)
  else p

/-! ### what changes no tree -/
theorem stays_same {l l' : List Nd} (T : Tree l) (T' : Tree l') (hs : ∀ (n : Nat) x, l[n]? = some x → ∃ x', l'[n]? = some x' ∧ x'.parent = x.parent ∧ x'.kids = x.kids ∧ x'.kind = x.kind ∧ (x'.text.size = x.text.size)) {a b : Pt} (hc : checkD l' = 0) (h : spanS l a b = 0) : spanS l' a b = 0 := by
  obtain ⟨_, ha, hb, ho⟩ := spanS_zero.1 h
  obtain ⟨m, i, rfl, tm, i0, i1⟩ := pt_tr T ha
  obtain ⟨n, j, rfl, tn, j0, j1⟩ := pt_tr T hb
  have key := down_at T T' [] id (fun _ => True) (fun _ _ _ _ => trivial) (fun n p _ hp hn e => by
    obtain ⟨x, hx⟩ := get_some hn
    obtain ⟨x', hx', h1, h2, _⟩ := hs n x hx
    obtain ⟨y, hy⟩ := get_some hp.lt
    obtain ⟨y', hy', g1, g2, _⟩ := hs p y hy
    refine ⟨(List.getElem?_eq_some_iff.1 hx').1, ?_, ?_⟩
    · rw [parD_at hx', h1, ← parD_at hx]; exact e
    · rw [kidsD_at hy', g2, ← kidsD_at hy]
      simp)
  have room : ∀ k : Nat, k < l.length → roomD l' k = roomD l k := fun k hk => by
    obtain ⟨x, hx⟩ := get_some hk
    obtain ⟨x', hx', _, h2, h3, h4⟩ := hs k x hx
    rw [room_at hx, room_at hx', h2, h3, h4]
  have idF : ∀ s π : List Int, atF id s π = π := by
    intro s
    induction s with
    | nil => intro π; cases π <;> rfl
    | cons a s ih =>
      intro π
      cases π with
      | nil => rfl
      | cons b r =>
        rw [atF]
        by_cases h : a = b
        · rw [if_pos h, ih]
        · rw [if_neg h]
  obtain ⟨tm', dm⟩ := key m tm trivial
  obtain ⟨tn', dn⟩ := key n tn trivial
  rw [idF] at dm dn
  refine spanS_zero.2 ⟨hc, ptE_of T' tm' i0 (by rw [room m tm.lt]; exact i1), ptE_of T' tn' j0 (by rw [room n tn.lt]; exact j1), ?_⟩
  rw [order_down, dm, dn, ← order_down]
  exact ho

/-! ### a way down, turned behind one node -/
def atS (h : List Int → List Int) : List Int → List Int → List Int
  | [], π => h π
  | _ :: _, [] => []
  | a :: s, b :: r => if a = b then b :: atS h s r else b :: r
def hdF (f : Int → Int) : List Int → List Int
  | [] => []
  | x :: r => f x :: r
def hdG (i : Int) : List Int → List Int
  | [] => []
  | x :: r => if x = 2 * i + 1 then [2 * i] else (if 2 * i + 1 < x then x - 2 else x) :: r
theorem atF_S (f : Int → Int) : ∀ s π : List Int, atF f s π = atS (hdF f) s π
  | [], [] => rfl
  | [], _ :: _ => rfl
  | _ :: _, [] => rfl
  | a :: s, b :: r => by
    rw [atF, atS]
    by_cases h : a = b
    · rw [if_pos h, if_pos h, atF_S f s r]
    · rw [if_neg h, if_neg h]
theorem atS_app (h : List Int → List Int) : ∀ s r : List Int, atS h s (s ++ r) = s ++ h r
  | [], _ => rfl
  | a :: s, r => by rw [List.cons_append, atS, if_pos rfl, atS_app h s r, List.cons_append]
theorem atS_G {i : Int} : ∀ {s π : List Int}, (∀ r, π ≠ s ++ (2 * i + 1) :: r) → atS (hdG i) s π = atF (fun v => if 2 * i + 1 < v then v - 2 else v) s π
  | [], [], _ => rfl
  | [], x :: r, h => by
    have : x ≠ 2 * i + 1 := fun e => h r (by rw [e]; rfl)
    show (if x = 2 * i + 1 then [2 * i] else (if 2 * i + 1 < x then x - 2 else x) :: r) = _
    rw [if_neg this]; rfl
  | _ :: _, [], _ => rfl
  | a :: s, b :: r, h => by
    rw [atF, atS]
    by_cases e : a = b
    · subst e
      rw [if_pos rfl, if_pos rfl, atS_G (fun q e => h q (by rw [e]; rfl))]
    · rw [if_neg e, if_neg e]
theorem cmpL_nil (ρ : List Int) : cmpL [] ρ ≤ 0 := by
  cases ρ with
  | nil => exact Int.le_refl _
  | cons => show (-1 : Int) ≤ 0; decide
theorem atS_mono {h : List Int → List Int} {V : List Int → Prop} (hm : ∀ π ρ, V π → V ρ → cmpL π ρ ≤ 0 → cmpL (h π) (h ρ) ≤ 0) :
    ∀ s π ρ : List Int, (∀ r, π = s ++ r → V r) → (∀ r, ρ = s ++ r → V r) → cmpL π ρ ≤ 0 → cmpL (atS h s π) (atS h s ρ) ≤ 0
  | [], π, ρ, v1, v2, g => hm π ρ (v1 π rfl) (v2 ρ rfl) g
  | c :: s, [], ρ, _, _, _ => cmpL_nil _
  | c :: s, x :: r, [], _, _, g => absurd (show (1 : Int) ≤ 0 from g) (by decide)
  | c :: s, x :: r, y :: t, v1, v2, g => by
    rw [atS, atS]
    rw [cmpL] at g
    by_cases h1 : c = x
    · subst h1
      by_cases h2 : c = y
      · subst h2
        rw [cmpI_self, if_neg (by simp)] at g
        rw [if_pos rfl, if_pos rfl, cmpL, cmpI_self, if_neg (by simp)]
        exact atS_mono hm s r t (fun q e => v1 q (by rw [e]; rfl)) (fun q e => v2 q (by rw [e]; rfl)) g
      · have : cmpI c y ≠ 0 := fun e => h2 (cmpI_zero e)
        rw [if_pos this] at g
        rw [if_pos rfl, if_neg h2, cmpL, if_pos this]
        exact g
    · by_cases h2 : c = y
      · subst h2
        have : cmpI x c ≠ 0 := fun e => h1 (cmpI_zero e).symm
        rw [if_pos this] at g
        rw [if_neg h1, if_pos rfl, cmpL, if_pos this]
        exact g
      · rw [if_neg h1, if_neg h2, cmpL]
        exact g
theorem cmpI_le {x y : Int} (h : x ≤ y) : cmpI x y ≤ 0 := by
  unfold cmpI
  split
  · decide
  · rw [if_neg (by omega)]; decide
theorem cmpI_le_iff {x y : Int} : cmpI x y ≤ 0 ↔ x ≤ y := by
  refine ⟨fun h => ?_, cmpI_le⟩
  unfold cmpI at h
  by_cases h1 : x < y
  · omega
  · rw [if_neg h1] at h
    by_cases h2 : y < x
    · rw [if_pos h2] at h; exact absurd h (by decide)
    · omega
theorem cmpL_head {x y : Int} {r t : List Int} (h : cmpL (x :: r) (y :: t) ≤ 0) : x ≤ y := by
  rw [cmpL] at h
  by_cases h1 : cmpI x y = 0
  · have := cmpI_zero h1; omega
  · rw [if_pos h1] at h
    exact cmpI_le_iff.1 h
theorem cmpL_one {x y : Int} (h : x ≤ y) : cmpL [x] [y] ≤ 0 := by
  rw [cmpL]
  by_cases h1 : cmpI x y = 0
  · rw [if_neg (by omega)]; exact Int.le_refl _
  · rw [if_pos h1]; exact cmpI_le h
theorem cmpL_lt {x y : Int} {r t : List Int} (h : x < y) : cmpL (x :: r) (y :: t) ≤ 0 := by
  rw [cmpL, if_pos (by intro e; have := cmpI_zero e; omega)]
  exact cmpI_le (by omega)
/-- No more than one step. -/
def fewV (r : List Int) : Prop := r.length ≤ 1
theorem min_mono (n : Int) (π ρ : List Int) (h1 : fewV π) (h2 : fewV ρ) (h : cmpL π ρ ≤ 0) : cmpL (hdF (fun v => min v n) π) (hdF (fun v => min v n) ρ) ≤ 0 := by
  cases π with
  | nil => exact cmpL_nil _
  | cons x r =>
    cases ρ with
    | nil => exact absurd (show (1 : Int) ≤ 0 from h) (by decide)
    | cons y t =>
      have hr : r = [] := List.length_eq_zero_iff.1 (by unfold fewV at h1; simp at h1; simp [h1])
      have ht : t = [] := List.length_eq_zero_iff.1 (by unfold fewV at h2; simp at h2; simp [h2])
      subst hr ht
      have := cmpL_head h
      exact cmpL_one (show min x n ≤ min y n by omega)
/-- An even step is the last one. -/
def evenV : List Int → Prop
  | [] => True
  | x :: r => x % 2 = 0 → r = []
theorem rem_mono (i : Int) (π ρ : List Int) (h1 : evenV π) (h2 : evenV ρ) (h : cmpL π ρ ≤ 0) : cmpL (hdG i π) (hdG i ρ) ≤ 0 := by
  cases π with
  | nil => exact cmpL_nil _
  | cons x r =>
    cases ρ with
    | nil => exact absurd (show (1 : Int) ≤ 0 from h) (by decide)
    | cons y t =>
      have hx := cmpL_head h
      have e1 : x % 2 = 0 → r = [] := h1
      have e2 : y % 2 = 0 → t = [] := h2
      show cmpL (if x = 2 * i + 1 then [2 * i] else (if 2 * i + 1 < x then x - 2 else x) :: r) (if y = 2 * i + 1 then [2 * i] else (if 2 * i + 1 < y then y - 2 else y) :: t) ≤ 0
      by_cases g1 : x = 2 * i + 1
      · rw [if_pos g1]
        by_cases g2 : y = 2 * i + 1
        · rw [if_pos g2, cmpL_self]; exact Int.le_refl _
        · rw [if_neg g2, if_pos (by omega)]
          by_cases g3 : y = 2 * i + 2
          · rw [e2 (by omega), show y - 2 = 2 * i by omega, cmpL_self]; exact Int.le_refl _
          · exact cmpL_lt (by omega)
      · rw [if_neg g1]
        by_cases g2 : y = 2 * i + 1
        · rw [if_pos g2, if_neg (by omega)]
          by_cases g3 : x = 2 * i
          · rw [e1 (by omega), g3, cmpL_self]; exact Int.le_refl _
          · exact cmpL_lt (by omega)
        · rw [if_neg g2]
          by_cases g3 : x = y
          · subst g3
            rw [cmpL, cmpI_self, if_neg (by simp)] at h
            rw [cmpL, cmpI_self, if_neg (by simp)]
            exact h
          · by_cases g4 : 2 * i + 1 < x
            · rw [if_pos g4, if_pos (by omega)]; exact cmpL_lt (by omega)
            · rw [if_neg g4]
              by_cases g5 : 2 * i + 1 < y
              · rw [if_pos g5]
                by_cases g6 : x = 2 * i ∧ y = 2 * i + 2
                · rw [e1 (by omega), e2 (by omega), g6.1, g6.2, show 2 * i + 2 - 2 = 2 * i by omega, cmpL_self]; exact Int.le_refl _
                · exact cmpL_lt (by omega)
              · rw [if_neg g5]; exact cmpL_lt (by omega)
/-- Ways down that turn in order: a range stays one. -/
theorem span_by {l l' : List Nd} (T : Tree l) (T' : Tree l') (hc : checkD l' = 0) (mv : Pt → Pt) (F : List Int → List Int)
    (hF : ∀ (u v : Nat) (c d : Int), Tr l u → Tr l v → cmpL (downP l u ++ [2 * c]) (downP l v ++ [2 * d]) ≤ 0 → cmpL (F (downP l u ++ [2 * c])) (F (downP l v ++ [2 * d])) ≤ 0)
    (hp : ∀ (u : Nat) (c : Int), Tr l u → 0 ≤ c → c ≤ (roomD l u : Int) → ∃ (u' : Nat) (c' : Int), mv ⟨u, c⟩ = ⟨u', c'⟩ ∧ Tr l' u' ∧ 0 ≤ c' ∧ c' ≤ (roomD l' u' : Int) ∧ downP l' u' ++ [2 * c'] = F (downP l u ++ [2 * c]))
    {a b : Pt} (h : spanS l a b = 0) : spanS l' (mv a) (mv b) = 0 := by
  obtain ⟨_, ha, hb, ho⟩ := spanS_zero.1 h
  obtain ⟨m, i, rfl, tm, i0, i1⟩ := pt_tr T ha
  obtain ⟨n, j, rfl, tn, j0, j1⟩ := pt_tr T hb
  obtain ⟨m', i', em, tm', a1, a2, a3⟩ := hp m i tm i0 i1
  obtain ⟨n', j', en, tn', b1, b2, b3⟩ := hp n j tn j0 j1
  rw [em, en]
  refine spanS_zero.2 ⟨hc, ptE_of T' tm' a1 a2, ptE_of T' tn' b1 b2, ?_⟩
  rw [order_down, a3, b3]
  rw [order_down] at ho
  exact hF m n i j tm tn ho
theorem idx_ins {ks : List Int} {t x : Int} {i j : Nat} (hn : (ks.take i ++ t :: ks.drop i).Nodup) (hx : ks[j]? = some x) : Lib.idxOf (ks.take i ++ t :: ks.drop i) x = if i ≤ j then (j : Int) + 1 else j := by
  have hj := (List.getElem?_eq_some_iff.1 hx).1
  by_cases h : i ≤ j
  · rw [if_pos h]
    have hl : (ks.take i).length = i := by simp; omega
    exact idx_uniq hn (i := j + 1) (by
      rw [List.getElem?_append_right (by omega), hl, show j + 1 - i = (j - i) + 1 by omega, List.getElem?_cons_succ, List.getElem?_drop, show i + (j - i) = j by omega]; exact hx)
  · rw [if_neg h]
    exact idx_uniq hn (i := j) (by
      rw [List.getElem?_append_left (by simp; omega), List.getElem?_take_of_lt (by omega)]; exact hx)
theorem idx_rem {ks : List Int} {x : Int} {i j : Nat} (hn : (ks.eraseIdx i).Nodup) (hx : ks[j]? = some x) (hne : j ≠ i) : Lib.idxOf (ks.eraseIdx i) x = if i < j then (j : Int) - 1 else j := by
  by_cases h : i < j
  · rw [if_pos h]
    have := idx_uniq hn (x := x) (i := j - 1) (by rw [List.getElem?_eraseIdx, if_neg (by omega), show j - 1 + 1 = j by omega]; exact hx)
    omega
  · rw [if_neg h]
    exact idx_uniq hn (by rw [List.getElem?_eraseIdx, if_pos (by omega)]; exact hx)
theorem Tr.up {l : List Nd} (T : Tree l) {n p : Nat} (h : Tr l n) (e : parD l n = (p : Int)) : Tr l p := by
  cases h with
  | root _ =>
    have := T.root
    rw [show ((0 : Nat) : Int) = 0 from rfl] at e
    omega
  | @step _ q _ e2 hq =>
    have : p = q := by omega
    subst this
    exact hq
/-- A node that is put among another one's kids. -/
theorem stays_ins {l : List Nd} (G : Good l) {e : Edt} (h5 : e.do_ = 5) (he : insErr l e.at_ e.to_ e.before = 0) {a b : Pt} (h : spanS l a b = 0) : spanS (insDo l e.at_ e.to_ e.before) (movedP l a e) (movedP l b e) = 0 := by
  have G' := good_ins G he
  have hc' := check_of G'
  have T := tree_of (check_of G)
  have T' := tree_of hc'
  obtain ⟨m, t, x, y, em, et, hi⟩ := insErr_iff he
  rw [em, et, hi.do_] at G' hc' T' ⊢
  have hne := hi.ne
  have hm := (List.getElem?_eq_some_iff.1 hi.hx).1
  have ht := (List.getElem?_eq_some_iff.1 hi.hy).1
  have hpt : parD l t = -1 := by
    rcases G.kr.par_in (t : Int) with e | ⟨j, _, _, e, _⟩
    · exact e
    · have := hi.loose
      rw [parD_at hi.hy] at e
      omega
  have ht0 : t ≠ 0 := fun e => hi.kind ((G.root t y hi.hy).2 e)
  have htr : ¬ Tr l t := fun hh => by
    cases hh with
    | root _ => exact ht0 rfl
    | step _ e _ => omega
  have hia := hi.at_
  obtain ⟨i, hi2⟩ : ∃ i : Nat, insAt x.kids e.before = (i : Int) := ⟨(insAt x.kids e.before).toNat, by omega⟩
  rw [hi2, Int.toNat_natCast] at G' hc' T' ⊢
  have hmv : ∀ p : Pt, movedP l p e = if p.node = (m : Int) ∧ (i : Int) < p.at_ then ⟨p.node, p.at_ + 1⟩ else p := fun p => by
    unfold movedP
    rw [if_pos h5, em, kidsD_at hi.hx, hi2]
  have hpar := hi.par
  clear he
  generalize hX : ({ x with kids := x.kids.take i ++ (t : Int) :: x.kids.drop i } : Nd) = X at *
  generalize hY : ({ y with parent := (m : Int) } : Nd) = Y at *
  have hg := fun j => get2 (l := l) (x := X) (y := Y) hm ht j
  have xi : X.kids = x.kids.take i ++ (t : Int) :: x.kids.drop i ∧ X.kind = x.kind ∧ X.parent = x.parent := by rw [← hX]; exact ⟨rfl, rfl, rfl⟩
  have yi : Y.kind = y.kind ∧ Y.text = y.text ∧ Y.kids = y.kids := by rw [← hY]; exact ⟨rfl, rfl, rfl⟩
  generalize hl' : (l.set m X).set t Y = l' at *
  have hlen : l'.length = l.length := by rw [← hl']; simp
  have gm : l'[m]? = some X := by rw [hg, if_neg hne, if_pos rfl]
  have other : ∀ k : Nat, k ≠ m → k ≠ t → l'[k]? = l[k]? := fun k h1 h2 => by rw [hg, if_neg h2, if_neg h1]
  have hnd := (G'.kr.kids m X gm).1
  rw [xi.1] at hnd
  have hh : ∀ n p : Nat, Tr l p → n < l.length → parD l n = (p : Int) → n < l'.length ∧ parD l' n = (p : Int) ∧ (p ≠ m → kidsD l' p = kidsD l p) ∧ (p = m → ∃ j : Nat, Lib.idxOf (kidsD l p) n = (j : Int) ∧ Lib.idxOf (kidsD l' p) n = if i ≤ j then (j : Int) + 1 else j) := fun n p hp hn e => by
    have hnt : n ≠ t := fun h => by rw [h, hpt] at e; omega
    have hptne : p ≠ t := fun h => htr (h ▸ hp)
    refine ⟨by omega, ?_, fun h => ?_, fun h => ?_⟩
    · by_cases h1 : n = m
      · subst h1
        rw [parD_at gm, xi.2.2, ← parD_at hi.hx]; exact e
      · obtain ⟨z, hz⟩ := get_some hn
        rw [parD_at ((other n h1 hnt).trans hz), ← parD_at hz]; exact e
    · obtain ⟨z, hz⟩ := get_some hp.lt
      rw [kidsD_at ((other p h hptne).trans hz), kidsD_at hz]
    · subst h
      rcases T.par hn with e2 | ⟨p', e2, _, hk⟩
      · omega
      · have : p = p' := by omega
        subst this
        rw [kidsD_at hi.hx] at hk
        obtain ⟨j, j1, j2, _⟩ := idx_of_mem hk
        refine ⟨j, by rw [kidsD_at hi.hx]; exact j1, ?_⟩
        rw [kidsD_at gm, xi.1]
        exact idx_ins hnd j2
  have room : ∀ k : Nat, k < l.length → k ≠ m → roomD l' k = roomD l k := fun k hk h1 => by
    by_cases h2 : k = t
    · subst h2
      have gt : l'[k]? = some Y := by rw [hg, if_pos rfl]
      rw [room_at gt, room_at hi.hy, yi.1, yi.2.1, yi.2.2]
    · obtain ⟨z, hz⟩ := get_some hk
      rw [room_at hz, room_at ((other k h1 h2).trans hz)]
  have roomM : roomD l' m = roomD l m + 1 := by
    have hk : ¬ (x.kind = 3 ∨ x.kind = 4) := fun hk => by
      unfold parentB at hpar
      rcases hk with hk | hk <;> (rw [hk] at hpar; simp at hpar)
    rw [room_at gm, room_at hi.hx, xi.2.1, if_neg hk, if_neg hk, xi.1]
    simp
    omega
  by_cases tm : Tr l m
  · have key := down_at T T' (downP l m) (fun v => if 2 * (i : Int) < v then v + 2 else v) (fun _ => True) (fun _ _ _ _ => trivial) (fun n p _ hp hn e => by
      obtain ⟨h1, h2, h3, h4⟩ := hh n p hp hn e
      refine ⟨h1, h2, ?_⟩
      by_cases hpm : p = m
      · obtain ⟨j, j1, j2⟩ := h4 hpm
        rw [if_pos (by rw [hpm]), j1, j2]
        by_cases hij : i ≤ j
        · rw [if_pos hij, if_pos (by omega)]; omega
        · rw [if_neg hij, if_neg (by omega)]
      · rw [if_neg (fun e => hpm (T.down_inj hp tm e)), h3 hpm])
    refine span_by T T' hc' (fun p => movedP l p e) (atF (fun v => if 2 * (i : Int) < v then v + 2 else v) (downP l m)) (fun u v c d _ _ h => ?_) (fun u c tu c0 c1 => ?_) h
    · rw [cmpL_atF (cmpI_of_lt (fun x y hxy => by
        by_cases g1 : 2 * (i : Int) < x
        · rw [if_pos g1, if_pos (by omega)]; omega
        · rw [if_neg g1]
          split <;> omega))]
      exact h
    · obtain ⟨tu', du⟩ := key u tu trivial
      rw [hmv]
      by_cases hc : (u : Int) = (m : Int) ∧ (i : Int) < c
      · have hum : u = m := by omega
        subst hum
        refine ⟨u, c + 1, if_pos hc, tu', by omega, by rw [roomM]; omega, ?_⟩
        rw [atF_snoc, if_pos rfl, if_pos (by omega), du]
        congr 2
        omega
      · refine ⟨u, c, if_neg hc, tu', c0, ?_, ?_⟩
        · by_cases hum : u = m
          · subst hum; rw [roomM]; omega
          · rw [room u tu.lt hum]; exact c1
        · rw [atF_snoc, du]
          by_cases hum : u = m
          · subst hum
            rw [if_pos rfl, if_neg (by omega)]
          · rw [if_neg (fun e => hum (T.down_inj tu tm e))]
  · have key := down_at T T' [] id (fun _ => True) (fun _ _ _ _ => trivial) (fun n p _ hp hn e => by
      obtain ⟨h1, h2, h3, _⟩ := hh n p hp hn e
      refine ⟨h1, h2, ?_⟩
      rw [h3 (fun e => tm (e ▸ hp))]
      simp)
    have idF : ∀ π : List Int, atF id [] π = π := fun π => by cases π <;> rfl
    refine span_by T T' hc' (fun p => movedP l p e) id (fun u v c d _ _ h => h) (fun u c tu c0 c1 => ?_) h
    obtain ⟨tu', du⟩ := key u tu trivial
    have hum : u ≠ m := fun e => tm (e ▸ tu)
    rw [hmv]
    refine ⟨u, c, if_neg (fun hc => hum (by have h := hc.1; simp only at h; omega)), tu', c0, by rw [room u tu.lt hum]; exact c1, ?_⟩
    rw [du, idF]; rfl
theorem Good.below_iff {l : List Nd} (G : Good l) {u m : Nat} (hu : u < l.length) : belowB l u m = true ↔ ∃ r, Bel l m u r := by
  obtain ⟨d, hd, hup⟩ := G.deep u hu
  constructor
  · intro h
    exact belowF_to _ _ h (fun z hz => by
      rcases G.kr.par_in z with e | ⟨j, _, _, e, _⟩
      · exact e
      · omega) (by omega)
  · rintro ⟨r, hr⟩
    exact belowF_of hr d _ hup (by unfold depZ; rw [if_neg (by omega), (G.upN hu hup).1]; omega) (by omega)
/-- A node that leaves its parent. -/
theorem stays_rem {l : List Nd} (G : Good l) {e : Edt} (h6 : e.do_ = 6) (he : remErr l e.at_ = 0) {a b : Pt} (h : spanS l a b = 0) : spanS (remDo l e.at_) (movedP l a e) (movedP l b e) = 0 := by
  have G' := good_rem G he
  have hc' := check_of G'
  have T := tree_of (check_of G)
  have T' := tree_of hc'
  obtain ⟨m, p, i, x, y, em, hr⟩ := remErr_iff G he
  rw [em, hr.do_] at G' hc' T' ⊢
  have hne := hr.ne
  have hm := (List.getElem?_eq_some_iff.1 hr.hx).1
  have hp := (List.getElem?_eq_some_iff.1 hr.hy).1
  have hm0 : m ≠ 0 := fun e => hr.kind ((G.root m x hr.hx).2 e)
  have hpm : parD l m = (p : Int) := by rw [parD_at hr.hx]; exact hr.par
  have hix : Lib.idxOf (kidsD l p) m = (i : Int) := by rw [kidsD_at hr.hy]; exact hr.idx
  have hmv : ∀ q : Pt, movedP l q e = if belowB l q.node m = true then ⟨p, i⟩ else if q.node = (p : Int) ∧ (i : Int) < q.at_ then ⟨q.node, q.at_ - 1⟩ else q := fun q => by
    unfold movedP
    rw [if_neg (by omega), if_pos h6, em, hpm, hix]
  clear he
  generalize hX : ({ x with parent := -1 } : Nd) = X at *
  generalize hY : ({ y with kids := y.kids.eraseIdx i } : Nd) = Y at *
  have hg := fun j => get2 (l := l) (x := Y) (y := X) hp hm j
  have xi : X.kind = x.kind ∧ X.text = x.text ∧ X.kids = x.kids := by rw [← hX]; exact ⟨rfl, rfl, rfl⟩
  have yi : Y.kind = y.kind ∧ Y.parent = y.parent ∧ Y.kids = y.kids.eraseIdx i ∧ Y.text = y.text := by rw [← hY]; exact ⟨rfl, rfl, rfl, rfl⟩
  generalize hl' : (l.set p Y).set m X = l' at *
  have hlen : l'.length = l.length := by rw [← hl']; simp
  have gm : l'[m]? = some X := by rw [hg, if_pos rfl]
  have gp : l'[p]? = some Y := by rw [hg, if_neg hne, if_pos rfl]
  have other : ∀ k : Nat, k ≠ m → k ≠ p → l'[k]? = l[k]? := fun k h1 h2 => by rw [hg, if_neg h1, if_neg h2]
  have hnd := (G'.kr.kids p Y gp).1
  rw [yi.2.2.1] at hnd
  have hh : ∀ n q : Nat, n ≠ m → q < l.length → n < l.length → parD l n = (q : Int) → n < l'.length ∧ parD l' n = (q : Int) ∧ (q ≠ p → kidsD l' q = kidsD l q) ∧ (q = p → ∃ j : Nat, Lib.idxOf (kidsD l q) n = (j : Int) ∧ j ≠ i ∧ Lib.idxOf (kidsD l' q) n = if i < j then (j : Int) - 1 else j) := fun n q hnm hq hn e => by
    refine ⟨by omega, ?_, fun h => ?_, fun h => ?_⟩
    · by_cases h1 : n = p
      · subst h1
        rw [parD_at gp, yi.2.1, ← parD_at hr.hy]; exact e
      · obtain ⟨z, hz⟩ := get_some hn
        rw [parD_at ((other n hnm h1).trans hz), ← parD_at hz]; exact e
    · by_cases h1 : q = m
      · subst h1
        rw [kidsD_at gm, kidsD_at hr.hx, xi.2.2]
      · obtain ⟨z, hz⟩ := get_some hq
        rw [kidsD_at ((other q h1 h).trans hz), kidsD_at hz]
    · subst h
      rcases T.par hn with e2 | ⟨p', e2, _, hk⟩
      · omega
      · have : q = p' := by omega
        subst this
        rw [kidsD_at hr.hy] at hk
        obtain ⟨j, j1, j2, _⟩ := idx_of_mem hk
        have hji : j ≠ i := fun h => hnm (by
          rw [h, hr.at_] at j2
          have := Option.some.inj j2
          omega)
        refine ⟨j, by rw [kidsD_at hr.hy]; exact j1, hji, ?_⟩
        rw [kidsD_at gp, yi.2.2.1]
        exact idx_rem hnd j2 hji
  have room : ∀ k : Nat, k < l.length → k ≠ p → roomD l' k = roomD l k := fun k hk h1 => by
    by_cases h2 : k = m
    · subst h2
      rw [room_at gm, room_at hr.hx, xi.1, xi.2.1, xi.2.2]
    · obtain ⟨z, hz⟩ := get_some hk
      rw [room_at hz, room_at ((other k h2 h1).trans hz)]
  have hil := (List.getElem?_eq_some_iff.1 hr.at_).1
  have hkp : ¬ (y.kind = 3 ∨ y.kind = 4) := fun hk => by
    have hb := ((nodeE_iff y).1 (G.each y (List.mem_of_getElem? hr.hy))).1.2.2
    unfold bareB at hb
    have hk0 : y.kids ≠ [] := fun e => by rw [e] at hil; simp at hil
    have hk1 : y.kids.isEmpty = false := by
      cases hq : y.kids with
      | nil => exact absurd hq hk0
      | cons => rfl
    rcases hk with hk | hk <;> (rw [hk] at hb; simp [parentB, hk1] at hb)
  have roomP : roomD l' p + 1 = roomD l p := by
    rw [room_at gp, room_at hr.hy, yi.1, if_neg hkp, if_neg hkp, yi.2.2.1, List.length_eraseIdx, if_pos hil]
    omega
  have belK : ∀ n q : Nat, ¬ (∃ r, Bel l m n r) → parD l n = (q : Int) → ¬ ∃ r, Bel l m q r := fun n q h1 e ⟨r, hb⟩ => h1 ⟨r + 1, Bel.step (by omega) (by rw [e]; exact hb)⟩
  have belNe : ∀ n : Nat, ¬ (∃ r, Bel l m n r) → n ≠ m := fun n h1 e => h1 ⟨0, by rw [e]; exact Bel.self⟩
  by_cases tp : Tr l p
  · have key := down_at T T' (downP l p) (fun v => if 2 * (i : Int) + 1 < v then v - 2 else v) (fun n => ¬ ∃ r, Bel l m n r) belK (fun n q k hq hn e => by
      obtain ⟨h1, h2, h3, h4⟩ := hh n q (belNe n k) hq.lt hn e
      refine ⟨h1, h2, ?_⟩
      by_cases hqp : q = p
      · obtain ⟨j, j1, j3, j2⟩ := h4 hqp
        rw [if_pos (by rw [hqp]), j1, j2]
        by_cases hij : i < j
        · rw [if_pos hij, if_pos (by omega)]; omega
        · rw [if_neg hij, if_neg (by omega)]
      · rw [if_neg (fun e => hqp (T.down_inj hq tp e)), h3 hqp])
    have inn : ∀ u, Tr l u → (∃ r, Bel l m u r) → ∃ q, downP l u = downP l p ++ (2 * (i : Int) + 1) :: q := by
      intro u tu
      induction tu with
      | root _ =>
        rintro ⟨r, hb⟩
        exfalso
        cases hb with
        | self => exact hm0 rfl
        | step h1 _ =>
          have := T.root
          rw [show ((0 : Nat) : Int) = 0 from rfl] at h1
          omega
      | @step u q hu e tq ih =>
        rintro ⟨r, hb⟩
        by_cases hum : u = m
        · subst hum
          have : q = p := by omega
          subst this
          exact ⟨[], by rw [T.down_step hu e, hix]⟩
        · cases hb with
          | self => exact absurd rfl hum
          | @step _ r _ hb =>
            rw [e] at hb
            obtain ⟨s, hs⟩ := ih ⟨r, hb⟩
            exact ⟨s ++ [2 * Lib.idxOf (kidsD l q) u + 1], by rw [T.down_step hu e, hs]; simp⟩
    have out : ∀ u, Tr l u → ¬ (∃ r, Bel l m u r) → ∀ s, downP l u ≠ downP l p ++ (2 * (i : Int) + 1) :: s := by
      intro u tu
      induction tu with
      | root _ =>
        intro _ s h
        rw [down_root T] at h
        simp at h
      | @step u q hu e tq ih =>
        intro k s h
        rw [T.down_step hu e] at h
        rcases List.eq_nil_or_concat s with h0 | ⟨s', v, h0⟩
        · subst h0
          have h1 := List.append_inj' h rfl
          have hqp := T.down_inj tq tp h1.1
          subst hqp
          obtain ⟨_, _, _, h4⟩ := hh u q (belNe u k) tq.lt hu e
          obtain ⟨j, j1, j3, _⟩ := h4 rfl
          have := (List.cons.inj h1.2).1
          omega
        · subst h0
          have h1 := List.append_inj' (show downP l q ++ [2 * Lib.idxOf (kidsD l q) u + 1] = (downP l p ++ (2 * (i : Int) + 1) :: s') ++ [v] by rw [h]; simp) rfl
          exact ih (belK u q k e) s' h1.1
    refine span_by T T' hc' (fun q => movedP l q e) (atS (hdG i) (downP l p)) (fun u v c d tu tv h => ?_) (fun u c tu c0 c1 => ?_) h
    · have ev : ∀ (u : Nat) (c : Int) (r : List Int), downP l u ++ [2 * c] = downP l p ++ r → evenV r := fun u c r e => by
        cases r with
        | nil => trivial
        | cons z r =>
          intro hz
          rcases List.eq_nil_or_concat r with h0 | ⟨s', v, h0⟩
          · exact h0
          · subst h0
            exfalso
            have h1 := List.append_inj' (show downP l u ++ [2 * c] = (downP l p ++ z :: s') ++ [v] by rw [e]; simp) rfl
            have := down_odd l u z (by rw [h1.1]; simp)
            omega
      exact atS_mono (rem_mono i) _ _ _ (ev u c) (ev v d) h
    · rw [hmv]
      by_cases hb : ∃ r, Bel l m u r
      · obtain ⟨s, hs⟩ := inn u tu hb
        have kp : ¬ ∃ r, Bel l m p r := fun ⟨r, hb2⟩ => by
          obtain ⟨s2, hs2⟩ := inn p tp ⟨r, hb2⟩
          have := congrArg List.length hs2
          simp at this
        obtain ⟨tp', dp⟩ := key p tp kp
        refine ⟨p, i, if_pos ((G.below_iff tu.lt).2 hb), tp', by omega, ?_, ?_⟩
        · have : i < roomD l p := by rw [room_at hr.hy, if_neg hkp]; exact hil
          omega
        · rw [hs, List.append_assoc, atS_app, dp, atF_self]
          congr 1
          show [2 * (i : Int)] = if 2 * (i : Int) + 1 = 2 * (i : Int) + 1 then [2 * (i : Int)] else _
          rw [if_pos rfl]
      · obtain ⟨tu', du⟩ := key u tu hb
        rw [if_neg (fun hc => hb ((G.below_iff tu.lt).1 hc))]
        rw [atS_G (fun r e => by
          rcases List.eq_nil_or_concat r with h0 | ⟨s', v, h0⟩
          · subst h0
            have h1 := List.append_inj' e rfl
            have := (List.cons.inj h1.2).1
            omega
          · subst h0
            have h1 := List.append_inj' (show downP l u ++ [2 * c] = (downP l p ++ (2 * (i : Int) + 1) :: s') ++ [v] by rw [e]; simp) rfl
            exact out u tu hb s' h1.1), atF_snoc, ← du]
        by_cases hup : u = p
        · subst hup
          rw [if_pos rfl]
          by_cases hc : (i : Int) < c
          · refine ⟨u, c - 1, if_pos ⟨rfl, hc⟩, tu', by omega, by omega, ?_⟩
            rw [if_pos (by omega)]
            congr 2
            omega
          · refine ⟨u, c, if_neg (fun h => hc h.2), tu', c0, ?_, ?_⟩
            · have : i < roomD l u := by rw [room_at hr.hy, if_neg hkp]; exact hil
              omega
            · rw [if_neg (by omega)]
        · refine ⟨u, c, if_neg (fun h => hup (by have := h.1; simp only at this; omega)), tu', c0, by rw [room u tu.lt hup]; exact c1, ?_⟩
          rw [if_neg (fun e => hup (T.down_inj tu tp e))]
  · have tm : ¬ Tr l m := fun h => tp (h.up T hpm)
    have kept : ∀ u, Tr l u → ¬ ∃ r, Bel l m u r := by
      intro u tu
      induction tu with
      | root _ =>
        rintro ⟨r, hb⟩
        cases hb with
        | self => exact hm0 rfl
        | step h1 _ =>
          have := T.root
          rw [show ((0 : Nat) : Int) = 0 from rfl] at h1
          omega
      | @step u q hu e tq ih =>
        rintro ⟨r, hb⟩
        by_cases hum : u = m
        · exact tm (hum ▸ Tr.step hu e tq)
        · cases hb with
          | self => exact absurd rfl hum
          | @step _ r _ hb =>
            rw [e] at hb
            exact ih ⟨r, hb⟩
    have key := down_at T T' [] id (fun n => ¬ ∃ r, Bel l m n r) belK (fun n q k hq hn e => by
      obtain ⟨h1, h2, h3, _⟩ := hh n q (belNe n k) hq.lt hn e
      refine ⟨h1, h2, ?_⟩
      rw [h3 (fun e => tp (e ▸ hq))]
      simp)
    have idF : ∀ π : List Int, atF id [] π = π := fun π => by cases π <;> rfl
    refine span_by T T' hc' (fun q => movedP l q e) id (fun u v c d _ _ h => h) (fun u c tu c0 c1 => ?_) h
    obtain ⟨tu', du⟩ := key u tu (kept u tu)
    have hup : u ≠ p := fun e => tp (e ▸ tu)
    rw [hmv]
    refine ⟨u, c, (if_neg (fun hc => kept u tu ((G.below_iff tu.lt).1 hc))).trans (if_neg (fun hc => hup (by have := hc.1; simp only at this; omega))), tu', c0, by rw [room u tu.lt hup]; exact c1, ?_⟩
    rw [du, idF]; rfl
theorem atF_out {f : Int → Int} : ∀ {s π : List Int}, (∀ x r, π ≠ s ++ x :: r) → atF f s π = π
  | [], [], _ => rfl
  | [], x :: r, h => absurd rfl (h x r)
  | _ :: _, [], _ => rfl
  | a :: s, b :: r, h => by
    rw [atF]
    by_cases e : a = b
    · subst e
      rw [if_pos rfl, atF_out (fun x q e => h x q (by rw [e]; rfl))]
    · rw [if_neg e]
/-- A text that is set. -/
theorem stays_text {l : List Nd} (G : Good l) {e : Edt} (h3 : e.do_ = 3) (he : textErr l e.at_ e.value = 0) {a b : Pt} (h : spanS l a b = 0) : spanS (textDo l e.at_ e.value) (movedP l a e) (movedP l b e) = 0 := by
  have G' := good_text G he
  have hc' := check_of G'
  have T := tree_of (check_of G)
  have T' := tree_of hc'
  unfold textErr at he
  cases hx : nodeAt l e.at_ with
  | none => rw [hx] at he; simp at he
  | some x =>
    rw [hx] at he
    simp only at he
    obtain ⟨m, em, hm⟩ := nodeAt_some hx
    have hkind : x.kind = 3 ∨ x.kind = 4 := by
      by_cases h1 : x.kind = 3
      · exact Or.inl h1
      · by_cases h2 : x.kind = 4
        · exact Or.inr h2
        · rw [if_pos ⟨h1, h2⟩] at he; cases he
    have hmv : ∀ p : Pt, movedP l p e = if p.node = (m : Int) then ⟨p.node, min p.at_ (e.value.size : Int)⟩ else p := fun p => by
      unfold movedP
      rw [if_neg (by omega), if_neg (by omega), if_pos h3, em]
    unfold textDo at G' hc' T' ⊢
    rw [em, setAt_nat hm] at G' hc' T' ⊢
    generalize hX : ({ x with text := e.value } : Nd) = X at *
    have xi : X.kind = x.kind ∧ X.parent = x.parent ∧ X.kids = x.kids ∧ X.text = e.value := by rw [← hX]; exact ⟨rfl, rfl, rfl, rfl⟩
    have hml := (List.getElem?_eq_some_iff.1 hm).1
    have gm : (l.set m X)[m]? = some X := by simp [hml]
    have other : ∀ k : Nat, k ≠ m → (l.set m X)[k]? = l[k]? := fun k hk => List.getElem?_set_ne (Ne.symm hk)
    have hk0 : x.kids = [] := by
      have hb := ((nodeE_iff x).1 (G.each x (List.mem_of_getElem? hm))).1.2.2
      unfold bareB at hb
      cases hq : x.kids with
      | nil => rfl
      | cons y r =>
        rw [hq] at hb
        rcases hkind with hk | hk <;> (rw [hk] at hb; simp [parentB] at hb)
    have key := down_at T T' [] id (fun _ => True) (fun _ _ _ _ => trivial) (fun n p _ hp hn e => by
      refine ⟨by simpa using hn, ?_, ?_⟩
      · by_cases h1 : n = m
        · subst h1
          rw [parD_at gm, xi.2.1, ← parD_at hm]; exact e
        · obtain ⟨z, hz⟩ := get_some hn
          rw [parD_at ((other n h1).trans hz), ← parD_at hz]; exact e
      · have : kidsD (l.set m X) p = kidsD l p := by
          by_cases h1 : p = m
          · subst h1
            rw [kidsD_at gm, kidsD_at hm, xi.2.2.1]
          · obtain ⟨z, hz⟩ := get_some hp.lt
            rw [kidsD_at ((other p h1).trans hz), kidsD_at hz]
        rw [this]
        simp)
    have idF : ∀ π : List Int, atF id [] π = π := fun π => by cases π <;> rfl
    have room : ∀ k : Nat, k < l.length → k ≠ m → roomD (l.set m X) k = roomD l k := fun k hk h1 => by
      obtain ⟨z, hz⟩ := get_some hk
      rw [room_at hz, room_at ((other k h1).trans hz)]
    have roomM : roomD (l.set m X) m = e.value.size := by
      rw [room_at gm, xi.1, if_pos hkind, xi.2.2.2]
    by_cases tm : Tr l m
    · have leaf : ∀ u, Tr l u → ∀ r, downP l u = downP l m ++ r → u = m := by
        intro u tu
        induction tu with
        | root h0 =>
          intro r hr
          rw [down_root T] at hr
          have h1 := (List.append_eq_nil_iff.1 hr.symm).1
          exact T.down_inj (Tr.root h0) tm (by rw [down_root T, h1])
        | @step u p hu e tp ih =>
          intro r hr
          rcases List.eq_nil_or_concat r with h0 | ⟨r', v, h0⟩
          · subst h0
            exact T.down_inj (Tr.step hu e tp) tm (by rw [hr, List.append_nil])
          · subst h0
            rw [T.down_step hu e] at hr
            have h1 := List.append_inj' (show downP l p ++ [2 * Lib.idxOf (kidsD l p) u + 1] = (downP l m ++ r') ++ [v] by rw [hr]; simp) rfl
            have hpm := ih r' h1.1
            subst hpm
            rcases T.par hu with e2 | ⟨p', e2, _, hk⟩
            · omega
            · have : p = p' := by omega
              subst this
              rw [kidsD_at hm, hk0] at hk
              cases hk
      refine span_by T T' hc' (fun p => movedP l p e) (atF (fun v => min v (2 * (e.value.size : Int))) (downP l m)) (fun u v c d tu tv h => ?_) (fun u c tu c0 c1 => ?_) h
      · have fv : ∀ (u : Nat) (c : Int), Tr l u → ∀ r, downP l u ++ [2 * c] = downP l m ++ r → fewV r := fun u c tu r e => by
          rcases List.eq_nil_or_concat r with h0 | ⟨r', v, h0⟩
          · rw [h0]; exact Nat.zero_le _
          · subst h0
            have h1 := List.append_inj' (show downP l u ++ [2 * c] = (downP l m ++ r') ++ [v] by rw [e]; simp) rfl
            have hum := leaf u tu r' h1.1
            rw [hum] at h1
            have h2 := congrArg List.length h1.1
            rw [List.length_append] at h2
            unfold fewV
            simp
            exact List.length_eq_zero_iff.1 (by omega)
        rw [atF_S, atF_S]
        exact atS_mono (min_mono _) _ _ _ (fv u c tu) (fv v d tv) h
      · obtain ⟨tu', du⟩ := key u tu trivial
        rw [idF] at du
        have ho : atF (fun v => min v (2 * (e.value.size : Int))) (downP l m) (downP l u) = downP l u := atF_out fun x r hr => by
          have hum := leaf u tu _ hr
          rw [hum] at hr
          have h2 := congrArg List.length hr
          rw [List.length_append, List.length_cons] at h2
          omega
        rw [hmv, atF_snoc, ho]
        by_cases hum : u = m
        · subst hum
          refine ⟨u, min c (e.value.size : Int), if_pos rfl, tu', by omega, by rw [roomM]; omega, ?_⟩
          rw [if_pos rfl, du]
          congr 2
          omega
        · refine ⟨u, c, if_neg (fun h => hum (by simp only at h; omega)), tu', c0, by rw [room u tu.lt hum]; exact c1, ?_⟩
          rw [if_neg (fun e => hum (T.down_inj tu tm e)), du]
    · refine span_by T T' hc' (fun p => movedP l p e) id (fun u v c d _ _ h => h) (fun u c tu c0 c1 => ?_) h
      obtain ⟨tu', du⟩ := key u tu trivial
      rw [idF] at du
      have hum : u ≠ m := fun e => tm (e ▸ tu)
      rw [hmv]
      refine ⟨u, c, if_neg (fun h => hum (by simp only at h; omega)), tu', c0, by rw [room u tu.lt hum]; exact c1, ?_⟩
      rw [du]; rfl
theorem setAt_like (l : List Nd) (n : Int) (f : Nd → Nd) (hf : ∀ x, (f x).parent = x.parent ∧ (f x).kids = x.kids ∧ (f x).kind = x.kind ∧ (f x).text.size = x.text.size) : ∀ (k : Nat) x, l[k]? = some x → ∃ x', (setAt l n f)[k]? = some x' ∧ x'.parent = x.parent ∧ x'.kids = x.kids ∧ x'.kind = x.kind ∧ x'.text.size = x.text.size := by
  intro k x hx
  cases hn : nodeAt l n with
  | none =>
    refine ⟨x, ?_, rfl, rfl, rfl, rfl⟩
    unfold setAt
    rw [hn]
    exact hx
  | some y =>
    obtain ⟨m, rfl, hm⟩ := nodeAt_some hn
    rw [setAt_nat hm]
    by_cases h : k = m
    · subst h
      rw [hm] at hx
      obtain rfl := Option.some.inj hx
      refine ⟨f y, ?_, hf y⟩
      simp [(List.getElem?_eq_some_iff.1 hm).1]
    · exact ⟨x, by rw [List.getElem?_set_ne (Ne.symm h)]; exact hx, rfl, rfl, rfl, rfl⟩
/-- A range stays one, whatever is edited. -/
theorem span_stays_law {l : List Nd} {e : Edt} {a b : Pt} (h : spanS l a b = 0) (he : edErr l e = 0) : spanS (edDo l e) (movedP l a e) (movedP l b e) = 0 := by
  have hc := (spanS_zero.1 h).1
  have G := good_of hc
  have G' := good_ed G he
  have T := tree_of hc
  have T' := tree_of (check_of G')
  have hd := edErr_do he
  have plain : (e.do_ = 1 ∨ e.do_ = 2 ∨ e.do_ = 4) → ∀ p, movedP l p e = p := fun hh p => by
    unfold movedP
    rw [if_neg (by omega), if_neg (by omega), if_neg (by omega)]
  rcases hd with h1 | h1 | h1 | h1 | h1 | h1
  · rw [plain (by omega), plain (by omega)]
    refine stays_same T T' ?_ (check_of G') h
    have : edDo l e = attrDo l e.at_ e.name e.value := if_pos h1
    rw [this]
    exact setAt_like l e.at_ _ fun x => ⟨rfl, rfl, rfl, rfl⟩
  · rw [plain (by omega), plain (by omega)]
    refine stays_same T T' ?_ (check_of G') h
    have : edDo l e = dropDo l e.at_ e.name := (if_neg (by omega)).trans (if_pos h1)
    rw [this]
    exact setAt_like l e.at_ _ fun x => ⟨rfl, rfl, rfl, rfl⟩
  · have e1 : edDo l e = textDo l e.at_ e.value := (if_neg (by omega)).trans ((if_neg (by omega)).trans (if_pos h1))
    have e2 : edErr l e = textErr l e.at_ e.value := (if_neg (by omega)).trans ((if_neg (by omega)).trans (if_pos h1))
    rw [e1]
    exact stays_text G h1 (e2 ▸ he) h
  · rw [plain (by omega), plain (by omega)]
    refine stays_same T T' ?_ (check_of G') h
    have : edDo l e = makeDo l e.node := (if_neg (by omega)).trans ((if_neg (by omega)).trans ((if_neg (by omega)).trans (if_pos h1)))
    rw [this]
    intro n x hx
    refine ⟨x, ?_, rfl, rfl, rfl, rfl⟩
    unfold makeDo
    rw [List.getElem?_append_left (List.getElem?_eq_some_iff.1 hx).1]
    exact hx
  · have e1 : edDo l e = insDo l e.at_ e.to_ e.before := (if_neg (by omega)).trans ((if_neg (by omega)).trans ((if_neg (by omega)).trans ((if_neg (by omega)).trans (if_pos h1))))
    have e2 : edErr l e = insErr l e.at_ e.to_ e.before := (if_neg (by omega)).trans ((if_neg (by omega)).trans ((if_neg (by omega)).trans ((if_neg (by omega)).trans (if_pos h1))))
    rw [e1]
    exact stays_ins G h1 (e2 ▸ he) h
  · have e1 : edDo l e = remDo l e.at_ := (if_neg (by omega)).trans ((if_neg (by omega)).trans ((if_neg (by omega)).trans ((if_neg (by omega)).trans ((if_neg (by omega)).trans (if_pos h1)))))
    have e2 : edErr l e = remErr l e.at_ := (if_neg (by omega)).trans ((if_neg (by omega)).trans ((if_neg (by omega)).trans ((if_neg (by omega)).trans ((if_neg (by omega)).trans (if_pos h1)))))
    rw [e1]
    exact stays_rem G h1 (e2 ▸ he) h
end Go.Proofs.YtpbngckplbnahaaGreatDoor
