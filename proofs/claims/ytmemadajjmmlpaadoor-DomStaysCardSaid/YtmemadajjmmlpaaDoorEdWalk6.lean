/-
The walks of package dom's editor: below, deep.
-/
import Derived.Test.YtmemadajjmmlpaaDoorEdWalk4
namespace Go.Proofs.YtmemadajjmmlpaaDoor
open Go.RowKit Go.Cl
attribute [local go_sem ↓] Go.wp_at_zero Go.wp_at_succ

theorem below_neg (l : List Nd) {z top : Int} (h : z < 0) : belowB l z top = (z == top) := by
  unfold belowB depZ
  rw [if_pos h]
  rfl
theorem below_self {l : List Nd} (z : Int) : belowB l z z = true := by
  unfold belowB
  cases depZ l z with
  | zero => unfold belowF; simp
  | succ f => unfold belowF; simp
theorem Tree.below_up {l : List Nd} (T : Tree l) {m : Nat} {top : Int} (hm : m < l.length) (h : (m : Int) ≠ top) : belowB l m top = belowB l (parD l m) top := by
  unfold belowB
  rw [← T.dep_par hm, belowF]
  have h1 : ((m : Int) == top) = false := by simpa using h
  have h2 : decide (0 ≤ (m : Int)) = true := by simp
  rw [h1, h2, Bool.false_or, Bool.true_and]
/-- What below is at. -/
def BRel (l : List Nd) (n top z : Int) : Prop := (z = -1 ∨ ∃ m : Nat, z = (m : Int) ∧ m < l.length) ∧ belowB l n top = belowB l z top
set_option maxRecDepth 100000 in
set_option maxHeartbeats 1000000 in
theorem below_any (w : World) (E g c base : Nat) (l : List Nd) (q : Bool) (made : Int) (ps : List (Value × Value)) (n : Nat) (top : Int) (h : EdAt w E g c base l q made ps) (T : Tree l) (hn : n < l.length) :
    Calls Tryd.prog 125 #[.pointer (some ⟨E, 0, none⟩), .int .i64 (n : Int), .int .i64 top] w fun e w' => e = .returned (.bool (belowB l n top)) ∧ w = w' := by
  have c0 := h.c0
  have HE := Lib.hid h
  have HT := Lib.hid T
  have HCAP := h.cap
  clear h T
  have H0 : Hid (BRel l n top n) := ⟨Or.inr ⟨n, rfl, hn⟩, rfl⟩
  clear hn
  go_enter Tryd.func125, Tryd.ntmps125
  go_upto_region 1 with fail
  go_loop [1] (fun s => ∃ z : Int, s = .int .i64 z ∧ Hid (BRel l n top z)) (fun s => depZ l (intOf s))
  case atStart => exact ⟨n, rfl, H0⟩
  case round =>
    obtain ⟨z, rfl, HR⟩ := hrel
    rcases HR.out.1 with hz | ⟨m, hz, hm⟩
    · have h0 : ¬ 0 ≤ z := by omega
      have HB := Lib.hid (HR.out.2.trans (below_neg l (by omega)))
      clear hz
      go_wp2_with fail
      go_ret
      exact ⟨retB HB.out.symm, rfl⟩
    · subst hz
      by_cases ht : (m : Int) = top
      · have HB := Lib.hid (show belowB l n top = true from HR.out.2.trans (by rw [ht]; exact below_self top))
        have ht1 : ((m : Int) != top) = false := by simpa using ht
        have ht2 : ((m : Int) == top) = true := by simpa using ht
        clear ht
        go_wp2_with fail
        go_ret
        exact ⟨retB HB.out.symm, rfl⟩
      · obtain ⟨x, hx⟩ := get_some hm
        have ht1 : ((m : Int) != top) = true := by simpa using ht
        obtain ⟨p, _, hnd⟩ := HE.out.node hx
        have k4 := hnd.c4
        have HPD := Lib.hid (parD_at hx)
        have HU := Lib.hid (HR.out.2.trans (HT.out.below_up hm ht))
        have HDP := Lib.hid (HT.out.dep_par hm)
        have HPR := Lib.hid (HT.out.par hm)
        have i1 : (m : Int) < (l.length : Int) := by omega
        clear hnd hx ht hm HR
        go_wp2_with fail
        go_round
        case rel => exact ⟨_, rfl, by
          rw [HPD.out] at HU HPR
          refine ⟨?_, HU.out⟩
          rcases HPR.out with e | ⟨p, e, hp, _⟩
          · exact Or.inl e
          · exact Or.inr ⟨p, e, hp⟩⟩
        case measure =>
          simp only [intOf]
          have h1 := HDP.out
          have h2 := HPD.out
          rw [h2] at h1
          omega

theorem foldl_max_le : ∀ (xs : List Nat) (a b : Nat), a ≤ b → (∀ x ∈ xs, x ≤ b) → xs.foldl max a ≤ b := by
  intro xs
  induction xs with
  | nil => intro a b h _; exact h
  | cons x xs ih =>
    intro a b h hx
    rw [List.foldl_cons]
    exact ih _ b (Nat.max_le.2 ⟨h, hx x (by simp)⟩) fun y hy => hx y (by simp [hy])
theorem deepF_le (l : List Nd) : ∀ (f : Nat) (z : Int), deepF l f z ≤ f := by
  intro f
  induction f with
  | zero => intro z; exact Nat.le_refl _
  | succ f ih =>
    intro z
    rw [deepF]
    refine foldl_max_le _ _ _ (Nat.zero_le _) fun x hx => ?_
    obtain ⟨k, _, rfl⟩ := List.mem_map.1 hx
    have := ih k
    omega
/-- The greatest one so far. -/
def mostF (F : Int → Nat) (ks : List Int) : Nat := (ks.map F).foldl max 0
theorem most_snoc (F : Int → Nat) (ks : List Int) {j : Nat} {k : Int} (h : ks[j]? = some k) : mostF F (ks.take (j + 1)) = max (mostF F (ks.take j)) (F k) := by
  unfold mostF
  rw [List.take_add_one, h, List.map_append, List.foldl_append]
  rfl
theorem most_le {F : Int → Nat} {b : Nat} (hF : ∀ k, F k ≤ b) (ks : List Int) : mostF F ks ≤ b :=
  foldl_max_le _ _ _ (Nat.zero_le _) fun x hx => by
    obtain ⟨k, _, rfl⟩ := List.mem_map.1 hx
    exact hF k
set_option maxRecDepth 100000 in
set_option maxHeartbeats 1000000 in
theorem deep_any (E g c base : Nat) (l : List Nd) (q : Bool) (made : Int) (ps : List (Value × Value)) (T : Tree l) (f : Nat) : ∀ (m : Nat) (w : World), EdAt w E g c base l q made ps → m < l.length → upN l m + f = 41 →
    Calls Tryd.prog 126 #[.pointer (some ⟨E, 0, none⟩), .int .i64 (m : Int)] w fun e w' => e = .returned (.int .i64 (deepF l f m : Nat)) ∧ w = w' := by
  induction f with
  | zero =>
    intro m w _ hm hf
    have := (T.deep m hm).1
    omega
  | succ f ih =>
    intro m w h hm hf
    have IH := Lib.hid ih
    have HUP : Hid (∀ k ∈ kidsD l m, ∃ p : Nat, k = (p : Int) ∧ p < l.length ∧ upN l p + f = 41) := fun k hk => by
      obtain ⟨p, e, hp, hpar⟩ := T.kid hm hk
      exact ⟨p, e, hp, by have := (T.up_par hp hpar).2; omega⟩
    have HF40 : f ≤ 41 := by omega
    have c0 := h.c0
    have HCAP := h.cap
    obtain ⟨x, hx⟩ := get_some hm
    obtain ⟨p, hp, hnd⟩ := h.node hx
    have k5 := hnd.c5
    obtain ⟨A1, c1, hp1, sl1⟩ := OwnF.sl hnd.parts.kids (by decide) (by have := hnd.parts.ok.kids; show x.kids.length * 8 ≤ _; omega)
    rw [hp1] at k5
    have HKD := Lib.hid (kidsD_at hx)
    rw [HKD.out] at HUP
    have HDF : Hid (deepF l (f + 1) (m : Int) = mostF (fun k => deepF l f k + 1) x.kids) := by rw [deepF, HKD.out]; rfl
    have HSL := Lib.hid sl1
    have hck := sl1.hc
    have hkl : x.kids.length ≤ 1000 := hnd.parts.ok.kids
    have HH := Lib.hid h
    have i1 : (0 : Int) ≤ (m : Int) := by omega
    have i2 : (m : Int) < (l.length : Int) := by omega
    have HML := Lib.hid (fun ks => most_le (F := fun k => deepF l f k + 1) (b := f + 1) (fun k => by have := deepF_le l f k; show deepF l f k + 1 ≤ f + 1; omega) ks)
    have HDL := Lib.hid (deepF_le l f)
    clear ih T h hm hf hx hp hnd hp1 sl1
    go_enter Tryd.func126, Tryd.ntmps126
    go_wp2_with fail
    go_loop [4, 17] (fun s t => ∃ j : Nat, j ≤ x.kids.length ∧ t = .int .i64 (j : Int) ∧ s = .int .i64 (mostF (fun k => deepF l f k + 1) (x.kids.take j) : Nat)) (fun _ t => x.kids.length - (intOf t).toNat)
    case atStart => exact ⟨0, Nat.zero_le _, rfl, rfl⟩
    case round =>
      obtain ⟨j, hj, rfl, rfl⟩ := hrel
      by_cases hlt : j < x.kids.length
      · obtain ⟨k, hk⟩ := get_some hlt
        obtain ⟨kk, rfl, hkl2, hup⟩ := HUP.out k (List.mem_of_getElem? hk)
        obtain ⟨g1, o1, rfl, _, ck, _⟩ := HSL.out.int hk
        have HI := Lib.hid (IH.out kk w HH.out hkl2 hup)
        have HSN := Lib.hid (most_snoc (fun k => deepF l f k + 1) x.kids hk)
        have b1 : mostF (fun k => deepF l f k + 1) (x.kids.take j) ≤ f + 1 := HML.out _
        have b2 : deepF l f kk ≤ f := HDL.out kk
        generalize mostF (fun k => deepF l f k + 1) (x.kids.take j) = M at *
        generalize deepF l f kk = D at *
        clear hk hkl2 hup
        go_wp2_with (go_at_call 126; refine HI.out.mono ?_; rintro e w1 ⟨rfl, rfl⟩)
        all_goals
          go_round
          case rel => exact ⟨j + 1, by omega, by go_num, by rw [HSN.out]; first | go_num | (congr 1; omega)⟩
          case measure => simp [intOf]; omega
      · have hjj : j = x.kids.length := by omega
        subst hjj
        have HD := Lib.hid (show deepF l (f + 1) (m : Int) = mostF (fun k => deepF l f k + 1) (x.kids.take x.kids.length) from by rw [HDF.out, List.take_length])
        generalize mostF (fun k => deepF l f k + 1) (x.kids.take x.kids.length) = M at *
        go_wp2_with fail
        go_ret
        exact ⟨retI (by rw [HD.out]), rfl⟩
end Go.Proofs.YtmemadajjmmlpaaDoor
