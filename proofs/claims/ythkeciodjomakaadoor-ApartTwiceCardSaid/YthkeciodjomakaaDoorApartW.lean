/-
The walks of package apart: root, and what the library's search says at whole numbers.
-/
import Derived.Test.YthkeciodjomakaaDoorApartLaw2
import Derived.Test.YthkeciodjomakaaDoorEdDocs
namespace Go.Proofs.YthkeciodjomakaaDoor
open Go.RowKit Go.Cl
attribute [local go_sem ↓] Go.wp_at_zero Go.wp_at_succ

theorem Tree.top_more {l : List Nd} (T : Tree l) : ∀ (F m : Nat), m < l.length → depZ l m ≤ F → topF l F m = topF l (depZ l m) m := by
  intro F
  induction F with
  | zero =>
    intro m hm h
    have := T.dep_par hm
    omega
  | succ F ih =>
    intro m hm h
    have hd := T.dep_par hm
    rw [← hd, topF, topF]
    rcases T.par hm with e | ⟨p, e, hp, _⟩
    · rw [e]; rfl
    · rw [e] at hd ⊢
      rw [if_pos (by omega), if_pos (by omega)]
      exact ih p hp (by omega)
theorem Tree.dep_41 {l : List Nd} (T : Tree l) {m : Nat} (hm : m < l.length) : depZ l m ≤ 41 := by
  have := (T.deep m hm).1
  unfold depZ
  rw [if_neg (by omega)]
  omega
theorem Tree.top_in {l : List Nd} (T : Tree l) {m : Nat} (hm : m < l.length) : ∃ z : Nat, topD l m = (z : Int) ∧ z < l.length := by
  have key : ∀ (F m : Nat), m < l.length → ∃ z : Nat, topF l F m = (z : Int) ∧ z < l.length := by
    intro F
    induction F with
    | zero => intro m hm; exact ⟨m, rfl, hm⟩
    | succ F ih =>
      intro m hm
      rw [topF]
      rcases T.par hm with e | ⟨p, e, hp, _⟩
      · rw [e]; exact ⟨m, rfl, hm⟩
      · rw [e, if_pos (by omega)]; exact ih p hp
  exact key 41 m hm
/-- What root is at. -/
def RtRel (l : List Nd) (n : Nat) (m : Nat) : Prop := topD l n = topF l (depZ l m) m
set_option maxRecDepth 100000 in
set_option maxHeartbeats 1000000 in
theorem root_any (A : Option Addr) (n c : Nat) (l : List Nd) (q : Bool) (k : Nat) (w : World) (B : Nat) (hl : Sl tNd w (lt B) A n c l) (hB : B ≤ w.heap.size) (T : Tree l) (hk : k < l.length) :
    Calls Tryd.prog 69 #[.agg #[.slice A n c, .bool q], .int .i64 (k : Int)] w fun e w' => e = .returned (.int .i64 (topD l (k : Int))) ∧ Below w.heap.size w w' := by
  have HL := Lib.hid hl.hn
  have HT := Lib.hid T
  obtain ⟨b, o, rfl, hd⟩ := doc_at hl (by have := hl.hn; omega)
  have hcap : n ≤ c := hl.hc
  have hsm := hl.small
  obtain ⟨w0, hw0⟩ : ∃ w0, w0 = w.alloc (.cells #[.slice (some ⟨b, o, none⟩) n c, .bool q] 24) := ⟨_, rfl⟩
  have bx : w0.cell? ⟨w.heap.size, 0, none⟩ = some (.slice (some ⟨b, o, none⟩) n c) := by rw [hw0]; exact cell_blk (heap_alloc_new w _) rfl
  have hb0 : Below w.heap.size w w0 := by rw [hw0]; exact (Below.refl _ _).alloc (Nat.le_refl _) _
  have HD := Lib.hid (hd.below hb0 hB)
  have HB0 := Lib.hid hb0
  have H0 : Hid (RtRel l k k) := T.top_more 41 k hk (T.dep_41 hk)
  clear hd hb0 T
  go_enter Tryd.func69, Tryd.ntmps69
  go_upto_region 1 with fail
  rw [← hw0]
  clear hw0
  go_loop [1] (fun s => ∃ m : Nat, m < n ∧ s = .int .i64 (m : Int) ∧ Hid (RtRel l k m)) (fun s => depZ l (intOf s))
  case atStart => exact ⟨k, by have := HL.out; omega, rfl, H0⟩
  case round =>
    obtain ⟨m, hm, rfl, HR⟩ := hrel
    obtain ⟨x, hx⟩ : ∃ x, l[m]? = some x := get_some (by have := HL.out; omega)
    obtain ⟨_, _, _, _, _, _, _, _, _, _, _, c4, _⟩ := HD.out.at_ m x hx
    have hml : m < l.length := by have := HL.out; omega
    have HPD := Lib.hid (parD_at hx)
    have HDP := Lib.hid (HT.out.dep_par hml)
    have HPR := Lib.hid (HT.out.par hml)
    have i1 : (0 : Int) ≤ (m : Int) := by omega
    have i2 : (m : Int) < (n : Int) := by omega
    by_cases hp0 : 0 ≤ x.parent
    · obtain ⟨p, hp⟩ : ∃ p : Nat, x.parent = (p : Int) := ⟨x.parent.toNat, by omega⟩
      have hpn : p < n := by
        have h1 := HPR.out
        rw [HPD.out, hp] at h1
        rcases h1 with e | ⟨p', e, h, _⟩
        · omega
        · have := HL.out; omega
      have HR2 : Hid (RtRel l k p) := by
        have h1 : topD l k = topF l (depZ l m) m := HR.out
        show topD l k = topF l (depZ l p) p
        rw [h1, ← HDP.out, topF, HPD.out, hp, if_pos (by omega)]
      have HM : Hid (depZ l p < depZ l m) := by have h1 := HDP.out; rw [HPD.out, hp] at h1; show depZ l p < depZ l m; omega
      rw [hp] at c4
      clear hx hp hp0 hml
      go_wp2_with fail
      go_round
      case rel => exact ⟨p, hpn, rfl, HR2⟩
      case measure => simp only [intOf]; exact HM.out
    · have HR2 := Lib.hid (show topD l k = (m : Int) from by
        have h1 : topD l k = topF l (depZ l m) m := HR.out
        rw [h1, ← HDP.out, topF, HPD.out, if_neg hp0])
      clear hx
      go_wp2_with fail
      go_ret
      exact ⟨retI HR2.out.symm, HB0.out⟩
theorem any_mem {xs ys : List Int} (p : Int → Bool) (h : ∀ x, x ∈ xs ↔ x ∈ ys) : xs.any p = ys.any p := by
  rw [Bool.eq_iff_iff, List.any_eq_true, List.any_eq_true]
  exact ⟨fun ⟨x, hx, k⟩ => ⟨x, (h x).1 hx, k⟩, fun ⟨x, hx, k⟩ => ⟨x, (h x).2 hx, k⟩⟩
/-- Whether two edits clash. -/
def clB (l : List Nd) (e f : Edt) : Bool := (touchD l e).any fun n => decide (n ∈ touchD l f)
theorem clB_comm (l : List Nd) (e f : Edt) : clB l e f = clB l f e := by
  unfold clB
  rw [Bool.eq_iff_iff, List.any_eq_true, List.any_eq_true]
  exact ⟨fun ⟨x, hx, k⟩ => ⟨x, of_decide_eq_true k, decide_eq_true hx⟩, fun ⟨x, hx, k⟩ => ⟨x, of_decide_eq_true k, decide_eq_true hx⟩⟩
theorem clB_none {l : List Nd} {e f : Edt} (h : clB l e f = false) : ∀ n ∈ touchD l e, n ∉ touchD l f := fun n hn hf => by
  have := List.any_eq_false.1 h n hn
  simp [hf] at this
def clS (l : List Nd) (e f : Edt) : Bool × Int := if apErr l e ≠ 0 then (false, apErr l e) else if apErr l f ≠ 0 then (false, apErr l f) else (clB l e f, 0)

/-- slices.IndexFunc over whole numbers, as far as slices.ContainsFunc looks. -/
theorem anyInt_idx (g : Nat) (A : Option Addr) (n c : Nat) (xs : List Int) (p : Int → Bool) (w : World) (B : Nat) (hl : Sl (tInt .i64) w (lt B) A n c xs) (hB : B ≤ w.heap.size)
    (hp : ∀ W : World, Below w.heap.size w W → ∀ x ∈ xs, Calls Tryd.prog 43 #[.int .i64 x, .pointer (some ⟨g, 0, none⟩)] W fun e W' => e = .returned (.bool (p x)) ∧ Below W.heap.size W W') :
    Calls Tryd.prog 77 #[.slice A n c, .func (.func 43) #[] #[.pointer (some ⟨g, 0, none⟩)]] w fun e w' => ∃ r : Int, e = .returned (.int .i64 r) ∧ Below w.heap.size w w' ∧ decide (0 ≤ r) = xs.any p := by
  have hn1 := hl.small
  have HL := Lib.hid hl.hn
  go_enter Tryd.func77, Tryd.ntmps77
  go_wp2_with fail
  go_loopw [8] (fun i wr => ∃ k : Nat, k ≤ n ∧ i = .int .i64 (k : Int) ∧ Below w.heap.size w wr ∧ (xs.take k).any p = false) (fun i _ => n - (intOf i).toNat)
  case atStart => exact ⟨0, Nat.zero_le _, rfl, Below.refl _ _, by simp⟩
  case round =>
    obtain ⟨k, hk, rfl, hb, hany⟩ := hrel
    have HA := Lib.hid hany
    clear hany
    by_cases hlt : k < n
    · obtain ⟨x, hx⟩ : ∃ x, xs[k]? = some x := get_some (by have := HL.out; omega)
      have HX := Lib.hid hx
      have hmem : x ∈ xs := List.mem_of_getElem? hx
      obtain ⟨bq, oq, rfl, _, hc0, _⟩ := (hl.below hb hB).int hx
      have HCALL := Lib.hid (hp wr hb x hmem)
      clear hx
      have HTS := Lib.hid (take_snoc HX.out)
      cases hpx : p x with
      | true =>
        have HP := Lib.hid hpx
        clear hpx
        go_wp2_with (go_at_call 43; refine HCALL.out.mono ?_; rintro e w1 ⟨rfl, hb1⟩; rw [HP.out])
        have hb2 := Lib.hid (hb.trans (hb1.mono hb.size))
        clear hb hb1
        go_wp2_with fail
        go_ret
        exact ⟨k, rfl, hb2.out, by
          have h1 : xs.any p = true := List.any_eq_true.2 ⟨x, hmem, HP.out⟩
          rw [h1]; simp⟩
      | false =>
        have HP := Lib.hid hpx
        clear hpx
        go_wp2_with (go_at_call 43; refine HCALL.out.mono ?_; rintro e w1 ⟨rfl, hb1⟩; rw [HP.out])
        have hb2 := Lib.hid (hb.trans (hb1.mono hb.size))
        clear hb hb1
        go_wp2_with fail
        go_roundw
        case rel => exact ⟨k + 1, by omega, by go_num, hb2.out, by rw [HTS.out, List.any_append, HA.out]; simp [HP.out]⟩
        case measure => simp [intOf]; omega
    · go_wp2_with fail
      go_ret
      exact ⟨-1, rfl, hb, by
        have h1 : xs.take k = xs := List.take_of_length_le (by have := HL.out; omega)
        have h2 := HA.out
        rw [h1] at h2
        rw [h2]; rfl⟩
theorem anyInt (g : Nat) (A : Option Addr) (n c : Nat) (xs : List Int) (p : Int → Bool) (w : World) (B : Nat) (hl : Sl (tInt .i64) w (lt B) A n c xs) (hB : B ≤ w.heap.size)
    (hp : ∀ W : World, Below w.heap.size w W → ∀ x ∈ xs, Calls Tryd.prog 43 #[.int .i64 x, .pointer (some ⟨g, 0, none⟩)] W fun e W' => e = .returned (.bool (p x)) ∧ Below W.heap.size W W') :
    Calls Tryd.prog 42 #[.slice A n c, .func (.func 43) #[] #[.pointer (some ⟨g, 0, none⟩)]] w fun e w' => e = .returned (.bool (xs.any p)) ∧ Below w.heap.size w w' := by
  have HC := Lib.hid (anyInt_idx g A n c xs p w B hl hB hp)
  clear hp
  go_enter Tryd.func42, Tryd.ntmps42
  go_wp2_with fail
  refine HC.out.mono ?_
  rintro e w1 ⟨r, rfl, hb, hr⟩
  have HR := Lib.hid hr
  clear hr
  go_wp2_with fail
  go_ret
  exact ⟨retB HR.out, hb⟩
end Go.Proofs.YthkeciodjomakaaDoor
