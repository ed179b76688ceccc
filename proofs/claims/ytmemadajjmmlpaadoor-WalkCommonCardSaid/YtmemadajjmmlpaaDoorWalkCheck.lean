/-
The walks of package walk: check.
-/
import Derived.Test.YtmemadajjmmlpaaDoorWalkPath
namespace Go.Proofs.YtmemadajjmmlpaaDoor
open Go.RowKit Go.Cl
attribute [local go_sem ↓] Go.wp_at_zero Go.wp_at_succ

/-- The node on top of all above a node. -/
def topR (l : List Nd) (m : Int) : Int := (chainR l m).reverse.headD 0
def outB (n : Nat) (xs : List Int) : Bool := xs.any fun x => decide (x < 0 ∨ (n : Int) ≤ x)
def looseB (l : List Nd) (xs : List Int) : Bool := xs.any fun x => topR l x != 0
/-- What check says. -/
def checkW (l : List Nd) (xs : List Int) : Int := if checkD l ≠ 0 then checkD l else if outB l.length xs = true then 1 else if looseB l xs = true then 5 else 0
/-- What check hands back. -/
def WPost (w : World) (A : Option Addr) (n c : Nat) (q : Bool) (l : List Nd) (xs : List Int) (e : Ending) (w' : World) : Prop :=
  Below w.heap.size w w' ∧ ((checkW l xs ≠ 0 ∧ e = .returned (.tuple #[.pointer none, .int .i64 (checkW l xs)])) ∨
    (checkW l xs = 0 ∧ ∃ g b o, A = some ⟨b, o, none⟩ ∧ e = .returned (.tuple #[.pointer (some ⟨g, 0, none⟩), .int .i64 0]) ∧ WkAt w' g b o n c q l ∧ w.heap.size ≤ g))
theorem wpost_bad {w w' : World} {A : Option Addr} {n c : Nat} {q : Bool} {l : List Nd} {xs : List Int} {e : Int} (h : checkW l xs = e) (h0 : e ≠ 0) (hb : Below w.heap.size w w') : WPost w A n c q l xs (.returned (.tuple #[.pointer none, .int .i64 e])) w' :=
  ⟨hb, Or.inl ⟨by rw [h]; exact h0, by rw [h]⟩⟩
theorem wpost_good {w w' : World} {b o n c g : Nat} {q : Bool} {l : List Nd} {xs : List Int} (h : checkW l xs = 0) (hb : Below w.heap.size w w') (hk : WkAt w' g b o n c q l) (hg : w.heap.size ≤ g) : WPost w (some ⟨b, o, none⟩) n c q l xs (.returned (.tuple #[.pointer (some ⟨g, 0, none⟩), .int .i64 0])) w' :=
  ⟨hb, Or.inr ⟨h, g, b, o, rfl, rfl, hk, hg⟩⟩
theorem any_step {p : Int → Bool} {xs : List Int} {k : Nat} {x : Int} (h : xs.any p = (xs.drop k).any p) (hx : xs[k]? = some x) (hp : p x = false) : xs.any p = (xs.drop (k + 1)).any p := by
  rw [h, List.drop_eq_getElem_cons (List.getElem?_eq_some_iff.1 hx).1, (List.getElem?_eq_some_iff.1 hx).2, List.any_cons, hp, Bool.false_or]
theorem any_hit {p : Int → Bool} {xs : List Int} {k : Nat} {x : Int} (hx : xs[k]? = some x) (hp : p x = true) : xs.any p = true := List.any_eq_true.2 ⟨x, List.mem_of_getElem? hx, hp⟩
theorem any_end {p : Int → Bool} {xs : List Int} {k : Nat} (h : xs.any p = (xs.drop k).any p) (hk : xs.length ≤ k) : xs.any p = false := by
  rw [h, List.drop_of_length_le hk]
  rfl

set_option maxRecDepth 100000 in
set_option maxHeartbeats 4000000 in
theorem check_walk (A : Option Addr) (n c : Nat) (l : List Nd) (q : Bool) (A2 : Option Addr) (n2 c2 : Nat) (xs : List Int) (w : World) (B : Nat) (hl : Sl tNd w (lt B) A n c l) (hB : B ≤ w.heap.size) (hx : Sl (tInt .i64) w (lt w.heap.size) A2 n2 c2 xs) :
    Calls Tryd.prog 37 #[.agg #[.slice A n c, .bool q], .slice A2 n2 c2] w (WPost w A n c q l xs) := by
  have hn1 := hl.small
  have hn2 := hx.small
  have HX := Lib.hid hx
  have HL := Lib.hid hl.hn
  have HL2 := Lib.hid hx.hn
  have hc2 := hx.hc
  obtain ⟨w0, hw0⟩ : ∃ w0, w0 = w.alloc (.cells #[.slice A n c, .bool q] 24) := ⟨_, rfl⟩
  have hbx : w0.heap[w.heap.size]? = some (.cells #[.slice A n c, .bool q] 24 (0, 0)) := by rw [hw0]; exact heap_alloc_new w _
  have b0 : w0.cell? ⟨w.heap.size, 0, none⟩ = some (.slice A n c) := cell_blk hbx rfl
  have b1 : w0.cell? ⟨w.heap.size, 1, none⟩ = some (.bool q) := cell_blk hbx rfl
  have hb0 : Below w.heap.size w w0 := by rw [hw0]; exact (Below.refl _ _).alloc (Nat.le_refl _) _
  have hz0 : w0.heap.size = w.heap.size + 1 := by rw [hw0]; exact World.size_alloc w _
  have HB0 := Lib.hid hb0
  have HBX := Lib.hid hbx
  have HCH := Lib.hid (check_dom A n c l q w0 B (hl.below hb0 hB) (Nat.le_trans hB hb0.size))
  clear hb0 hbx hx
  go_enter Tryd.func37, Tryd.ntmps37
  go_upto_region 1 with fail
  rw [← hw0]
  clear hw0
  by_cases hce : checkD l = 0
  · rw [hce] at HCH
    have ht := tree_of hce
    have hpos := ht.pos
    have HTR := Lib.hid ht
    have hn0 : 0 < n := by have := HL.out; omega
    have hn200 : n ≤ 200 := by have := HL.out; have := ht.small; omega
    obtain ⟨b, o, rfl, hd⟩ := doc_at hl hn0
    have hcap := hl.hc
    have HW0 := Lib.hid (show checkW l xs = (if outB l.length xs = true then 1 else if looseB l xs = true then 5 else 0) from by unfold checkW; rw [if_neg (by rw [hce]; simp)])
    clear hce ht
    go_upto_region 4 with (go_at_call 24; refine HCH.out.mono ?_; rintro e w1 ⟨rfl, hb1⟩)
    have HB1 := Lib.hid (HB0.out.trans (hb1.mono HB0.out.size))
    have hbx1 : w1.heap[w.heap.size]? = some (.cells #[.slice (some ⟨b, o, none⟩) n c, .bool q] 24 (0, 0)) := (hb1.block _ (by omega)).trans HBX.out
    have HBX1 := Lib.hid hbx1
    have y0 : w1.cell? ⟨w.heap.size, 0, none⟩ = some (.slice (some ⟨b, o, none⟩) n c) := cell_blk hbx1 rfl
    have y1 : w1.cell? ⟨w.heap.size, 1, none⟩ = some (.bool q) := cell_blk hbx1 rfl
    have hz1 : w.heap.size < w1.heap.size := (Array.getElem?_eq_some_iff.1 hbx1).1
    clear hb1 hbx1 b0 b1
    go_upto_region 5 with fail
    obtain ⟨w2, hw2⟩ : ∃ w2, w2 = w1.alloc (.cells #[.slice (some ⟨b, o, none⟩) n c, .bool q] 118) := ⟨_, rfl⟩
    have hwk : WkAt w2 w1.heap.size b o n c q l := by
      have hbw : Below w1.heap.size w1 w2 := by rw [hw2]; exact (Below.refl _ _).alloc (Nat.le_refl _) _
      refine ⟨by rw [hw2]; exact heap_alloc_new w1 _, ?_, hcap, HTR.out⟩
      exact ((hd.below HB1.out hB).more (Nat.le_trans hB HB1.out.size)).below hbw (Nat.le_refl _) |>.more hbw.size
    have hbx2 : w2.heap[w.heap.size]? = some (.cells #[.slice (some ⟨b, o, none⟩) n c, .bool q] 24 (0, 0)) := by rw [hw2]; exact (Lib.alloc_old w1 _ _ hz1).trans HBX1.out
    have z0 : w2.cell? ⟨w.heap.size, 0, none⟩ = some (.slice (some ⟨b, o, none⟩) n c) := cell_blk hbx2 rfl
    have hbw2 : Below w.heap.size w w2 := by rw [hw2]; exact HB1.out.alloc (by omega) _
    have HWK := Lib.hid hwk
    have HB2 := Lib.hid hbw2
    have hx2 := HX.out.below hbw2 (Nat.le_refl _)
    have HX2 := Lib.hid hx2
    rw [← hw2]
    clear hw2 y0 y1 hwk hbx2 hbw2 hx2
    go_wp2_with fail
    go_loop [22] (fun s => ∃ k : Nat, k ≤ n2 ∧ s = .int .i64 (k : Int) ∧ Hid (outB l.length xs = outB l.length (xs.drop k))) (fun s => n2 - (intOf s).toNat)
    case atStart => exact ⟨0, Nat.zero_le _, rfl, Lib.hid rfl⟩
    case round =>
      obtain ⟨k, hk, rfl, HO⟩ := hrel
      by_cases hlt : k < n2
      · obtain ⟨x, hx⟩ : ∃ x, xs[k]? = some x := get_some (by have := HL2.out; omega)
        obtain ⟨gx, ox, rfl, _, cx, _⟩ := HX2.out.int hx
        have HXK := Lib.hid hx
        clear hx
        by_cases h1 : x < 0
        · have HR := Lib.hid (HW0.out.trans (if_pos (any_hit HXK.out (decide_eq_true (Or.inl h1)))))
          go_wp2_with fail
          go_ret2
          exact wpost_bad HR.out (by decide) HB2.out
        · by_cases h2 : (n : Int) ≤ x
          · have HR := Lib.hid (HW0.out.trans (if_pos (any_hit HXK.out (decide_eq_true (Or.inr (by have := HL.out; omega))))))
            go_wp2_with fail
            go_ret2
            exact wpost_bad HR.out (by decide) HB2.out
          · have HO2 := Lib.hid (any_step HO.out HXK.out (decide_eq_false (by have := HL.out; omega)))
            go_wp2_with fail
            go_round
            case rel => exact ⟨k + 1, by omega, by go_num, HO2⟩
            case measure => simp [intOf]; omega
      · have HOE := Lib.hid (any_end HO.out (by have := HL2.out; omega))
        have HW1 := Lib.hid (HW0.out.trans (if_neg (by show ¬ outB l.length xs = true; rw [show outB l.length xs = false from HOE.out]; decide)))
        have HIN : Hid (∀ x ∈ xs, ∃ m : Nat, x = (m : Int) ∧ m < l.length) := fun x hx => by
          have h := HOE.out
          rw [List.any_eq_false] at h
          have := h x hx
          simp at this
          exact ⟨x.toNat, by omega, by omega⟩
        go_wp2_with fail
        go_loopw [38] (fun s wr => ∃ k : Nat, k ≤ n2 ∧ s = .int .i64 (k : Int) ∧ Below w2.heap.size w2 wr ∧ Hid (looseB l xs = looseB l (xs.drop k))) (fun s _ => n2 - (intOf s).toNat)
        case atStart => exact ⟨0, Nat.zero_le _, rfl, Below.refl _ _, Lib.hid rfl⟩
        case round =>
          obtain ⟨j, hj, rfl, hb, HJ⟩ := hrel
          have HBJ := Lib.hid hb
          have hzw := HB2.out.size
          by_cases hlt2 : j < n2
          · obtain ⟨x, hx⟩ : ∃ x, xs[j]? = some x := get_some (by have := HL2.out; omega)
            obtain ⟨m, rfl, hm⟩ := HIN.out x (List.mem_of_getElem? hx)
            obtain ⟨gx, ox, rfl, _, cx, _⟩ := (HX2.out.below hb hzw).int hx
            have HXK := Lib.hid hx
            have HP := Lib.hid (path_any wr w1.heap.size b o n c q l m (HWK.out.below hb) hm)
            have hcs := HTR.out.chain_step hm
            have hcl := HTR.out.chain_len hm
            clear hx hb
            go_wp2_with fail
            refine HP.out.mono ?_
            rintro e w3 ⟨v, rfl, hown, hb3⟩
            have hlen : 0 < (chainR l m).length := by rw [hcs, List.length_cons]; omega
            obtain ⟨A3, c3, rfl⟩ := Own.form hown
            obtain ⟨gg, cells, rfl, hgg, hgl, hrow, hcell, _⟩ := Own.block hown hlen
            have htop : (chainR l m).reverse[0]? = some (topR l m) := by
              unfold topR
              cases hr : (chainR l m).reverse with
              | nil =>
                have := congrArg List.length hr
                simp at this
                rw [this] at hlen
                simp at hlen
              | cons a r => rfl
            obtain ⟨cs, ⟨rfl, _⟩, hj2⟩ := hrow.at_ htop
            have ct : w3.cell? ⟨gg, 0, none⟩ = some (.int .i64 (topR l m)) := hcell 0 _ (by have h3 := hj2 0 _ rfl; simpa [tInt] using h3)
            have HB3 := Lib.hid (HBJ.out.trans (hb3.mono HBJ.out.size))
            generalize (chainR l m).length = len at *
            clear hown hrow hcell hj2 htop hcs hb3
            by_cases ht0 : topR l m = 0
            · have hJ2 := Lib.hid (any_step HJ.out HXK.out (by rw [ht0]; rfl))
              rw [ht0] at ct
              clear ht0
              go_wp2_with fail
              go_roundw
              case rel => exact ⟨j + 1, by omega, by go_num, HB3.out, hJ2⟩
              case measure => simp [intOf]; omega
            · have hJ2 := Lib.hid (HW1.out.trans (if_pos (any_hit (p := fun x => topR l x != 0) HXK.out (by simpa using ht0))))
              have ht1 : (topR l m != 0) = true := by simpa using ht0
              clear ht0
              go_wp2_with fail
              go_ret2
              exact wpost_bad hJ2.out (by decide) (HB2.out.trans (HB3.out.mono hzw))
          · have hJE := Lib.hid (HW1.out.trans (if_neg (by rw [show looseB l xs = false from any_end HJ.out (by have := HL2.out; omega)]; decide)))
            go_wp2_with fail
            go_ret2
            exact wpost_good hJE.out (HB2.out.trans (hb.mono hzw)) (HWK.out.below hb) (Nat.le_of_lt hz1)
  · have HR := Lib.hid (show checkW l xs = checkD l from by unfold checkW; rw [if_pos hce])
    have hce1 : (checkD l != 0) = true := by simpa using hce
    have HCE := Lib.hid hce
    generalize checkD l = e0 at *
    clear hce
    go_wp2_with (go_at_call 24; refine HCH.out.mono ?_; rintro e w1 ⟨rfl, hb1⟩)
    go_ret2
    exact wpost_bad HR.out HCE.out (HB0.out.trans (hb1.mono HB0.out.size))
end Go.Proofs.YtmemadajjmmlpaaDoor
