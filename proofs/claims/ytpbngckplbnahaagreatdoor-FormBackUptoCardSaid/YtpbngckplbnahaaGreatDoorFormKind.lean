/-
Forms: the walks of named, lower, kind, ticked, owner.
-/
import Derived.Test.YtpbngckplbnahaaGreatDoorFormKit
namespace Go.Proofs.YtpbngckplbnahaaGreatDoor
open Go.RowKit Go.Cl
attribute [local go_sem ↓] Go.wp_at_zero Go.wp_at_succ
section
variable {w w' : World} {B F : Nat} {A : Option Addr} {n c : Nat} {q : Bool} {O : Option Addr} {m k : Nat} {l : List Nd} {ord : List Int}
/-- The boxes of what named has kept. -/
structure NmB (w : World) (F X : Nat) (nm : ByteArray) : Prop where
  b1 : w.heap[X]? = some (.cells #[.pointer (some ⟨F, 0, none⟩)] 68 (0, 0))
  b2 : w.heap[X + 1]? = some (.cells #[.string nm] 9 (0, 0))
theorem NmB.below {X : Nat} {nm : ByteArray} (h : NmB w F X nm) (hb : Below w.heap.size w w') : NmB w' F X nm :=
  ⟨(hb.block _ (Array.getElem?_eq_some_iff.1 h.b1).1).trans h.b1, (hb.block _ (Array.getElem?_eq_some_iff.1 h.b2).1).trans h.b2⟩
set_option maxRecDepth 100000 in
theorem named_f (F : Nat) (nm : ByteArray) (w : World) :
    Calls Tryz.prog 63 #[.pointer (some ⟨F, 0, none⟩), .string nm] w fun e w' => e = .returned (.func (.func 111) #[] #[.pointer (some ⟨w.heap.size, 0, none⟩), .pointer (some ⟨w.heap.size + 1, 0, none⟩)]) ∧ NmB w' F w.heap.size nm ∧ Below w.heap.size w w' := by
  obtain ⟨wa, hwa⟩ : ∃ wa, wa = w.alloc (.cells #[.pointer (some ⟨F, 0, none⟩)] 68) := ⟨_, rfl⟩
  obtain ⟨wb, hwb⟩ : ∃ wb, wb = wa.alloc (.cells #[.string nm] 9) := ⟨_, rfl⟩
  have za : wa.heap.size = w.heap.size + 1 := by rw [hwa]; exact World.size_alloc w _
  have h1 : wb.heap[w.heap.size]? = some (.cells #[.pointer (some ⟨F, 0, none⟩)] 68 (0, 0)) := by rw [hwb, Lib.alloc_old _ _ _ (by omega), hwa]; exact heap_alloc_new w _
  have h2 : wb.heap[w.heap.size + 1]? = some (.cells #[.string nm] 9 (0, 0)) := by rw [hwb, ← za]; exact heap_alloc_new wa _
  have hb : Below w.heap.size w wb := by rw [hwb, hwa]; exact balloc (balloc (Below.refl _ _) _) _
  have HB := Lib.hid (show NmB wb F w.heap.size nm ∧ Below w.heap.size w wb from ⟨⟨h1, h2⟩, hb⟩)
  clear za h1 h2 hb
  go_enter Tryz.func63, Tryz.ntmps63
  go_upto_region 1 with fail
  rw [← hwa, ← hwb]
  clear hwa hwb
  go_wp2_with fail
  go_ret
  exact ⟨rfl, HB.out⟩
set_option maxRecDepth 100000 in
set_option maxHeartbeats 4000000 in
theorem named1_f (h : Fm w B F A n c q O m k l ord) {i X : Nat} (hi : i < l.length) (nm : ByteArray) (hX : NmB w F X nm) :
    Calls Tryz.prog 111 #[.int .i64 (i : Int), .pointer (some ⟨X, 0, none⟩), .pointer (some ⟨X + 1, 0, none⟩)] w fun e w' => e = .returned (.bool (namedF l nm i)) ∧ Below w.heap.size w w' := by
  obtain ⟨x, hx⟩ := get_some hi
  obtain ⟨b, o, rfl, i2, Aa, na, ca, Ak, nk, ck, hnd, p0, p1, p2, p3, p4, p5⟩ := h.at_ hx
  have HR := Lib.hid (show namedF l nm i = (x.name.toList == nm.toList && x.kind == 2) from by unfold namedF; rw [atD_at hx])
  have c0 := h.c0
  have x0 := cell_blk (i := 0) hX.b1 rfl
  have x1 := cell_blk (i := 0) hX.b2 rfl
  have i1 : (0 : Int) ≤ (i : Int) := by omega
  clear h hx hi hnd p2 p3 p4 p5 hX
  go_enter Tryz.func111, Tryz.ntmps111
  cases hnm : (x.name.toList == nm.toList) with
  | true =>
    have HN := Lib.hid hnm
    rw [hnm] at HR
    go_upto_region 1 with fail
    go_quiet (fail)
    generalize hwz : w.drewN _ = wz
    have hbz : Below w.heap.size w wz := by rw [← hwz]; exact below_dN (Below.refl _ _) _
    clear hwz
    go_wp2_with fail
    go_ret
    exact ⟨by rw [HR.out]; rfl, hbz⟩
  | false =>
    rw [hnm] at HR
    go_upto_region 1 with fail
    go_quiet (fail)
    generalize hwz : w.drewN _ = wz
    have hbz : Below w.heap.size w wz := by rw [← hwz]; exact below_dN (Below.refl _ _) _
    clear hwz
    go_wp2_with fail
    go_ret
    exact ⟨by rw [HR.out]; rfl, hbz⟩
/-- What named hands back asks for the name. -/
theorem asks_named (h : Fm w B F A n c q O m k l ord) (nm : ByteArray) {X : Nat} (hX : NmB w F X nm) :
    Asks 111 #[.pointer (some ⟨X, 0, none⟩), .pointer (some ⟨X + 1, 0, none⟩)] (namedF l nm) l w :=
  fun _ _ hi hW => named1_f (h.below hW) hi nm (hX.below hW)
theorem named_enters : ∀ args w, (callFunc 111 args).run Tryz.prog w = .ok (.enter 111 args) w := enters_of Tryz.func111 (by kernel_rfl) rfl

/-! ### lower -/
theorem lower1_f (W : World) (r : Nat) (hr : r ≤ 1114111) :
    Calls Tryz.prog 113 #[.int .i32 (r : Int)] W fun e w' => e = .returned (.int .i32 (lowB r)) ∧ ∃ q, w' = W.drewN q := by
  by_cases h1 : 65 ≤ (r : Int)
  · by_cases h2 : (r : Int) ≤ 90
    · have h3 : lowB r = (r : Int) + 32 := if_pos ⟨h1, h2⟩
      rw [h3]
      have h4 : IntKind.i32.wrap ((r : Int) + 32) = (r : Int) + 32 := IntWalk.i32_in _ (by omega)
      clear h3 hr
      go_enter Tryz.func113, Tryz.ntmps113
      go_wp2_with fail
      go_ret
      exact ⟨rfl, 0, rfl⟩
    · have h3 : lowB r = (r : Int) := if_neg fun h => h2 h.2
      rw [h3]
      clear h3 hr
      go_enter Tryz.func113, Tryz.ntmps113
      go_wp2_with fail
      go_ret
      exact ⟨rfl, 0, rfl⟩
  · have h3 : lowB r = (r : Int) := if_neg fun h => h1 h.1
    rw [h3]
    clear h3 hr
    go_enter Tryz.func113, Tryz.ntmps113
    go_wp2_with fail
    go_ret
    exact ⟨rfl, 0, rfl⟩
theorem lower_f (s : ByteArray) (hs : s.size ≤ 100000) (w : World) (hE : Env w) :
    Calls Tryz.prog 66 #[.string s] w fun e w' => e = .returned (.string (lowerF s)) ∧ Below w.heap.size w w' := by
  have HM := Lib.hid (Tryz.strings_Map_runes 113 #[] (enters_of Tryz.func113 (by kernel_rfl) rfl) lowB s w (by omega) (fun W r hr hW => lower1_f W r hr) (fun r hr => by unfold lowB; split <;> omega) hE.tabs)
  clear hs hE
  go_enter Tryz.func66, Tryz.ntmps66
  go_wp2_with (go_at_call 112; refine HM.out.mono ?_; rintro e w1 ⟨rfl, hb⟩)
  go_ret
  exact ⟨rfl, hb⟩
theorem ticked_f (s : ByteArray) (w : World) : Calls Tryz.prog 65 #[.string s] w fun e w' => e = .returned (.bool (tickF s)) ∧ w' = w := by
  cases h : s.toList == ([99, 104, 101, 99, 107, 98, 111, 120] : List UInt8) with
  | true =>
    have HR := Lib.hid (show tickF s = true from by unfold tickF; rw [h]; rfl)
    go_enter Tryz.func65, Tryz.ntmps65
    go_wp2_with fail
    go_ret
    exact ⟨by rw [HR.out]; rfl, rfl⟩
  | false =>
    have HR := Lib.hid (show tickF s = (s.toList == ([114, 97, 100, 105, 111] : List UInt8)) from by unfold tickF; rw [h]; rfl)
    go_enter Tryz.func65, Tryz.ntmps65
    go_wp2_with fail
    go_ret
    exact ⟨by rw [HR.out]; rfl, rfl⟩
end
end Go.Proofs.YtpbngckplbnahaaGreatDoor
