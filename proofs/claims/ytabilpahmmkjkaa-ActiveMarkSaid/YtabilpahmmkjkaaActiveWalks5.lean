/-
The walks of package active: Cleared, Clear, Again.
-/
import Derived.Test.YtabilpahmmkjkaaActiveWalks4
namespace Go.Proofs.Ytabilpahmmkjkaa
open Go.RowKit Go.Cl

theorem cleared_any (A : Option Addr) (n c : Nat) (l : List Item) (w : World) (hl : Sl tItem w (lt w.heap.size) A n c l) :
    Calls Try.prog 35 #[.slice A n c] w fun e w' => e = .returned (.slice A (lastN l - 1) c) ∧ Below w.heap.size w w' := by
  have HC := Lib.hid (last_any A n c l w w.heap.size hl (Nat.le_refl _))
  have hle := lastN_le l
  rw [← hl.hn] at hle
  have hnc := hl.hc
  have hns := hl.small
  clear hl
  generalize lastN l = q at *
  have hmax : max ((q : Int) - 1) 0 = ((q - 1 : Nat) : Int) := by omega
  have hq1 : q - 1 ≤ c := by omega
  go_enter Try.func35, Try.ntmps35
  go_wp2_with fail
  refine HC.out.mono ?_
  rintro e w1 ⟨rfl, hb⟩
  go_wp2_with fail
  go_ret
  exact ⟨rfl, hb⟩

theorem clear_any (A : Option Addr) (n c : Nat) (l : List Item) (w : World) (hl : Sl tItem w (lt w.heap.size) A n c l) (h0 : checkE l = 0) :
    Calls Try.prog 14 #[.slice A n c] w fun e w' => ∃ A' c', e = .returned (.tuple #[.slice A' (lastN l - 1) c', .int .i64 0]) ∧ Below w.heap.size w w' ∧ Sl tItem w' (lt w'.heap.size) A' (lastN l - 1) c' (l.take (lastN l - 1)) := by
  have HC := Lib.hid (check_any A n c l w w.heap.size hl (Nat.le_refl _))
  have H0 := Lib.hid h0
  have hle := lastN_le l
  rw [← hl.hn] at hle
  have hbb := hl.hb
  clear h0
  go_enter Try.func14, Try.ntmps14
  go_wp2_with fail
  refine HC.out.mono ?_
  rintro e w1 ⟨rfl, hb⟩
  rw [H0.out]
  go_wp2_with fail
  refine (own_any A n c l w1 w.heap.size (hl.below hb (Nat.le_refl _)) hb.size).mono ?_
  rintro e w2 ⟨A2, c2, rfl, hb2, hown2⟩
  have hs2 : Sl tItem w2 (lt w2.heap.size) A2 n c2 l := (hown2.sl (by decide) hbb).more fun b hb => hb.elim (fun h => h.1) fun h => h.2
  have hz1 := hb.size
  have hz2 := hb2.size
  go_wp2_with fail
  refine (cleared_any A2 n c2 l w2 hs2).mono ?_
  rintro e w3 ⟨rfl, hb3⟩
  have HB := Lib.hid ((hb.trans (hb2.mono hz1)).trans (hb3.mono (by omega)))
  have HS := Lib.hid (((hs2.below hb3 (Nat.le_refl _)).up hb3.size).cut_to (k := lastN l - 1) (by omega))
  clear hb hb2 hb3 hs2 hown2 hl
  go_wp2_with fail
  go_ret2
  exact ⟨A2, c2, rfl, HB.out, HS.out⟩

theorem missRev_le (op : List Int) (l : List Item) : missRev op l ≤ l.length := by
  induction l with
  | nil => simp [missRev]
  | cons x l ih => unfold missRev; split <;> (try split) <;> simp <;> omega

theorem again_any (A : Option Addr) (n c : Nat) (l : List Item) (A' : Option Addr) (n' c' : Nat) (op : List Int) (w : World) (hl : Sl tItem w (lt w.heap.size) A n c l) (ho : Sl (tInt .i64) w (lt w.heap.size) A' n' c' op) (h0 : checkE l = 0) (hn : n ≤ 1000) :
    Calls Try.prog 13 #[.slice A n c, .slice A' n' c'] w fun e w' => ∃ v, e = .returned (.tuple #[v, .int .i64 0]) ∧ Below w.heap.size w w' ∧ OwnF (tInt .i64) w' w.heap.size 3 v (n - missRev op l.reverse) ((List.range' (missRev op l.reverse) (n - missRev op l.reverse)).map Int.ofNat) := by
  have HC := Lib.hid (check_any A n c l w w.heap.size hl (Nat.le_refl _))
  have H0 := Lib.hid h0
  have hle := missRev_le op l.reverse
  rw [List.length_reverse, ← hl.hn] at hle
  clear h0
  go_enter Try.func13, Try.ntmps13
  go_wp2_with fail
  refine HC.out.mono ?_
  rintro e w1 ⟨rfl, hb⟩
  rw [H0.out]
  go_wp2_with fail
  refine (missing_any A n c l A' n' c' op w1 w.heap.size (hl.below hb (Nat.le_refl _)) (ho.below hb (Nat.le_refl _)) hb.size).mono ?_
  rintro e w2 ⟨rfl, hb2⟩
  have hb3 := hb.trans (hb2.mono hb.size)
  clear hb hb2 hl ho HC H0
  generalize hq : missRev op l.reverse = q at *
  have HQ := Lib.hid hq
  clear hq
  go_wp2_with fail
  go_loopw [7, 8] (fun v i wr => ∃ k : Nat, q ≤ k ∧ k ≤ n ∧ i = .int .i64 (k : Int) ∧ Below w.heap.size w wr ∧ OwnF (tInt .i64) wr w.heap.size 3 v (k - q) ((List.range' q (k - q)).map Int.ofNat)) (fun _ i _ => n - (intOf i).toNat)
  case atStart => exact ⟨q, Nat.le_refl _, hle, rfl, hb3, by rw [Nat.sub_self]; exact OwnF.nil _ _ _⟩
  case round =>
    obtain ⟨k, hqk, hk, rfl, hb, hown⟩ := hrel
    have hsz := hb.size
    by_cases hlt : k < n
    · have hap : (List.range' q (k + 1 - q)).map Int.ofNat = (List.range' q (k - q)).map Int.ofNat ++ [(k : Int)] := by
        rw [show k + 1 - q = (k - q) + 1 from by omega, List.range'_concat, List.map_append]
        simp; omega
      have HAP := Lib.hid hap
      have HKQ : Hid (k + 1 - q = k - q + 1) := by show _ = _; omega
      clear hap
      go_wp2_with (at_builtin; refine wpList_ap1 _ rfl (.tmp 23) (.tmp 25) 34 rfl elemInt (v := u7) (D := fun _ => False) rfl (hown.al _) (fun _ h => h.elim) (y := (k : Int)) (cs := [.int .i64 (k : Int)]) rfl ⟨rfl, WalkArith.wf_i64 (by omega)⟩ (cell_new wr _ _) (by omega) (by omega) (by rw [World.size_alloc]; omega) ?_; intro v3 w3 hown3 _ hbl3 _)
      go_roundw
      case rel => exact ⟨k + 1, by omega, by omega, by go_num, (hb.alloc (by omega) _).trans hbl3, by rw [HAP.out, HKQ.out]; exact hown3⟩
      case measure => simp [intOf]; omega
    · obtain rfl : n = k := by omega
      go_wp2_with fail
      go_ret2
      exact ⟨u7, rfl, hb, by rw [HQ.out]; exact hown⟩
end Go.Proofs.Ytabilpahmmkjkaa
