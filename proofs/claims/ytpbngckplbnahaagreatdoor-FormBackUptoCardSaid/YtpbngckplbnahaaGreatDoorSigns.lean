/-
The iterator chars.signs: its contract for whatever loop body.
-/
import Derived.RangeFuncNested
import Derived.RangeFuncBound
import Derived.RangeFuncCalls
import Derived.RangeFuncLeaves
import Derived.RangeFuncBox
import Derived.Shelf.Abstract
import Derived.Shelf.RegionOpen
import Derived.WalkKit
import Derived.OwnWalkIn
import Derived.TacticsInMore
import Derived.LoopNIn
import Derived.LoopIn
import Derived.OpenShut
import Derived.Test.YtpbngckplbnahaaGreatDoorCharsOne
namespace Go.Proofs.YtpbngckplbnahaaGreatDoor
open Go.RowKit Go.Cl Go.Shelf
attribute [local go_sem] Oper.semAt_some

/-- A place, and a sign. -/
abbrev Sg := { x : Int × Int // (Lit.int .i32 x.2).wf = true }
theorem tail_wf (k : Nat) : ∀ (l : List UInt8) (lo hi n : Int), (Lit.int .i32 n).wf = true → (Lit.int .i32 (tailR k l lo hi n).1).wf = true := by
  induction k with
  | zero => intro l lo hi n h; exact h
  | succ k ih =>
    intro l lo hi n h
    cases l with
    | nil => rw [tailR]; decide +kernel
    | cons b r =>
      rw [tailR]
      split
      · decide +kernel
      · exact ih r _ _ _ (wf_bits _ _ _ _)
theorem tail_le (k : Nat) : ∀ (l : List UInt8) (lo hi n : Int), (tailR k l lo hi n).2 ≤ l.length := by
  induction k with
  | zero => intro l lo hi n; exact Nat.zero_le _
  | succ k ih =>
    intro l lo hi n
    cases l with
    | nil => exact Nat.le_refl _
    | cons b r =>
      rw [tailR]
      split
      · exact Nat.zero_le _
      · have := ih r 128 191 (stepN n b.toNat)
        simp only [List.length_cons]
        omega
theorem wf_small {x : Int} (h0 : 0 ≤ x) (h1 : x < 256) : (Lit.int .i32 x).wf = true := by
  have h1 : IntKind.i32.min = -2147483648 := by decide
  have h2 : IntKind.i32.max = 2147483647 := by decide
  simp [Lit.wf, h1, h2]
  omega
theorem mask_wf (b m : Int) : (Lit.int .i32 (maskN b m)).wf = true := by
  unfold maskN
  exact wf_bits _ _ _ _
theorem wf_wrong : (Lit.int .i32 65533).wf = true := by decide +kernel
theorem one_wf (l : List UInt8) : (Lit.int .i32 (oneR l).1).wf = true := by
  cases l with
  | nil => exact wf_wrong
  | cons b r =>
    show (Lit.int .i32 (oneL b r).1).wf = true
    unfold oneL
    dsimp only
    split
    · exact wf_wrong
    · split
      · have hb := b.toNat_lt
        exact wf_small (by omega) (by show (b.toNat : Int) < 256; omega)
      · have h := tail_wf (leadR b.toNat).1.toNat r (leadR b.toNat).2.1 (leadR b.toNat).2.2 (maskN b.toNat (leadR b.toNat).1) (mask_wf _ _)
        generalize tailR (leadR b.toNat).1.toNat r (leadR b.toNat).2.1 (leadR b.toNat).2.2 (maskN b.toNat (leadR b.toNat).1) = q at *
        exact h
theorem one_le {l : List UInt8} (h : 0 < l.length) : 1 ≤ (oneR l).2 ∧ (oneR l).2 ≤ l.length := by
  cases l with
  | nil => cases h
  | cons b r =>
    show 1 ≤ (oneL b r).2 ∧ (oneL b r).2 ≤ r.length + 1
    unfold oneL
    dsimp only
    split
    · exact ⟨Nat.le_refl _, by show 1 ≤ _; omega⟩
    · split
      · exact ⟨Nat.le_refl _, by show 1 ≤ _; omega⟩
      · have := tail_le (leadR b.toNat).1.toNat r (leadR b.toNat).2.1 (leadR b.toNat).2.2 (maskN b.toNat (leadR b.toNat).1)
        show 1 ≤ _ + 1 ∧ _ + 1 ≤ r.length + 1
        omega
/-- The signs of a text. -/
def signsN : Nat → Nat → List UInt8 → List Sg
  | 0, _, _ => []
  | f + 1, k, l => if l.length = 0 then [] else ⟨((k : Int), (oneR l).1), one_wf l⟩ :: signsN f (k + (oneR l).2) (l.drop (oneR l).2)
theorem signsN_more (f : Nat) : ∀ (g k : Nat) (l : List UInt8), l.length ≤ f → l.length ≤ g → signsN f k l = signsN g k l := by
  induction f with
  | zero =>
    intro g k l h hg
    cases g with
    | zero => rfl
    | succ g => rw [signsN, signsN, if_pos (by omega)]
  | succ f ih =>
    intro g k l h hg
    by_cases h0 : l.length = 0
    · rw [signsN, if_pos h0]
      cases g with
      | zero => rfl
      | succ g => rw [signsN, if_pos h0]
    · obtain ⟨g', rfl⟩ : ∃ j, g = j + 1 := ⟨g - 1, by omega⟩
      have hs := one_le (l := l) (by omega)
      have hd : (l.drop (oneR l).2).length = l.length - (oneR l).2 := List.length_drop
      rw [signsN, if_neg h0, signsN, if_neg h0, ih g' _ _ (by omega) (by omega)]
def signsL (k : Nat) (l : List UInt8) : List Sg := signsN l.length k l
theorem signs_step {k : Nat} {l : List UInt8} (h : 0 < l.length) : signsL k l = ⟨((k : Int), (oneR l).1), one_wf l⟩ :: signsL (k + (oneR l).2) (l.drop (oneR l).2) := by
  obtain ⟨f, hf⟩ : ∃ f, l.length = f + 1 := ⟨l.length - 1, by omega⟩
  have hs := one_le h
  have hd : (l.drop (oneR l).2).length = l.length - (oneR l).2 := List.length_drop
  unfold signsL
  rw [hf, signsN, if_neg (by omega), signsN_more f (l.drop (oneR l).2).length _ _ (by omega) (Nat.le_refl _)]
theorem signs_end {k : Nat} {l : List UInt8} (h : l.length = 0) : signsL k l = [] := by
  unfold signsL
  rw [h]
  rfl
/-- What a round keeps: the text's own cell. -/
def Kept (Bs : Nat) (W W' : World) : Prop := W'.cell? ⟨Bs, 0, none⟩ = W.cell? ⟨Bs, 0, none⟩

set_option maxRecDepth 100000 in
set_option maxHeartbeats 2000000 in
theorem signs1_in (n : Nat) (hn : 1 ≤ n) (l Bs : Nat) (s : ByteArray) (hs : s.size ≤ 1000000000) (J Jx : List Sg → World → Prop) (W : World) (hJ : AbidesFrom W.heap.size J)
    (hY : ∀ pre (x : Sg) W1, J pre W1 → pre.length < s.size → YieldAt Fence.wide (n - 1) Tryz.prog l #[.int .i64 x.1.1, .int .i32 x.1.2] W1 fun e W' =>
      (e = .returned (.bool true) ∧ J (pre ++ [x]) W' ∧ Kept Bs W1 W') ∨ (e = .returned (.bool false) ∧ Jx (pre ++ [x]) W'))
    (hBs : W.cell? ⟨Bs, 0, none⟩ = some (.string s)) (h0 : J [] W) :
    CallsIn Fence.wide n Tryz.prog 115 #[.func (.yield l) #[] #[], .pointer (some ⟨Bs, 0, none⟩)] W fun e W' => (∃ v, e = .returned v) ∧
      ((∃ ys, ys = signsL 0 s.data.toList ∧ J ys W') ∨ (∃ pre, pre <+: signsL 0 s.data.toList ∧ Jx pre W')) := by
  have hlen : s.data.toList.length = s.size := by simp
  refine callsIn_of_wp Tryz.func115 rfl trivial ?_ rfl
  simp only [Tryz.ntmps115, List.size_toArray, List.length_cons, List.length_nil, Nat.reduceAdd, Nat.reduceSub, Array.replicate_succ, Array.replicate_zero, List.push_toArray, List.append_toArray, List.nil_append, List.cons_append]
  gi_wp2
  gi_loopw [3, 4, 5, 10] (fun i _ _ _ wr => ∃ (k : Nat) (pre : List Sg), k ≤ s.size ∧ i = .int .i64 (k : Int) ∧ pre.length ≤ k ∧ signsL 0 s.data.toList = pre ++ signsL k (s.data.toList.drop k) ∧ J pre wr ∧ wr.cell? ⟨Bs, 0, none⟩ = some (.string s))
    (fun i _ _ _ _ => s.size - (intOf i).toNat)
  case atStart => exact ⟨0, [], Nat.zero_le _, rfl, Nat.le_refl _, rfl, h0, hBs⟩
  case round =>
    obtain ⟨k, pre, hk, rfl, hpk, he, hJs, hc⟩ := hrel
    by_cases hlt : k < s.size
    · have hdl : (s.data.toList.drop k).length = s.size - k := by rw [List.length_drop, hlen]
      have hone := one_le (l := s.data.toList.drop k) (by omega)
      have hx : (s.extract k s.size).data.toList = s.data.toList.drop k := by
        rw [ByteArray.data_extract, Array.toList_extract, List.extract_eq_take_drop]
        exact List.take_of_length_le (by omega)
      have hxs : (s.extract k s.size).size = s.size - k := by rw [ByteArray.size_extract]; omega
      have HO := Lib.hid (fun W => chOne_any (s.extract k s.size) W (by omega) (by omega))
      rw [hx] at HO
      gi_wp2
      refine ⟨trivial, callsIn_wide.2 ((HO.out _).mono ?_)⟩
      rintro e w2 ⟨rfl, m, rfl⟩
      have hJ2 : J pre (wr.drewN m) := hJ pre wr _ none hJs ⟨rfl, rfl, rfl, Nat.le_refl _, fun _ _ _ => rfl⟩ (fun r e => by cases e)
      have hc2 : (wr.drewN m).cell? ⟨Bs, 0, none⟩ = some (.string s) := hc
      have HST := Lib.hid (he.trans (by rw [signs_step (k := k) (by omega), List.drop_drop]))
      obtain ⟨fn, tmps, assign, body, hy, hR⟩ := hY pre ⟨((k : Int), (oneR (s.data.toList.drop k)).1), one_wf _⟩ (wr.drewN m) hJ2 (by omega)
      dsimp only at hy
      clear he hx HO
      gi_wp2
      refine hR.mono ?_
      rintro e W3 (⟨rfl, hJ3, hk3⟩ | ⟨rfl, hJx3⟩)
      · have hc3 : W3.cell? ⟨Bs, 0, none⟩ = some (.string s) := hk3.trans hc2
        gi_wp2
        go_roundw
        case rel => exact ⟨k + (oneR (s.data.toList.drop k)).2, pre ++ [⟨((k : Int), (oneR (s.data.toList.drop k)).1), one_wf _⟩], by omega, by go_num, by rw [List.length_append]; show _ + 1 ≤ _; omega, HST.out.trans (by rw [List.append_assoc]; rfl), hJ3, hc3⟩
        case measure => simp [intOf]; omega
      · gi_wp2
        refine bodyPost_ret (results_none rfl _ _ _) rfl ?_
        exact ⟨⟨_, rfl⟩, .inr ⟨_, by rw [HST.out]; exact ⟨_, by rw [List.append_assoc]; rfl⟩, hJx3⟩⟩
    · have HST := Lib.hid (he.trans (by rw [signs_end (by rw [List.length_drop, hlen]; omega), List.append_nil]))
      clear he
      gi_wp2
      go_end0
      exact ⟨⟨_, rfl⟩, .inl ⟨_, HST.out.symm, hJs⟩⟩
end Go.Proofs.YtpbngckplbnahaaGreatDoor
