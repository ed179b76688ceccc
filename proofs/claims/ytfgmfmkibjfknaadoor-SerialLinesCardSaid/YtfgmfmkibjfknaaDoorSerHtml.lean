/-
What package serial's writer writes of a node, and its walks.
-/
import Derived.Test.YtfgmfmkibjfknaaDoorSerStr
import Derived.Test.YtfgmfmkibjfknaaDoorSerOpen
import Derived.Test.YtfgmfmkibjfknaaDoorEscape
import Derived.Test.YtfgmfmkibjfknaaDoorEdLaws
import Derived.Test.YtfgmfmkibjfknaaDoorRegionW
import Derived.Deep.QuietTactic
import Derived.BigQuiet
namespace Go.Proofs.YtfgmfmkibjfknaaDoor
open Go.RowKit Go.Cl
attribute [local go_sem ↓] Go.wp_at_zero Go.wp_at_succ

def nmD (l : List Nd) (z : Int) : ByteArray := match nodeAt l z with | some y => y.name | none => ⟨#[]⟩
/-- What is written of a text. -/
def wrTxt (l : List Nd) (x : Nd) : List UInt8 := if 0 ≤ x.parent ∧ rawN (nmD l x.parent) = 1 then x.text.data.toList else escL false x.text.data.toList
def wrAttr (a : DAttr) : List UInt8 := [32] ++ a.1.data.toList ++ [61, 34] ++ escL true a.2.data.toList ++ [34]
/-- Where a writer's walk stands. -/
structure SEnv (W : World) (B : Nat) (m : Int) (b o N : Nat) (l : List Nd) : Prop where
  doc : DocAt W B b o N l
  max : maxLenAt W m
  low : 0 < B
  le : B ≤ W.heap.size
theorem SEnv.next {W W' : World} {B : Nat} {m : Int} {b o N : Nat} {l : List Nd} (h : SEnv W B m b o N l) (hb : Below B W W') : SEnv W' B m b o N l :=
  ⟨h.doc.below hb (Nat.le_refl _), (hb.cell (p := ⟨0, 0, none⟩) h.low).trans h.max, h.low, Nat.le_trans h.le hb.size⟩
/-- What a writer's method leaves behind. -/
def SPost (W : World) (E B b o N c : Nat) (q : Bool) (bs out : List UInt8) (e : Ending) (W' : World) : Prop :=
  e = .returned (.tuple #[]) ∧ WrAt W' E B (some ⟨b, o, none⟩) N c q (bs ++ out) ∧ Below B W W' ∧ WKeep W W'
theorem bytes_app (a b : ByteArray) : (a ++ b).data.toList = a.data.toList ++ b.data.toList := by simp
theorem bytes_len (a : ByteArray) : a.data.toList.length = a.size := by simp
set_option maxRecDepth 100000 in
set_option maxHeartbeats 4000000 in
theorem wtext_any (x : Nd) (Aa : Option Addr) (na ca : Nat) (Ak : Option Addr) (nk ck : Nat) (W : World) (E B : Nat) (m : Int) (b o N c : Nat) (q : Bool) (l : List Nd) (bs : List UInt8) (hE : SEnv W B m b o N l) (hW : WrAt W E B (some ⟨b, o, none⟩) N c q bs) (hp : x.parent < 0 ∨ ∃ (p : Nat) (y : Nd), x.parent = (p : Int) ∧ l[p]? = some y) (ht : x.text.size ≤ 400) (hlen : bs.length + (wrTxt l x).length ≤ 140737488355328) :
    Calls Tryd.prog 87 #[.pointer (some ⟨E, 0, none⟩), .agg #[.int .i64 x.kind, .string x.name, .slice Aa na ca, .string x.text, .int .i64 x.parent, .slice Ak nk ck]] W (SPost W E B b o N c q bs (wrTxt l x)) := by
  obtain ⟨W0, hW0⟩ : ∃ W0, W0 = W.alloc (.cells #[.int .i64 x.kind, .string x.name, .slice Aa na ca, .string x.text, .int .i64 x.parent, .slice Ak nk ck] 45) := ⟨_, rfl⟩
  have hx0 : W0.heap[W.heap.size]? = some (.cells #[.int .i64 x.kind, .string x.name, .slice Aa na ca, .string x.text, .int .i64 x.parent, .slice Ak nk ck] 45 (0, 0)) := by rw [hW0]; exact heap_alloc_new W _
  have hb0 : Below W.heap.size W W0 := by rw [hW0]; exact (Below.refl _ _).alloc (Nat.le_refl _) _
  have hb0B : Below B W W0 := hb0.mono hE.le
  have HE0 := Lib.hid (hE.next hb0B)
  have HW0 := Lib.hid (hW.next hb0)
  have HB0 := Lib.hid hb0B
  have k3 := cell_blk (i := 3) hx0 rfl
  have k4 := cell_blk (i := 4) hx0 rfl
  have HWS := Lib.hid (fun (s : ByteArray) (h : bs.length + s.size ≤ 140737488355328) (u : World) (hb : Below W0.heap.size W0 u) => writeW E B (some ⟨b, o, none⟩) N c q bs s u (HW0.out.next hb) h (Nat.le_trans HE0.out.le hb.size))
  have HES := Lib.hid (fun (u : World) (hb : Below W0.heap.size W0 u) => escape_any x.text false u m (cell_be HE0.out.max hb) (by omega))
  have HLEN := Lib.hid hlen
  have e2 := HW0.out.d0
  have HX0 := Lib.hid hx0
  have HKW := Lib.hid (WKeep.below hb0)
  clear hx0 hb0 hb0B hlen hE hW
  go_enter Tryd.func87, Tryd.ntmps87
  go_upto_region 1 with fail
  rw [← hW0]
  clear hW0
  rcases hp with hp | hp
  · have HR := Lib.hid (show wrTxt l x = escL false x.text.data.toList from if_neg (fun h => by have := h.1; omega))
    have hneg : decide (0 ≤ x.parent) = false := decide_eq_false (by omega)
    clear hp
    go_quiet (fail)
    generalize hwv : W0.drewN _ = W1
    have hb1 : Below W0.heap.size W0 W1 := by rw [← hwv]; exact below_dN (Below.refl _ _) _
    clear hwv
    have HB1 := Lib.hid hb1
    have k3 := cell_be k3 hb1
    clear hb1 k4 e2 hneg
    go_upto_region 3 with fail
    have HWC := Lib.hid (fun (u : World) (hb : Below W1.heap.size W1 u) => HES.out u (HB1.out.trans (hb.mono HB1.out.size)))
    refine wp_region_G (S := fun w' : World => w'.cell? ⟨W.heap.size, 3, none⟩ = some (.string x.text)) (T := [5]) (by kernel_rfl) ?_
    have hS : (fun w' : World => w'.cell? ⟨W.heap.size, 3, none⟩ = some (.string x.text)) W1.drew := k3
    refine wpAnyG_pure (i := 0) (v := ?_) rfl (by kernel_rfl) (by kernel_rfl) (by kernel_rfl) (fun _ _ _ h => h) rfl ?_ ?_
    rotate_left
    · intro w'
      first | (go_simp; done) | (go_simp; with_reducible rfl)
    refine wpAnyG_pure (i := 1) (v := ?_) rfl (by kernel_rfl) (by kernel_rfl) (by kernel_rfl) (fun _ _ _ h => h) rfl ?_ ?_
    rotate_left
    · intro w'
      first | (go_simp; done) | (go_simp; with_reducible rfl)
    refine wpAnyG_pure (i := 2) (v := ?_) rfl (by kernel_rfl) (by kernel_rfl) (by kernel_rfl) (fun _ _ _ h => h) rfl ?_ ?_
    rotate_left
    · intro w'
      first | (go_simp; done) | (go_simp; with_reducible rfl)
    refine wpAnyG_pure (i := 3) (v := ?_) rfl (by kernel_rfl) (by kernel_rfl) (by kernel_rfl) (fun _ _ _ h => h) rfl ?_ ?_
    rotate_left
    · intro w'
      first | (go_simp; done) | (go_simp; with_reducible rfl)
    refine wpAnyG_take (i := 4) (v := ?_) rfl (by kernel_rfl) (by kernel_rfl) (by kernel_rfl) (by kernel_rfl) (fun _ _ _ h => h) hS rfl ?_ ?_
    rotate_left
    · intro w' hSw
      (try dsimp only at hSw)
      first | (go_simp; done) | (go_simp; with_reducible rfl)
    clear hS
    refine wpAnyG_one (i := 5) (by kernel_rfl) rfl rfl (fun K hK => ?_)
    go_simp
    go_at_call 130
    refine (HWC.out W1.drew (Below.refl _ W1).drew).mono ?_
    rintro e' w2 ⟨rfl, hb2⟩
    have hb02 : Below W0.heap.size W0 w2 := HB1.out.trans (((Below.refl _ W1).drew.trans hb2).mono HB1.out.size)
    have HB02 := Lib.hid hb02
    go_wp2_with fail
    refine hK.out _ _ (fun h => absurd (by decide) h) ?_
    clear hK K hb2 hb02
    refine wpAnyG_one (i := 6) (by kernel_rfl) rfl rfl (fun K hK => ?_)
    go_simp
    go_at_call 47
    refine (HWS.out _ (by have := HLEN.out; rw [HR.out] at this; show bs.length + (escL false x.text.data.toList).toArray.size ≤ _; simpa using this) w2 HB02.out).mono ?_
    rintro e' w3 ⟨rfl, hw3, hb3, hk3⟩
    have HW3 := Lib.hid hw3
    have HB3 := Lib.hid hb3
    have HK3 := Lib.hid hk3
    have s3 := cell_blk (i := 3) (hk3.blk ((HB02.out.block _ (Array.getElem?_eq_some_iff.1 HX0.out).1).trans HX0.out) (by decide)) rfl
    clear hw3 hb3 hk3
    go_wp2_with fail
    refine hK.out _ _ (fun _ _ => s3) ?_
    clear hK K
    refine wpAnyG_done (by kernel_rfl) ?_ _
    go_wp2_with fail
    go_end0
    exact ⟨rfl, by rw [HR.out]; exact HW3.out, HB0.out.trans ((HB02.out.mono HE0.out.le).trans HB3.out), HKW.out.trans ((WKeep.below HB02.out).trans HK3.out)⟩
  · obtain ⟨p, y, hpe, hy⟩ := hp
    have hpn : p < N := by have := HE0.out.doc.hn; have := (List.getElem?_eq_some_iff.1 hy).1; omega
    obtain ⟨_, _, _, _, _, _, _, _, y1, _⟩ := HE0.out.doc.at_ p y hy
    have HRW := Lib.hid (fun u => raw_any y.name u)
    have HNM := Lib.hid (show nmD l x.parent = y.name from by unfold nmD; rw [hpe, nodeAt_nat, hy])
    rw [hpe] at k4
    have i1 : (0 : Int) ≤ (p : Int) := by omega
    have i2 : (p : Int) < (N : Int) := by omega
    have hge : (0 : Int) ≤ x.parent := by omega
    by_cases hr : rawN y.name = 1
    · have HR := Lib.hid (show wrTxt l x = x.text.data.toList from if_pos ⟨hge, by rw [HNM.out]; exact hr⟩)
      rw [hr] at HRW
      clear hr hge hy hpn
      go_quiet ((go_at_call 129; exact Calls.quiet_of_same (HRW.out _)))
      generalize hwv : W0.drewN _ = W1
      have hb1 : Below W0.heap.size W0 W1 := by rw [← hwv]; exact below_dN (Below.refl _ _) _
      clear hwv
      have HB1 := Lib.hid hb1
      have k3 := cell_be k3 hb1
      clear hb1 k4 e2 y1
      go_upto_region 2 with fail
      have HWC := Lib.hid (fun (u : World) (hb : Below W1.heap.size W1 u) => HWS.out x.text (by have := HLEN.out; rw [HR.out] at this; simpa using this) u (HB1.out.trans (hb.mono HB1.out.size)))
      refine wp_region_G (S := fun w' : World => w'.cell? ⟨W.heap.size, 3, none⟩ = some (.string x.text)) (T := [5]) (by kernel_rfl) ?_
      have hS : (fun w' : World => w'.cell? ⟨W.heap.size, 3, none⟩ = some (.string x.text)) W1.drew := k3
      refine wpAnyG_pure (i := 0) (v := ?_) rfl (by kernel_rfl) (by kernel_rfl) (by kernel_rfl) (fun _ _ _ h => h) rfl ?_ ?_
      rotate_left
      · intro w'
        first | (go_simp; done) | (go_simp; with_reducible rfl)
      refine wpAnyG_pure (i := 1) (v := ?_) rfl (by kernel_rfl) (by kernel_rfl) (by kernel_rfl) (fun _ _ _ h => h) rfl ?_ ?_
      rotate_left
      · intro w'
        first | (go_simp; done) | (go_simp; with_reducible rfl)
      refine wpAnyG_pure (i := 2) (v := ?_) rfl (by kernel_rfl) (by kernel_rfl) (by kernel_rfl) (fun _ _ _ h => h) rfl ?_ ?_
      rotate_left
      · intro w'
        first | (go_simp; done) | (go_simp; with_reducible rfl)
      refine wpAnyG_pure (i := 3) (v := ?_) rfl (by kernel_rfl) (by kernel_rfl) (by kernel_rfl) (fun _ _ _ h => h) rfl ?_ ?_
      rotate_left
      · intro w'
        first | (go_simp; done) | (go_simp; with_reducible rfl)
      refine wpAnyG_take (i := 4) (v := ?_) rfl (by kernel_rfl) (by kernel_rfl) (by kernel_rfl) (by kernel_rfl) (fun _ _ _ h => h) hS rfl ?_ ?_
      rotate_left
      · intro w' hSw
        (try dsimp only at hSw)
        first | (go_simp; done) | (go_simp; with_reducible rfl)
      clear hS
      refine wpAnyG_one (i := 5) (by kernel_rfl) rfl rfl (fun K hK => ?_)
      go_simp
      go_at_call 47
      refine (HWC.out W1.drew (Below.refl _ W1).drew).mono ?_
      rintro e' w2 ⟨rfl, hw2, hb2, hk2⟩
      go_wp2_with fail
      refine hK.out _ _ (fun h => absurd (by decide) h) ?_
      clear hK K
      refine wpAnyG_done (by kernel_rfl) ?_ _
      have HW3 := Lib.hid hw2
      have HB3 := Lib.hid hb2
      have HK3 := Lib.hid hk2
      clear hw2 hb2 hk2
      go_wp2_with fail
      go_end0
      exact ⟨rfl, by rw [HR.out]; exact HW3.out, HB0.out.trans ((HB1.out.mono HE0.out.le).trans (((Below.refl _ W1).drew).trans HB3.out)), HKW.out.trans ((WKeep.below HB1.out).trans ((WKeep.below (Below.refl _ W1).drew).trans HK3.out))⟩
    · have HR := Lib.hid (show wrTxt l x = escL false x.text.data.toList from if_neg (fun h => hr (by rw [← HNM.out]; exact h.2)))
      obtain ⟨rv, hrv⟩ : ∃ rv, rawN y.name = rv := ⟨_, rfl⟩
      rw [hrv] at HRW hr
      have hrb : (rv == 1) = false := beq_eq_false_iff_ne.2 hr
      clear hrv hr hge hy hpn
      go_quiet ((go_at_call 129; exact Calls.quiet_of_same (HRW.out _)))
      generalize hwv : W0.drewN _ = W1
      have hb1 : Below W0.heap.size W0 W1 := by rw [← hwv]; exact below_dN (Below.refl _ _) _
      clear hwv
      have HB1 := Lib.hid hb1
      have k3 := cell_be k3 hb1
      clear hb1 k4 e2 y1
      go_upto_region 3 with fail
      have HWC := Lib.hid (fun (u : World) (hb : Below W1.heap.size W1 u) => HES.out u (HB1.out.trans (hb.mono HB1.out.size)))
      refine wp_region_G (S := fun w' : World => w'.cell? ⟨W.heap.size, 3, none⟩ = some (.string x.text)) (T := [5]) (by kernel_rfl) ?_
      have hS : (fun w' : World => w'.cell? ⟨W.heap.size, 3, none⟩ = some (.string x.text)) W1.drew := k3
      refine wpAnyG_pure (i := 0) (v := ?_) rfl (by kernel_rfl) (by kernel_rfl) (by kernel_rfl) (fun _ _ _ h => h) rfl ?_ ?_
      rotate_left
      · intro w'
        first | (go_simp; done) | (go_simp; with_reducible rfl)
      refine wpAnyG_pure (i := 1) (v := ?_) rfl (by kernel_rfl) (by kernel_rfl) (by kernel_rfl) (fun _ _ _ h => h) rfl ?_ ?_
      rotate_left
      · intro w'
        first | (go_simp; done) | (go_simp; with_reducible rfl)
      refine wpAnyG_pure (i := 2) (v := ?_) rfl (by kernel_rfl) (by kernel_rfl) (by kernel_rfl) (fun _ _ _ h => h) rfl ?_ ?_
      rotate_left
      · intro w'
        first | (go_simp; done) | (go_simp; with_reducible rfl)
      refine wpAnyG_pure (i := 3) (v := ?_) rfl (by kernel_rfl) (by kernel_rfl) (by kernel_rfl) (fun _ _ _ h => h) rfl ?_ ?_
      rotate_left
      · intro w'
        first | (go_simp; done) | (go_simp; with_reducible rfl)
      refine wpAnyG_take (i := 4) (v := ?_) rfl (by kernel_rfl) (by kernel_rfl) (by kernel_rfl) (by kernel_rfl) (fun _ _ _ h => h) hS rfl ?_ ?_
      rotate_left
      · intro w' hSw
        (try dsimp only at hSw)
        first | (go_simp; done) | (go_simp; with_reducible rfl)
      clear hS
      refine wpAnyG_one (i := 5) (by kernel_rfl) rfl rfl (fun K hK => ?_)
      go_simp
      go_at_call 130
      refine (HWC.out W1.drew (Below.refl _ W1).drew).mono ?_
      rintro e' w2 ⟨rfl, hb2⟩
      have hb02 : Below W0.heap.size W0 w2 := HB1.out.trans (((Below.refl _ W1).drew.trans hb2).mono HB1.out.size)
      have HB02 := Lib.hid hb02
      go_wp2_with fail
      refine hK.out _ _ (fun h => absurd (by decide) h) ?_
      clear hK K hb2 hb02
      refine wpAnyG_one (i := 6) (by kernel_rfl) rfl rfl (fun K hK => ?_)
      go_simp
      go_at_call 47
      refine (HWS.out _ (by have := HLEN.out; rw [HR.out] at this; show bs.length + (escL false x.text.data.toList).toArray.size ≤ _; simpa using this) w2 HB02.out).mono ?_
      rintro e' w3 ⟨rfl, hw3, hb3, hk3⟩
      have HW3 := Lib.hid hw3
      have HB3 := Lib.hid hb3
      have HK3 := Lib.hid hk3
      have s3 := cell_blk (i := 3) (hk3.blk ((HB02.out.block _ (Array.getElem?_eq_some_iff.1 HX0.out).1).trans HX0.out) (by decide)) rfl
      clear hw3 hb3 hk3
      go_wp2_with fail
      refine hK.out _ _ (fun _ _ => s3) ?_
      clear hK K
      refine wpAnyG_done (by kernel_rfl) ?_ _
      go_wp2_with fail
      go_end0
      exact ⟨rfl, by rw [HR.out]; exact HW3.out, HB0.out.trans ((HB02.out.mono HE0.out.le).trans HB3.out), HKW.out.trans ((WKeep.below HB02.out).trans HK3.out)⟩
end Go.Proofs.YtfgmfmkibjfknaaDoor
