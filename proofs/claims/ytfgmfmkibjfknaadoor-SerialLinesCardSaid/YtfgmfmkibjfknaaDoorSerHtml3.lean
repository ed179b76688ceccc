/-
The walks of package serial's writer: node, whatever it is; serial.HTML.
-/
import Derived.Test.YtfgmfmkibjfknaaDoorSerHtml2
namespace Go.Proofs.YtfgmfmkibjfknaaDoor
open Go.RowKit Go.Cl
attribute [local go_sem ↓] Go.wp_at_zero Go.wp_at_succ

/-- What is known of the nodes of a document that is right. -/
structure NOk (x : Nd) : Prop where
  attrs : x.attrs.length ≤ 12
  vals : ∀ a ∈ x.attrs, a.1.size ≤ 1000000 ∧ a.2.size ≤ 1000
  name : x.name.size ≤ 1000
  text : x.text.size ≤ 400
set_option maxRecDepth 100000 in
set_option maxHeartbeats 8000000 in
theorem wnode_any {l : List Nd} (T : Tree l) (hG : ∀ x ∈ l, NOk x) (m : Int) (b o N c : Nat) (q : Bool) (B E : Nat) (f : Nat) : NodeSays l m b o N c q B E f := by
  induction f with
  | zero =>
    intro i bs W hi hu
    have := (T.deep i hi).1
    omega
  | succ f ih =>
    intro i bs W hi hu hE hW hlen
    obtain ⟨x, hx⟩ : ∃ x, l[i]? = some x := get_some hi
    have hok := hG x (List.mem_of_getElem? hx)
    have hil : i < N := by have := hE.doc.hn; omega
    have hkids : ∀ z ∈ x.kids, ∃ p : Nat, z = (p : Int) ∧ p < l.length ∧ upN l p + f = 41 := fun z hz => by
      obtain ⟨p, e, hp, hpar⟩ := T.kid hi (by rw [kidsD_at hx]; exact hz)
      exact ⟨p, e, hp, by have := (T.up_par hp hpar).2; omega⟩
    have hpar : x.parent < 0 ∨ ∃ (p : Nat) (y : Nd), x.parent = (p : Int) ∧ l[p]? = some y := by
      rcases T.par hi with h | ⟨p, h, hp, _⟩
      · rw [parD_at hx] at h; exact Or.inl (by omega)
      · rw [parD_at hx] at h
        obtain ⟨y, hy⟩ : ∃ y, l[p]? = some y := get_some hp
        exact Or.inr ⟨p, y, h, hy⟩
    obtain ⟨Aa, na, ca, Ak, nk, ck, hnd, k0, k1, k2, k3, k4, k5⟩ := hE.doc.at_ i x hx
    have hkn := hnd.kids.hn
    have hks := hnd.kids.small
    have e2 := hW.d0
    have i1 : (0 : Int) ≤ (i : Int) := by omega
    have i2 : (i : Int) < (N : Int) := by omega
    obtain ⟨W0, hW0⟩ : ∃ W0, W0 = W.alloc (.cells #[.int .i64 x.kind, .string x.name, .slice Aa na ca, .string x.text, .int .i64 x.parent, .slice Ak nk ck] 45) := ⟨_, rfl⟩
    have hx0 : NBox W.heap.size x Aa na ca Ak nk ck W0 := by rw [hW0]; exact heap_alloc_new W _
    have hb0 : Below W.heap.size W W0 := by rw [hW0]; exact (Below.refl _ _).alloc (Nat.le_refl _) _
    have HK0 := Lib.hid (WKeep.below hb0)
    have HB0 := Lib.hid (hb0.mono hE.le)
    have HE0 := Lib.hid (hE.next (hb0.mono hE.le))
    have HW0 := Lib.hid (hW.next hb0)
    have HX0 := Lib.hid hx0
    have HH := Lib.hid (htmlN_at hx f)
    have HLEN : Hid (bs.length + (nodeH l (htmlN l f) x).length ≤ 140737488355328) := by rw [htmlN_at hx f] at hlen; exact hlen
    have HFIN := Lib.hid (fun (wz : World) (hz : SPost W0 E B b o N c q bs (nodeH l (htmlN l f) x) (.returned (.tuple #[])) wz) => show SPost W E B b o N c q bs (htmlN l (f + 1) i) (.returned (.tuple #[])) wz from ⟨rfl, by rw [HH.out]; exact hz.2.1, HB0.out.trans hz.2.2.1, HK0.out.trans hz.2.2.2⟩)
    have hnm := hok.name
    have htx := hok.text
    have HOK := Lib.hid hok
    have HX := Lib.hid hx
    have HIH := Lib.hid ih
    have HKI := Lib.hid hkids
    have HPA := Lib.hid hpar
    have HKF : Hid (x.kids.length ≤ 140737488355328) := by rw [← hkn]; exact hks
    clear hx hok hkids hpar hnd hkn hks hx0 hb0 hE hW hlen ih T hG hi hu
    go_enter Tryd.func58, Tryd.ntmps58
    go_upto_region 1 with fail
    rw [← hW0]
    clear hW0 k0 k1 k2 k3 k4 k5 e2
    have g0 := cell_blk (i := 0) HX0.out rfl
    by_cases h1 : x.kind = 1
    · have HN := Lib.hid (show nodeH l (htmlN l f) x = x.kids.flatMap (htmlN l f) from if_pos h1)
      have HC := Lib.hid (wkids_any HIH.out i x HX.out HKI.out HKF.out bs W0 HE0.out HW0.out (by rw [← HN.out]; exact HLEN.out))
      rw [h1] at g0
      clear h1
      go_wp2_with (go_at_call 86; refine HC.out.mono ?_; rintro e' w2 ⟨rfl, hr2⟩)
      go_end0
      exact HFIN.out _ (by rw [HN.out]; exact ⟨rfl, hr2⟩)
    by_cases h5 : x.kind = 5
    · have HN := Lib.hid (show nodeH l (htmlN l f) x = (⟨#[60, 33, 68, 79, 67, 84, 89, 80, 69, 32]⟩ : ByteArray).data.toList ++ x.name.data.toList ++ [62] from by unfold nodeH; rw [if_neg h1, if_pos h5])
      have HC := Lib.hid (fun (u : World) (hb : Below W0.heap.size W0 u) => writeW E B (some ⟨b, o, none⟩) N c q bs ((⟨#[60, 33, 68, 79, 67, 84, 89, 80, 69, 32]⟩ : ByteArray) ++ x.name ++ ⟨#[62]⟩) u (HW0.out.next hb) (by have h := HLEN.out; rw [HN.out] at h; simp only [List.length_append, List.length_cons, List.length_nil, bytes_len, ByteArray.size_append] at h ⊢; have z1 : ((⟨#[60, 33, 68, 79, 67, 84, 89, 80, 69, 32]⟩ : ByteArray) : ByteArray).size = 10 := rfl; have z2 : (⟨#[62]⟩ : ByteArray).size = 1 := rfl; rw [z1]; show _ + (_ + _ + 1) ≤ _; omega) (Nat.le_trans HE0.out.le hb.size))
      rw [h5] at g0
      have g1 := cell_blk (i := 1) HX0.out rfl
      clear h1 h5
      go_upto_region 6 with fail
      refine wp_region_G (S := fun w' : World => w'.cell? ⟨W.heap.size, 1, none⟩ = some (.string x.name)) (T := []) (by kernel_rfl) ?_
      have hS : (fun w' : World => w'.cell? ⟨W.heap.size, 1, none⟩ = some (.string x.name)) W0.drew := g1
      refine wpAnyG_pure (i := 0) (v := ?_) rfl (by kernel_rfl) (by kernel_rfl) (by kernel_rfl) (fun _ _ _ h => h) rfl ?_ ?_
      rotate_left
      · intro w'
        first | (go_simp; done) | (go_simp; with_reducible rfl)
      refine wpAnyG_pure (i := 1) (v := ?_) rfl (by kernel_rfl) (by kernel_rfl) (by kernel_rfl) (fun _ _ _ h => h) rfl ?_ ?_
      rotate_left
      · intro w'
        first | (go_simp; done) | (go_simp; with_reducible rfl)
      refine wpAnyG_pure (i := 2) (v := ?_) rfl (by kernel_rfl) (by kernel_rfl) (by kernel_rfl) (fun _ _ _ h => h) rfl ?_ ?_
      rotate_left
      · intro w'
        first | (go_simp; done) | (go_simp; with_reducible rfl)
      refine wpAnyG_pure (i := 3) (v := ?_) rfl (by kernel_rfl) (by kernel_rfl) (by kernel_rfl) (fun _ _ _ h => h) rfl ?_ ?_
      rotate_left
      · intro w'
        first | (go_simp; done) | (go_simp; with_reducible rfl)
      refine wpAnyG_take (i := 4) (v := ?_) rfl (by kernel_rfl) (by kernel_rfl) (by kernel_rfl) (by kernel_rfl) (fun _ _ _ h => h) hS rfl ?_ ?_
      rotate_left
      · intro w' hSw
        (try dsimp only at hSw)
        first | (go_simp; done) | (go_simp; with_reducible rfl)
      refine wpAnyG_pure (i := 5) (v := .string ((⟨#[60, 33, 68, 79, 67, 84, 89, 80, 69, 32]⟩ : ByteArray) ++ x.name)) rfl (by kernel_rfl) (by kernel_rfl) (by kernel_rfl) (fun _ _ _ h => h) rfl ?_ ?_
      · intro w'
        go_simp
        omega
      refine wpAnyG_pure (i := 6) (v := .string ((⟨#[60, 33, 68, 79, 67, 84, 89, 80, 69, 32]⟩ : ByteArray) ++ x.name ++ ⟨#[62]⟩)) rfl (by kernel_rfl) (by kernel_rfl) (by kernel_rfl) (fun _ _ _ h => h) rfl ?_ ?_
      · intro w'
        go_simp
        omega
      clear hS
      refine wpAnyG_one (i := 7) (by kernel_rfl) rfl rfl (fun K hK => ?_)
      go_simp
      go_at_call 47
      refine (HC.out W0.drew (Below.refl _ W0).drew).mono ?_
      rintro e' w2 ⟨rfl, hw, hb, hk⟩
      have s0 := cell_blk (i := 1) (HX0.out.keep ((WKeep.below (Below.refl _ W0).drew).trans hk)) rfl
      have HW := Lib.hid hw
      have HB := Lib.hid (((Below.refl B W0).drew).trans hb)
      have HK := Lib.hid ((WKeep.below (Below.refl _ W0).drew).trans hk)
      clear hw hb hk
      go_wp2_with fail
      refine hK.out _ _ (fun _ _ => s0) ?_
      clear hK K s0
      refine wpAnyG_done (by kernel_rfl) ?_ _
      have HF := Lib.hid (HFIN.out w2 (by rw [HN.out]; exact ⟨rfl, by simpa [bytes_app, List.append_assoc] using HW.out, HB.out, HK.out⟩))
      clear HW HB HK g1 HC
      go_wp2_with fail
      go_end0
      exact HF.out
    by_cases h4 : x.kind = 4
    · have HN := Lib.hid (show nodeH l (htmlN l f) x = (⟨#[60, 33, 45, 45]⟩ : ByteArray).data.toList ++ x.text.data.toList ++ (⟨#[45, 45, 62]⟩ : ByteArray).data.toList from by unfold nodeH; rw [if_neg h1, if_neg h5, if_pos h4])
      have HC := Lib.hid (fun (u : World) (hb : Below W0.heap.size W0 u) => writeW E B (some ⟨b, o, none⟩) N c q bs ((⟨#[60, 33, 45, 45]⟩ : ByteArray) ++ x.text ++ (⟨#[45, 45, 62]⟩ : ByteArray)) u (HW0.out.next hb) (by have h := HLEN.out; rw [HN.out] at h; have z1 : ((⟨#[60, 33, 45, 45]⟩ : ByteArray) : ByteArray).size = 4 := rfl; have z2 : ((⟨#[45, 45, 62]⟩ : ByteArray) : ByteArray).size = 3 := rfl; have z3 : ((⟨#[60, 33, 45, 45]⟩ : ByteArray) : ByteArray).data.toList.length = 4 := rfl; have z4 : ((⟨#[45, 45, 62]⟩ : ByteArray) : ByteArray).data.toList.length = 3 := rfl; rw [List.length_append, List.length_append, z3, z4, bytes_len] at h; rw [ByteArray.size_append, ByteArray.size_append, z1, z2]; omega) (Nat.le_trans HE0.out.le hb.size))
      rw [h4] at g0
      have g3 := cell_blk (i := 3) HX0.out rfl
      clear h1 h5 h4
      go_upto_region 8 with fail
      refine wp_region_G (S := fun w' : World => w'.cell? ⟨W.heap.size, 3, none⟩ = some (.string x.text)) (T := []) (by kernel_rfl) ?_
      have hS : (fun w' : World => w'.cell? ⟨W.heap.size, 3, none⟩ = some (.string x.text)) W0.drew := g3
      refine wpAnyG_pure (i := 0) (v := ?_) rfl (by kernel_rfl) (by kernel_rfl) (by kernel_rfl) (fun _ _ _ h => h) rfl ?_ ?_
      rotate_left
      · intro w'
        first | (go_simp; done) | (go_simp; with_reducible rfl)
      refine wpAnyG_pure (i := 1) (v := ?_) rfl (by kernel_rfl) (by kernel_rfl) (by kernel_rfl) (fun _ _ _ h => h) rfl ?_ ?_
      rotate_left
      · intro w'
        first | (go_simp; done) | (go_simp; with_reducible rfl)
      refine wpAnyG_pure (i := 2) (v := ?_) rfl (by kernel_rfl) (by kernel_rfl) (by kernel_rfl) (fun _ _ _ h => h) rfl ?_ ?_
      rotate_left
      · intro w'
        first | (go_simp; done) | (go_simp; with_reducible rfl)
      refine wpAnyG_pure (i := 3) (v := ?_) rfl (by kernel_rfl) (by kernel_rfl) (by kernel_rfl) (fun _ _ _ h => h) rfl ?_ ?_
      rotate_left
      · intro w'
        first | (go_simp; done) | (go_simp; with_reducible rfl)
      refine wpAnyG_take (i := 4) (v := ?_) rfl (by kernel_rfl) (by kernel_rfl) (by kernel_rfl) (by kernel_rfl) (fun _ _ _ h => h) hS rfl ?_ ?_
      rotate_left
      · intro w' hSw
        (try dsimp only at hSw)
        first | (go_simp; done) | (go_simp; with_reducible rfl)
      refine wpAnyG_pure (i := 5) (v := .string ((⟨#[60, 33, 45, 45]⟩ : ByteArray) ++ x.text)) rfl (by kernel_rfl) (by kernel_rfl) (by kernel_rfl) (fun _ _ _ h => h) rfl ?_ ?_
      · intro w'
        go_simp
        omega
      refine wpAnyG_pure (i := 6) (v := .string ((⟨#[60, 33, 45, 45]⟩ : ByteArray) ++ x.text ++ (⟨#[45, 45, 62]⟩ : ByteArray))) rfl (by kernel_rfl) (by kernel_rfl) (by kernel_rfl) (fun _ _ _ h => h) rfl ?_ ?_
      · intro w'
        go_simp
        omega
      clear hS
      refine wpAnyG_one (i := 7) (by kernel_rfl) rfl rfl (fun K hK => ?_)
      go_simp
      go_at_call 47
      refine (HC.out W0.drew (Below.refl _ W0).drew).mono ?_
      rintro e' w2 ⟨rfl, hw, hb, hk⟩
      have s0 := cell_blk (i := 3) (HX0.out.keep ((WKeep.below (Below.refl _ W0).drew).trans hk)) rfl
      have HW := Lib.hid hw
      have HB := Lib.hid (((Below.refl B W0).drew).trans hb)
      have HK := Lib.hid ((WKeep.below (Below.refl _ W0).drew).trans hk)
      clear hw hb hk
      go_wp2_with fail
      refine hK.out _ _ (fun _ _ => s0) ?_
      clear hK K s0
      refine wpAnyG_done (by kernel_rfl) ?_ _
      have HF := Lib.hid (HFIN.out w2 (by rw [HN.out]; exact ⟨rfl, by simpa [bytes_app, List.append_assoc] using HW.out, HB.out, HK.out⟩))
      clear HW HB HK g3 HC
      go_wp2_with fail
      go_end0
      exact HF.out
    by_cases h3 : x.kind = 3
    · have HN := Lib.hid (show nodeH l (htmlN l f) x = wrTxt l x from by unfold nodeH; rw [if_neg h1, if_neg h5, if_neg h4, if_pos h3])
      have HC := Lib.hid (wtext_any x Aa na ca Ak nk ck W0 E B m b o N c q l bs HE0.out HW0.out HPA.out htx (by rw [← HN.out]; exact HLEN.out))
      have g1 := cell_blk (i := 1) HX0.out rfl
      have g2 := cell_blk (i := 2) HX0.out rfl
      have g3 := cell_blk (i := 3) HX0.out rfl
      have g4 := cell_blk (i := 4) HX0.out rfl
      have g5 := cell_blk (i := 5) HX0.out rfl
      rw [h3] at g0 HC
      clear h1 h5 h4 h3
      go_wp2_with (go_at_call 87; refine HC.out.mono ?_; rintro e' w2 ⟨rfl, hr2⟩)
      go_end0
      exact HFIN.out _ (by rw [HN.out]; exact ⟨rfl, hr2⟩)
    · have HN := Lib.hid (show nodeH l (htmlN l f) x = elemH l (htmlN l f) x from by unfold nodeH; rw [if_neg h1, if_neg h5, if_neg h4, if_neg h3])
      have HC := Lib.hid (welem_any HIH.out i x HX.out HKI.out HKF.out HOK.out.attrs (fun a ha => (HOK.out.vals a ha).2) hnm bs W0 HE0.out HW0.out (by rw [← HN.out]; exact HLEN.out))
      have b1 : (x.kind == 1) = false := beq_eq_false_iff_ne.2 h1
      have b5 : (x.kind == 5) = false := beq_eq_false_iff_ne.2 h5
      have b4 : (x.kind == 4) = false := beq_eq_false_iff_ne.2 h4
      have b3 : (x.kind == 3) = false := beq_eq_false_iff_ne.2 h3
      clear h1 h5 h4 h3
      go_wp2_with (go_at_call 88; refine HC.out.mono ?_; rintro e' w2 ⟨rfl, hr2⟩)
      go_end0
      exact HFIN.out _ (by rw [HN.out]; exact ⟨rfl, hr2⟩)
end Go.Proofs.YtfgmfmkibjfknaaDoor
