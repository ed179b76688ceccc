/-
Forms: the walks of text and below.
-/
import Derived.Test.YtpbngckplbnahaaGreatDoorFormOwn
import Derived.Test.YtpbngckplbnahaaGreatDoorDomAsks
namespace Go.Proofs.YtpbngckplbnahaaGreatDoor
open Go.RowKit Go.Cl
attribute [local go_sem ↓] Go.wp_at_zero Go.wp_at_succ

theorem join_size {f : Int → ByteArray} (hf : ∀ n, (f n).size ≤ 400) : ∀ ns : List Int, (joinB f ns).size ≤ 400 * ns.length := by
  have key : ∀ (ns : List Int) (s : ByteArray), (ns.foldl (fun s n => s ++ f n) s).size ≤ s.size + 400 * ns.length := by
    intro ns
    induction ns with
    | nil => intro s; simp
    | cons n r ih =>
      intro s
      have h1 := ih (s ++ f n)
      have h2 := hf n
      rw [ByteArray.size_append] at h1
      rw [List.foldl_cons, List.length_cons]
      omega
  intro ns
  have := key ns ⟨#[]⟩
  have e : (⟨#[]⟩ : ByteArray).size = 0 := rfl
  rw [e] at this
  unfold joinB
  omega
theorem Good.whole_small {l : List Nd} (G : Good l) (n : Int) : (wholeK l n).size ≤ 400 := by
  have e : (⟨#[]⟩ : ByteArray).size = 0 := rfl
  unfold wholeK
  split
  · unfold textD
    cases hx : l[n.toNat]? with
    | none => show (⟨#[]⟩ : ByteArray).size ≤ 400; decide
    | some x => exact ((nodeE_iff x).1 (G.each x (List.mem_of_getElem? hx))).2.2.2.1
  · rw [e]; omega
theorem join_app (f : Int → ByteArray) (a b : List Int) : joinB f (a ++ b) = joinB f a ++ joinB f b := by
  apply ByteArray.ext
  apply Array.ext'
  rw [join_list, ByteArray.data_append, Array.toList_append, join_list, join_list, List.flatMap_append]
theorem join_cons (f : Int → ByteArray) (a : Int) (b : List Int) : joinB f (a :: b) = f a ++ joinB f b := by
  apply ByteArray.ext
  apply Array.ext'
  rw [join_list, ByteArray.data_append, Array.toList_append, join_list, List.flatMap_cons]
theorem no_app {b : ByteArray} : (⟨#[]⟩ : ByteArray) ++ b = b := ByteArray.empty_append
theorem flat_take_le {f : Int → List Int} (ks : List Int) (j : Nat) : ((ks.take j).flatMap f).length ≤ (ks.flatMap f).length := by
  conv => rhs; rw [← List.take_append_drop j ks, List.flatMap_append, List.length_append]
  omega
section
variable {l : List Nd} (T : Tree l) (G : Good l)
include T
theorem Tree.flat_few {i : Nat} (hi : i < l.length) (j : Nat) : (((kidsD l i).take j).flatMap (preR l)).length ≤ 200 := by
  have h1 := T.pre_few hi
  rw [T.pre_step hi, List.length_cons] at h1
  have h2 := flat_take_le (f := preR l) (kidsD l i) j
  have := T.small
  omega
include G
theorem text_leaf {i : Nat} {x : Nd} (hx : l[i]? = some x) (h : x.kind = 3) : textF l i = x.text := by
  have hi := (List.getElem?_eq_some_iff.1 hx).1
  have hb := ((nodeE_iff x).1 (G.each x (List.mem_of_getElem? hx))).1.2.2
  have hk : x.kids = [] := by
    unfold bareB parentB at hb
    rw [h] at hb
    simp at hb
    exact hb.2
  unfold textF
  rw [T.pre_step hi, kidsD_at hx, hk, join_cons]
  have h1 : wholeK l i = x.text := by unfold wholeK; rw [if_pos (by rw [kindD_at hx, h]), textD_at hx]
  rw [h1]
  show x.text ++ joinB _ [] = _
  exact ByteArray.append_empty
omit G in
theorem text_node {i : Nat} {x : Nd} (hx : l[i]? = some x) (h : x.kind ≠ 3) : textF l i = joinB (wholeK l) (x.kids.flatMap (preR l)) := by
  have hi := (List.getElem?_eq_some_iff.1 hx).1
  unfold textF
  rw [T.pre_step hi, kidsD_at hx, join_cons]
  have h1 : wholeK l i = ⟨#[]⟩ := by unfold wholeK; rw [if_neg (by rw [kindD_at hx]; exact h)]
  rw [h1, no_app]
theorem textF_small {i : Nat} (hi : i < l.length) : (textF l i).size ≤ 80000 := by
  have h1 := join_size (f := wholeK l) G.whole_small (preR l i)
  have h2 := T.pre_few hi
  have := T.small
  unfold textF
  omega
end
section
variable {B F : Nat} {A : Option Addr} {n c : Nat} {q : Bool} {O : Option Addr} {m k : Nat} {l : List Nd} {ord : List Int}
set_option maxRecDepth 100000 in
set_option maxHeartbeats 4000000 in
theorem text_g (T : Tree l) (G : Good l) (f : Nat) : ∀ (i : Nat) (w : World), i < l.length → upN l i + f = 41 → Fm w B F A n c q O m k l ord →
    Calls Tryz.prog 71 #[.pointer (some ⟨F, 0, none⟩), .int .i64 (i : Int)] w fun e w' => e = .returned (.string (textF l i)) ∧ Below w.heap.size w w' := by
  induction f with
  | zero =>
    intro i w hi hf
    have := (T.deep i hi).1
    omega
  | succ f ih =>
    intro i w hi hf h
    obtain ⟨x, hx⟩ := get_some hi
    obtain ⟨b, o, rfl, i2, Aa, na, ca, Ak, nk, ck, hnd, p0, p1, p2, p3, p4, p5⟩ := h.at_ hx
    have c0 := h.c0
    have i1 : (0 : Int) ≤ (i : Int) := by omega
    by_cases hk : x.kind = 3
    · have HR := Lib.hid (text_leaf T G hx hk)
      have k3 : (x.kind == 3) = true := by simpa using hk
      clear h hx hi hnd p1 p2 p4 p5 hk ih hf
      go_enter Tryz.func71, Tryz.ntmps71
      go_wp2_with fail
      go_ret
      exact ⟨by rw [HR.out]; rfl, Below.refl _ _⟩
    · have HR := Lib.hid (text_node T hx hk)
      have k3 : (x.kind == 3) = false := beq_eq_false_iff_ne.2 hk
      have HF := Lib.hid h
      have IH := Lib.hid ih
      have hkd : kidsD l i = x.kids := kidsD_at hx
      have HUP : Hid (∀ z ∈ x.kids, ∃ p : Nat, z = (p : Int) ∧ p < l.length ∧ upN l p + f = 41) := fun z hz => by
        obtain ⟨p, e, hp, hpar⟩ := T.kid hi (by rw [hkd]; exact hz)
        exact ⟨p, e, hp, by have := (T.up_par hp hpar).2; omega⟩
      have HFL : Hid (∀ j, ((x.kids.take j).flatMap (preR l)).length ≤ 200) := fun j => by rw [← hkd]; exact T.flat_few hi j
      have HT := Lib.hid T
      have HG := Lib.hid G
      have HKS := Lib.hid hnd.kids
      have HKN := Lib.hid hnd.kids.hn
      have hck := hnd.kids.hc
      have hks := hnd.kids.small
      clear h hx hi hnd p1 p2 p3 p4 hk ih hf hkd T G
      generalize x.kids = ks at *
      go_enter Tryz.func71, Tryz.ntmps71
      go_upto_region 5 with fail
      go_loopw [37, 5] (fun s v wr => ∃ j : Nat, j ≤ nk ∧ s = .int .i64 (j : Int) ∧ v = .string (joinB (wholeK l) ((ks.take j).flatMap (preR l))) ∧ Hid (Below w.heap.size w wr)) (fun s _ _ => nk - (intOf s).toNat)
      case atStart => exact ⟨0, Nat.zero_le _, rfl, rfl, Lib.hid (Below.refl _ _)⟩
      case round =>
        obtain ⟨j, hj, rfl, rfl, HB⟩ := hrel
        by_cases hlt : j < nk
        · obtain ⟨z, hz⟩ : ∃ z, ks[j]? = some z := get_some (by have := HKN.out; omega)
          obtain ⟨p, rfl, hp, hpf⟩ := HUP.out z (List.mem_of_getElem? hz)
          obtain ⟨b8, o8, e8, _, hcell, _⟩ := (HKS.out.below HB.out HF.out.le).int hz
          subst e8
          have HC := Lib.hid (IH.out p wr hp hpf (HF.out.below HB.out))
          have hps := textF_small HT.out HG.out hp
          have hjs := join_size (f := wholeK l) HG.out.whole_small ((ks.take j).flatMap (preR l))
          have hjl := HFL.out j
          have HJ := Lib.hid (show joinB (wholeK l) ((ks.take (j + 1)).flatMap (preR l)) = joinB (wholeK l) ((ks.take j).flatMap (preR l)) ++ textF l p from by
            rw [take_snoc hz, List.flatMap_append, join_app, List.flatMap_cons, List.flatMap_nil, List.append_nil]
            rfl)
          have i5 : (0 : Int) ≤ (j : Int) := by omega
          have i6 : (j : Int) < (nk : Int) := by omega
          generalize joinB (wholeK l) ((ks.take j).flatMap (preR l)) = acc at *
          generalize textF l p = tp at *
          have hacc : acc.size ≤ 80000 := by omega
          clear hjs hjl hz hp hpf
          go_wp2_with (go_at_call 71; refine HC.out.mono ?_; rintro e w1 ⟨rfl, hb1⟩)
          go_roundw
          case rel => exact ⟨j + 1, by omega, by go_num, by rw [HJ.out], Lib.hid (bst HB.out hb1)⟩
          case measure => simp [intOf]; omega
        · have e : ks.take j = ks := List.take_of_length_le (by have := HKN.out; omega)
          rw [e]
          clear e
          generalize joinB (wholeK l) (ks.flatMap (preR l)) = acc at *
          go_wp2_with fail
          go_ret
          exact ⟨by rw [HR.out]; rfl, HB.out⟩
variable {w : World}
theorem text_f (T : Tree l) (G : Good l) (h : Fm w B F A n c q O m k l ord) {i : Nat} (hi : i < l.length) :
    Calls Tryz.prog 71 #[.pointer (some ⟨F, 0, none⟩), .int .i64 (i : Int)] w fun e w' => e = .returned (.string (textF l i)) ∧ Below w.heap.size w w' :=
  text_g T G (41 - upN l i) i w hi (by have := (T.deep i hi).1; omega) h

/-! ### below -/
theorem bel_step {l : List Nd} (T : Tree l) (nm : ByteArray) {p : Nat} (hp : p < l.length) : (preR l p).filter (namedF l nm) = (if namedF l nm p then [(p : Int)] else []) ++ belR l nm p := by
  rw [T.pre_step hp, List.filter_cons]
  unfold belR
  split <;> rfl
set_option maxRecDepth 100000 in
set_option maxHeartbeats 8000000 in
theorem below_g (T : Tree l) (nm : ByteArray) (f : Nat) : ∀ (i : Nat) (w : World), i < l.length → upN l i + f = 41 → Fm w B F A n c q O m k l ord →
    Calls Tryz.prog 114 #[.pointer (some ⟨F, 0, none⟩), .int .i64 (i : Int), .string nm] w fun e w' => ∃ v, e = .returned v ∧ OwnF (tInt .i64) w' w.heap.size 3 v (belR l nm i).length (belR l nm i) ∧ Below w.heap.size w w' := by
  induction f with
  | zero =>
    intro i w hi hf
    have := (T.deep i hi).1
    omega
  | succ f ih =>
    intro i w hi hf h
    obtain ⟨x, hx⟩ := get_some hi
    obtain ⟨b, o, rfl, i2, Aa, na, ca, Ak, nk, ck, hnd, p0, p1, p2, p3, p4, p5⟩ := h.at_ hx
    have c0 := h.c0
    have i1 : (0 : Int) ≤ (i : Int) := by omega
    have hkd : kidsD l i = x.kids := kidsD_at hx
    have HR := Lib.hid (show belR l nm i = (x.kids.flatMap (preR l)).filter (namedF l nm) from by unfold belR; rw [hkd])
    have HF := Lib.hid h
    have IH := Lib.hid ih
    have HUP : Hid (∀ z ∈ x.kids, ∃ p : Nat, z = (p : Int) ∧ p < l.length ∧ upN l p + f = 41) := fun z hz => by
      obtain ⟨p, e, hp, hpar⟩ := T.kid hi (by rw [hkd]; exact hz)
      exact ⟨p, e, hp, by have := (T.up_par hp hpar).2; omega⟩
    have HFL : Hid (∀ j, (((x.kids.take j).flatMap (preR l)).filter (namedF l nm)).length ≤ 200) := fun j => by
      rw [← hkd]
      exact Nat.le_trans (List.length_filter_le _ _) (T.flat_few hi j)
    have HT := Lib.hid T
    have HKS := Lib.hid hnd.kids
    have HKN := Lib.hid hnd.kids.hn
    have hck := hnd.kids.hc
    have hks := hnd.kids.small
    clear h hx hi hnd p0 p1 p2 p3 p4 ih hf hkd T
    generalize x.kids = ks at *
    go_enter Tryz.func114, Tryz.ntmps114
    go_upto_region 2 with fail
    go_loopw [19, 6] (fun s v wr => ∃ j : Nat, j ≤ nk ∧ s = .int .i64 (j : Int) ∧ Hid (OwnF (tInt .i64) wr w.heap.size 3 v (((ks.take j).flatMap (preR l)).filter (namedF l nm)).length (((ks.take j).flatMap (preR l)).filter (namedF l nm)) ∧ Below w.heap.size w wr)) (fun s _ _ => nk - (intOf s).toNat)
    case atStart => exact ⟨0, Nat.zero_le _, rfl, Lib.hid ⟨OwnF.nil _ _ _, Below.refl _ _⟩⟩
    case round =>
      obtain ⟨j, hj, rfl, HB⟩ := hrel
      by_cases hlt : j < nk
      · obtain ⟨z, hz⟩ : ∃ z, ks[j]? = some z := get_some (by have := HKN.out; omega)
        obtain ⟨p, rfl, hp, hpf⟩ := HUP.out z (List.mem_of_getElem? hz)
        obtain ⟨b8, o8, e8, _, hcell, _⟩ := (HKS.out.below HB.out.2 HF.out.le).int hz
        subst e8
        have HZ := Lib.hid hz
        have HP : Hid (p < l.length) := hp
        have HPF := Lib.hid hpf
        have hp200 : p < 200 := by have := HT.out.small; omega
        have i5 : (0 : Int) ≤ (j : Int) := by omega
        have i6 : (j : Int) < (nk : Int) := by omega
        have HNF := Lib.hid (named_f F nm wr)
        have HALL := Lib.hid (fun W (hW : Below w.heap.size w W) X (hX : NmB W F X nm) => named1_f (HF.out.below hW) hp nm hX)
        obtain ⟨ps, hps⟩ : ∃ ps, ((ks.take j).flatMap (preR l)).filter (namedF l nm) = ps := ⟨_, rfl⟩
        have HO0 := Lib.hid HB.out.1
        have HB0 := Lib.hid HB.out.2
        have hpl := HFL.out j
        rw [hps] at HO0 hpl
        obtain ⟨nb, hnb⟩ : ∃ nb, namedF l nm p = nb := ⟨_, rfl⟩
        rw [hnb] at HALL
        have HBS := Lib.hid (bel_step HT.out nm hp)
        rw [hnb] at HBS
        have HST := Lib.hid (show ((ks.take (j + 1)).flatMap (preR l)).filter (namedF l nm) = (ps ++ if nb then [(p : Int)] else []) ++ belR l nm p from by
          rw [take_snoc hz, List.flatMap_append, List.filter_append, hps, List.flatMap_cons, List.flatMap_nil, List.append_nil, HBS.out, List.append_assoc])
        have hsl := HFL.out (j + 1)
        rw [HST.out] at hsl
        clear hz hp hpf hnb hps HB
        go_upto_if 27 with (first | (go_at_call 63; refine HNF.out.mono ?_; rintro e w1 ⟨rfl, hx1, hb1⟩; have HB1 := Lib.hid hb1; have HC1 := Lib.hid (HALL.out w1 (HB0.out.trans (hb1.mono HB0.out.size)) _ hx1); clear hx1 hb1 HNF) | (go_at_call 111; refine HC1.out.mono ?_; rintro e w2 ⟨rfl, hb2⟩))
        have HB2 := Lib.hid (HB0.out.trans ((bst HB1.out hb2).mono HB0.out.size))
        have HO2 := Lib.hid (HO0.out.below (bst HB1.out hb2) (Nat.le_refl _))
        clear hb2 HC1 HALL
        go_cut [6] (fun v wx => OwnF (tInt .i64) wx w.heap.size 3 v (ps ++ if nb then [(p : Int)] else []).length (ps ++ if nb then [(p : Int)] else []) ∧ Below w.heap.size w wx)
        case first =>
          cases nb with
          | false =>
            go_wp2_with fail
            go_meet
            rw [if_neg (by simp), List.append_nil]
            exact ⟨HO2.out, HB2.out⟩
          | true =>
            go_wp2_with (at_builtin; refine wpList_ap1 _ rfl (.tmp 28) (.tmp 30) 23 rfl elemI (v := _) (D := fun _ => False) rfl (OwnF.al HO2.out _) (fun _ h => h.elim) (y := (p : Int)) (cs := [.int .i64 (p : Int)]) rfl ⟨rfl, WalkArith.wf_i64 (by omega)⟩ (cell_new w2 _ _) (by omega) (by omega) (by rw [World.size_alloc]; have := HB2.out.size; omega) ?_; intro v9 w9 hown9 _ hbl9 _)
            go_meet
            show OwnF _ _ _ _ _ (ps ++ [(p : Int)]).length (ps ++ [(p : Int)]) ∧ _
            rw [List.length_append, List.length_singleton]
            exact ⟨hown9, (HB2.out.alloc HB2.out.size _).trans hbl9⟩
        case rest =>
          obtain ⟨hown, hbw⟩ := hcut
          generalize (ps ++ if nb then [(p : Int)] else []) = ps2 at *
          have HOW := Lib.hid hown
          have HBW := Lib.hid hbw
          have HC := Lib.hid (IH.out p wc HP.out HPF.out (HF.out.below hbw))
          clear hown hbw HO2 HB2 HO0 HBS
          rw [List.length_append] at hsl
          generalize belR l nm p = bs at *
          go_wp2_with (first | (go_at_call 114; refine HC.out.mono ?_; rintro e w5 ⟨v5, rfl, hown5, hb5⟩; have HB5 := Lib.hid (HBW.out.trans (hb5.mono HBW.out.size)); have HO5 := Lib.hid (HOW.out.below hb5 (Nat.le_refl _)); obtain ⟨A5, c5, e5, hs5⟩ := OwnF.sl hown5 (by decide) (by show bs.length * 8 ≤ _; omega); subst e5; clear hb5 hown5) | (at_builtin; refine wpList_apf _ (flatInt _) rfl (.tmp 32) (.tmp 36) 23 rfl elemI (v := _) rfl HO5.out rfl hs5 (by omega) (by omega) HB5.out.size ?_; intro v7 w7 hown7 _ hbl7 _))
          go_roundw
          case rel => exact ⟨j + 1, by omega, by go_num, Lib.hid ⟨by rw [HST.out, List.length_append]; exact hown7, HB5.out.trans hbl7⟩⟩
          case measure => simp [intOf]; omega
      · have e : ks.take j = ks := List.take_of_length_le (by have := HKN.out; omega)
        have HOW := HB.out.1
        rw [e, ← HR.out] at HOW
        have HOW2 := Lib.hid HOW
        clear e HOW
        go_wp2_with fail
        refine bodyPost_ret (v := _) (by simp [results, Tryz.results114, go_sem]) rfl ⟨_, rfl, HOW2.out, HB.out.2⟩
theorem below_f (T : Tree l) (nm : ByteArray) (h : Fm w B F A n c q O m k l ord) {i : Nat} (hi : i < l.length) :
    Calls Tryz.prog 114 #[.pointer (some ⟨F, 0, none⟩), .int .i64 (i : Int), .string nm] w fun e w' => ∃ v, e = .returned v ∧ OwnF (tInt .i64) w' w.heap.size 3 v (belR l nm i).length (belR l nm i) ∧ Below w.heap.size w w' :=
  below_g T nm (41 - upN l i) i w hi (by have := (T.deep i hi).1; omega) h
end
end Go.Proofs.YtpbngckplbnahaaGreatDoor
