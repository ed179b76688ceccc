/-
Forms as text: the joined text (plain).
-/
import Derived.Test.YtpbngckplbnahaaGreatDoorFbEncode
import Derived.Test.YtpbngckplbnahaaGreatDoorFormKit
import Derived.Test.YtpbngckplbnahaaGreatDoorRegionG
import Derived.Lib.Join
namespace Go.Proofs.YtpbngckplbnahaaGreatDoor
open Go.RowKit Go.Cl

theorem fbJoin_eq : ∀ ps : List (List UInt8), fbJoin ps = Lib.join ps [38]
  | [] => rfl
  | [x] => (Lib.join_one x [38]).symm
  | x :: y :: r => by
    have ih := fbJoin_eq (y :: r)
    rw [Lib.join_cons] at ih ⊢
    show x ++ 38 :: fbJoin (y :: r) = _
    rw [ih]
    simp [Lib.joinTail]
theorem fbJoin_len (M : Nat) : ∀ ps : List (List UInt8), (∀ p ∈ ps, p.length ≤ M) → (fbJoin ps).length ≤ ps.length * (M + 1)
  | [], _ => by simp [fbJoin]
  | [x], h => by
    have := h x (List.mem_cons_self ..)
    show x.length ≤ _
    simp
    omega
  | x :: y :: r, h => by
    have ih := fbJoin_len M (y :: r) fun p hp => h p (List.mem_cons_of_mem _ hp)
    have h1 := h x (List.mem_cons_self ..)
    show (x ++ 38 :: fbJoin (y :: r)).length ≤ (((y :: r).length) + 1) * (M + 1)
    rw [List.length_append, List.length_cons, Nat.add_mul]
    omega
theorem fbEncE_len (x : List UInt8 × List UInt8) (S : Nat) (h1 : x.1.length ≤ S) (h2 : x.2.length ≤ S) : (fbEncE x).length ≤ 6 * S + 1 := by
  have e1 := fbEncB_len x.1
  have e2 := fbEncB_len x.2
  unfold fbEncE
  rw [List.length_append, List.length_cons]
  omega
theorem fbEncL_len (l : List (List UInt8 × List UInt8)) (S : Nat) (h : ∀ x ∈ l, x.1.length ≤ S ∧ x.2.length ≤ S) : (fbEncL l).length ≤ l.length * (6 * S + 2) := by
  unfold fbEncL
  have := fbJoin_len (6 * S + 1) (l.map fbEncE) fun p hp => by
    obtain ⟨x, hx, rfl⟩ := List.mem_map.1 hp
    exact fbEncE_len x S (h x hx).1 (h x hx).2
  rw [List.length_map] at this
  exact this
/-- An entry's bytes. -/
def entB (a : DAttr) : List UInt8 × List UInt8 := (a.1.data.toList, a.2.data.toList)
end Go.Proofs.YtpbngckplbnahaaGreatDoor

/-
Forms as text: the walk of Encode.
-/
namespace Go.Proofs.YtpbngckplbnahaaGreatDoor
open Go.RowKit Go.Cl
attribute [local go_sem ↓] Go.wp_at_zero Go.wp_at_succ
def encS (x : DAttr) : ByteArray := ⟨(fbEncE (entB x)).toArray⟩
theorem elemFS : ElemOf Tryz.prog 105 9 1 16 := mkElem Tryz.underlying105 (by kernel_rfl) (z := .string ⟨#[]⟩) rfl (by decide)
theorem mapEnc (l : List DAttr) : (l.map encS).map (·.data.toList) = (l.map entB).map fbEncE := by
  rw [List.map_map, List.map_map]
  rfl
theorem ba_append (a b : List UInt8) : (⟨a.toArray⟩ : ByteArray) ++ ⟨b.toArray⟩ = ⟨(a ++ b).toArray⟩ := by
  apply ByteArray.ext
  rw [ByteArray.data_append]
  simp
theorem encS_size (x : DAttr) (h1 : x.1.size ≤ 1048576) (h2 : x.2.size ≤ 1048576) : (encS x).size ≤ 7000000 := by
  have h := fbEncE_len (entB x) 1048576 h1 h2
  show (fbEncE (entB x)).length ≤ _
  omega
/-- append of a source to a row of the call's own: its run, and what it turns. -/
theorem run_apfE {P : Program} (w : World) {t ty : TypeId} {α : Type} {T : Ty α} (hT : Flat T) {e : TypeId} {bytes base : Nat} (hE : ElemOf P t e T.size bytes) {v : Value} {n : Nat} {xs : List α} (hown : OwnF T w base e v n xs)
    {D' : Nat → Prop} {A : Option Addr} {m c : Nat} {ys : List α} (hs : Sl T w D' A m c ys) (h63 : n + m ≤ 140737488355328) (hbytes : (n + m) * bytes ≤ 140737488355328) (hbase : base ≤ w.heap.size) :
    ∃ v' w', (Builtin.append_ #[t, t] ty #[v, .slice A m c]).run P w = .ok v' w' ∧ OwnF T w' base e v' (n + m) (xs ++ ys) ∧ Below base w w' ∧ w.grownBy w' v.ownBlock := by
  obtain ⟨cs, h1, h2⟩ := hown
  obtain ⟨v', w', news, hrun, hn, ho, hg, _⟩ := run_apd (ty := ty) w hE h1 hs h63 hbytes hbase
  exact ⟨v', w', hrun, ⟨_, ho, (h2.flat hT).append (hn.flat hT)⟩, (Below.refl base w).grown hg hbase fun k hk => (h1.lt k hk).1, hg⟩
/-- .. what lies elsewhere lies as it lay. -/
theorem own_far {α : Type} {T : Ty α} {w w' wr : World} {base : Nat} {e : TypeId} {v : Value} {n : Nat} {xs : List α} (ho : OwnF T wr base e v n xs) (hg : w.grownBy w' v.ownBlock) {b i : Nat} {u : Value} (hb : wr.heap.size ≤ b) (hc : w.cell? ⟨b, i, none⟩ = some u) : w'.cell? ⟨b, i, none⟩ = some u :=
  (World.cell?_of_block (a := ⟨b, i, none⟩) (hg.block b (World.block_lt_of_cell? w ⟨b, i, none⟩ hc) fun e' => by have := (Cl.Own.lt ho b e'.symm).2; omega)).trans hc
set_option maxRecDepth 100000 in
set_option maxHeartbeats 4000000 in
theorem encL_any (A : Option Addr) (n c : Nat) (l : List DAttr) (w : World) (B : Nat) (hl : Sl tDA w (lt B) A n c l) (hB : B ≤ w.heap.size) (h20 : n ≤ 20) (hS : ∀ x ∈ l, x.1.size ≤ 1048576 ∧ x.2.size ≤ 1048576) :
    Calls Tryz.prog 19 #[.slice A n c] w fun e w' => Below w.heap.size w w' ∧
      ((4000 < (fbEncL (l.map entB)).length ∧ e = .returned (.tuple #[.string ⟨#[]⟩, .int .i64 2])) ∨ ((fbEncL (l.map entB)).length ≤ 4000 ∧ e = .returned (.tuple #[.string ⟨(fbEncL (l.map entB)).toArray⟩, .int .i64 0]))) := by
  have HL := Lib.hid hl
  have HN := Lib.hid hl.hn
  have HLEN : Hid ((fbEncL (l.map entB)).length ≤ 200000000) := by
    have h := fbEncL_len (l.map entB) 1048576 fun y hy => by
      obtain ⟨x, hx, rfl⟩ := List.mem_map.1 hy
      exact hS x hx
    have e := hl.hn
    have h2 := Nat.mul_le_mul_right (6 * 1048576 + 2) (show l.length ≤ 20 by omega)
    rw [List.length_map] at h
    show _ ≤ _
    omega
  have HS := Lib.hid hS
  have h100 : ¬ (100 : Int) < (n : Int) := by omega
  clear hl hS
  go_enter Tryz.func19, Tryz.ntmps19
  go_upto_region 5 with fail
  go_loopw [4, 13] (fun v i wr => ∃ k : Nat, k ≤ n ∧ i = .int .i64 (k : Int) ∧ Hid (OwnF tStr wr w.heap.size 9 v k ((l.take k).map encS)) ∧ Hid (Below w.heap.size w wr)) (fun _ i _ => n - (intOf i).toNat)
  case atStart => exact ⟨0, Nat.zero_le _, rfl, Lib.hid (OwnF.nil _ _ _), Lib.hid (Below.refl _ _)⟩
  case round =>
    obtain ⟨k, hk, rfl, HO, HW⟩ := hrel
    by_cases hkn : k < n
    · obtain ⟨x, hx⟩ := get_some (l := l) (k := k) (by have := HN.out; omega)
      obtain ⟨g, o, eA, hD, c1, c2, z1, z2⟩ := da_get (HL.out.below HW.out hB) hx
      subst eA
      have hsz := HS.out x (List.mem_of_getElem? hx)
      have HX := Lib.hid (show l.take (k + 1) = l.take k ++ [x] from take_snoc hx)
      have i1 : (0 : Int) ≤ (k : Int) := by omega
      have i2 : (k : Int) < (n : Int) := by omega
      obtain ⟨V, hV⟩ : ∃ V, V = wr.alloc (.cells #[.string x.1, .string x.2] 38) := ⟨_, rfl⟩
      have hb1 : Below wr.heap.size wr V := by rw [hV]; exact balloc (Below.refl _ _) _
      have hx0 : V.cell? ⟨wr.heap.size, 0, none⟩ = some (.string x.1) := by rw [hV]; exact cell_new wr [.string x.1, .string x.2] _ 0 _ rfl
      have hx1 : V.cell? ⟨wr.heap.size, 1, none⟩ = some (.string x.2) := by rw [hV]; exact cell_new wr [.string x.1, .string x.2] _ 1 _ rfl
      have HE1 := Lib.hid fun u : World => fbEncode_any x.1 u (by omega)
      have HE2 := Lib.hid fun u : World => fbEncode_any x.2 u (by omega)
      have HZ := Lib.hid (show wr.heap.size < V.heap.size from by rw [hV, World.size_alloc]; omega)
      have HB1 := Lib.hid hb1
      have HC := Lib.hid (fun (u : World) (hu : Below V.heap.size V u) => And.intro (cell_be hx0 hu) (cell_be hx1 hu))
      have HES := Lib.hid (encS_size x hsz.1 hsz.2)
      have HLB := Lib.hid (show (fbEncB x.1.data.toList).length ≤ 4000000 ∧ (fbEncB x.2.data.toList).length ≤ 4000000 from by
        have h1 := fbEncB_len x.1.data.toList
        have h2 := fbEncB_len x.2.data.toList
        have e1 : x.1.data.toList.length = x.1.size := by simp
        have e2 : x.2.data.toList.length = x.2.size := by simp
        omega)
      have HSX := Lib.hid (show (⟨((fbEncB x.1.data.toList ++ [61]) ++ fbEncB x.2.data.toList).toArray⟩ : ByteArray) = encS x from by unfold encS fbEncE entB; simp)
      have HEN := Lib.hid (show entB x = (x.1.data.toList, x.2.data.toList) from rfl)
      have HBW := Lib.hid hB
      clear hx hsz z1 z2 hD hb1 hx0 hx1
      go_upto_region 7 with fail
      rw [← hV]
      clear hV c1 c2
      refine wp_region_G (S := fun W : World => W.cell? ⟨wr.heap.size, 0, none⟩ = some (.string x.1) ∧ W.cell? ⟨wr.heap.size, 1, none⟩ = some (.string x.2)) (T := []) (by kernel_rfl) ?_
      have hb0 : Below V.heap.size V V.drew := ⟨rfl, rfl, rfl, Nat.le_refl _, fun _ _ => rfl⟩
      have hS : (fun W : World => W.cell? ⟨wr.heap.size, 0, none⟩ = some (.string x.1) ∧ W.cell? ⟨wr.heap.size, 1, none⟩ = some (.string x.2)) V.drew := HC.out _ hb0
      have HB0 := Lib.hid hb0
      clear hb0
      refine wpAnyG_pure (i := 0) (v := ?_) rfl (by kernel_rfl) (by kernel_rfl) (by kernel_rfl) (fun _ _ _ h => h) rfl ?_ ?_
      rotate_left
      · intro w'
        first | (go_simp; done) | (go_simp; with_reducible rfl)
      refine wpAnyG_pure (i := 1) (v := ?_) rfl (by kernel_rfl) (by kernel_rfl) (by kernel_rfl) (fun _ _ _ h => h) rfl ?_ ?_
      rotate_left
      · intro w'
        first | (go_simp; done) | (go_simp; with_reducible rfl)
      refine wpAnyG_take (i := 2) (v := ?_) rfl (by kernel_rfl) (by kernel_rfl) (by kernel_rfl) (by kernel_rfl) (fun _ _ _ h => h) hS rfl ?_ ?_
      rotate_left
      · intro w' hSw
        (try dsimp only at hSw)
        first | (go_simp; done) | (go_simp; with_reducible rfl)
      refine wpAnyG_pure (i := 5) (v := ?_) rfl (by kernel_rfl) (by kernel_rfl) (by kernel_rfl) (fun _ _ _ h => h) rfl ?_ ?_
      rotate_left
      · intro w'
        first | (go_simp; done) | (go_simp; with_reducible rfl)
      refine wpAnyG_take (i := 6) (v := ?_) rfl (by kernel_rfl) (by kernel_rfl) (by kernel_rfl) (by kernel_rfl) (fun _ _ _ h => h) hS rfl ?_ ?_
      rotate_left
      · intro w' hSw
        (try dsimp only at hSw)
        first | (go_simp; done) | (go_simp; with_reducible rfl)
      refine wpAnyG_one (i := 3) (by kernel_rfl) rfl rfl (fun K hK => ?_)
      go_simp
      go_at_call 47
      refine (HE1.out V.drew).mono ?_
      rintro e' V1 ⟨rfl, hv1⟩
      have HV1 := Lib.hid (bst HB0.out hv1)
      clear hv1
      go_wp2_with fail
      refine hK.out _ _ (fun _ _ => HC.out _ HV1.out) ?_
      clear hK K hS
      have hS : (fun W : World => W.cell? ⟨wr.heap.size, 0, none⟩ = some (.string x.1) ∧ W.cell? ⟨wr.heap.size, 1, none⟩ = some (.string x.2)) V1 := HC.out _ HV1.out
      refine wpAnyG_pure (i := 4) (v := .string ⟨(fbEncB x.1.data.toList ++ [61]).toArray⟩) rfl (by kernel_rfl) (by kernel_rfl) (by kernel_rfl) (fun _ _ _ h => h) rfl ?_ ?_
      · intro w'
        go_simp
        rw [if_neg (by have := HLB.out; omega)]
        rfl
      refine wpAnyG_one (i := 7) (by kernel_rfl) rfl rfl (fun K hK => ?_)
      go_simp
      go_at_call 47
      refine (HE2.out V1).mono ?_
      rintro e' V2 ⟨rfl, hv2⟩
      have HV2 := Lib.hid (bst HV1.out hv2)
      clear hv2
      go_wp2_with fail
      refine hK.out _ _ (fun _ _ => HC.out _ HV2.out) ?_
      clear hK K hS
      have hS : (fun W : World => W.cell? ⟨wr.heap.size, 0, none⟩ = some (.string x.1) ∧ W.cell? ⟨wr.heap.size, 1, none⟩ = some (.string x.2)) V2 := HC.out _ HV2.out
      refine wpAnyG_pure (i := 8) (v := .string (encS x)) rfl (by kernel_rfl) (by kernel_rfl) (by kernel_rfl) (fun _ _ _ h => h) rfl ?_ ?_
      · intro w'
        go_simp
        rw [if_neg (by have := HLB.out; simp; omega)]
        rw [ba_append, HSX.out]
      refine wpAnyG_one (i := 9) (by kernel_rfl) rfl rfl (fun K hK => ?_)
      go_simp
      have HV3 := Lib.hid (balloc HV2.out (.cells #[.string (encS x)] 9))
      refine hK.out _ _ (fun _ _ => HC.out _ HV3.out) ?_
      clear hK K hS
      have hO3 : OwnF tStr (V2.alloc (.cells #[.string (encS x)] 9)) w.heap.size 9 u4 k ((l.take k).map encS) := HO.out.below (bst HB1.out HV3.out) (Nat.le_refl _)
      have hsN : Sl tStr (V2.alloc (.cells #[.string (encS x)] 9)) (lt (V2.heap.size + 1)) (some ⟨V2.heap.size, 0, none⟩) 1 1 [encS x] := Sl.one_new flatStr V2 9 (cs := [.string (encS x)]) ⟨rfl, by have := HES.out; omega⟩ (by decide)
      obtain ⟨v9, w9, hrun, ho9, hb9, hg9⟩ := run_apfE (ty := 105) _ flatStr elemFS hO3 hsN (by omega) (by omega) (by have h1 := HW.out.size; have h2 := (bst HB1.out HV3.out).size; omega)
      have hS9 : (fun W : World => W.cell? ⟨wr.heap.size, 0, none⟩ = some (.string x.1) ∧ W.cell? ⟨wr.heap.size, 1, none⟩ = some (.string x.2)) w9 := ⟨own_far HO.out hg9 (Nat.le_refl _) (HC.out _ HV3.out).1, own_far HO.out hg9 (Nat.le_refl _) (HC.out _ HV3.out).2⟩
      have HO9 := Lib.hid ho9
      have HB9 := Lib.hid (HW.out.trans (((bst HB1.out HV3.out).mono HW.out.size).trans hb9))
      clear hO3 hsN ho9 hb9 hg9
      refine wpAnyG_one (i := 10) (by kernel_rfl) rfl rfl (fun K hK => ?_)
      refine wp_append_runI (.tmp 17) (.tmp 26) 105 rfl _ _ rfl rfl hrun ?_
      refine hK.out _ _ (fun _ _ => hS9) ?_
      clear hK K hrun
      have hS := hS9
      clear hS9
      refine wpAnyG_pure (i := 11) (v := ?_) rfl (by kernel_rfl) (by kernel_rfl) (by kernel_rfl) (fun _ _ _ h => h) rfl ?_ ?_
      rotate_left
      · intro w'
        first | (go_simp; done) | (go_simp; with_reducible rfl)
      refine wpAnyG_done (by kernel_rfl) ?_ _
      go_simp
      go_wp2_with fail
      go_roundw
      case rel => exact ⟨k + 1, by omega, by go_num, Lib.hid (by rw [HX.out, List.map_append]; exact HO9.out), HB9⟩
      case measure => simp [intOf]; omega
    · obtain rfl : k = n := by omega
      have ho := HO.out
      rw [List.take_of_length_le (by have := HN.out; omega)] at ho
      obtain ⟨A4, c4, e4, hs4⟩ := ho.sl (by decide) (by show k * 16 ≤ _; omega)
      subst e4
      have HJ : Hid (Calls Tryz.prog 48 #[.slice A4 k c4, .string ⟨#[38]⟩] wr fun e w' => e = .returned (.string ⟨(fbEncL (l.map entB)).toArray⟩) ∧ Below wr.heap.size wr w') := by
        have hj : Lib.join ((l.map encS).map (·.data.toList)) ([38] : List UInt8) = fbEncL (l.map entB) := by
          rw [mapEnc, ← fbJoin_eq]
          rfl
        rcases Nat.eq_zero_or_pos k with h0 | h0
        · have hl0 : l = [] := List.eq_nil_of_length_eq_zero (by have := HN.out; omega)
          subst hl0
          subst h0
          refine (Tryz.strings_Join_none A4 c4 ⟨#[38]⟩ wr).mono ?_
          rintro e' w' ⟨rfl, rfl⟩
          exact ⟨rfl, Below.refl _ _⟩
        · obtain ⟨bk, ob, cells, rfl, hD, hr, hc⟩ := hs4.at_ h0
          have hkl : k = (l.map encS).length := by rw [List.length_map]; exact HN.out
          have h := Tryz.strings_Join bk ob c4 (l.map encS) ⟨#[38]⟩ wr (fun j x hx => by
            obtain ⟨b2, o2, e2, _, h2, _⟩ := hs4.str hx
            injection e2 with e2
            injection e2 with e3 e4
            subst e3
            subst e4
            exact h2) hD (by rw [List.length_map]; have := HN.out; omega) (by rw [← hkl]; exact hs4.hc) (by
            rw [show (⟨#[38]⟩ : ByteArray).data.toList = [38] from rfl, hj]
            have := HLEN.out
            omega)
          rw [show (⟨#[38]⟩ : ByteArray).data.toList = [38] from rfl, hj, ← hkl] at h
          exact h
      have HW2 := Lib.hid HW.out
      clear ho hs4
      obtain ⟨L, hLq⟩ : ∃ L, fbEncL (l.map entB) = L := ⟨_, rfl⟩
      have HLQ := Lib.hid hLq
      rw [hLq] at HJ HLEN
      clear hLq
      have HLL := Lib.hid (show (⟨L.toArray⟩ : ByteArray).size = L.length from rfl)
      by_cases h4 : 4000 < L.length
      · have t1 : decide ((4000 : Int) < (L.length : Int)) = true := decide_eq_true (by omega)
        have t2 : (4000 : Int) < (L.length : Int) := by omega
        have H4 := Lib.hid h4
        clear h4
        go_wp2_with (go_at_call 48; refine HJ.out.mono ?_; rintro e' w3 ⟨rfl, hw3⟩)
        go_ret2
        exact ⟨HW2.out.trans (hw3.mono HW2.out.size), .inl ⟨by rw [HLQ.out]; exact H4.out, rfl⟩⟩
      · have t1 : decide ((4000 : Int) < (L.length : Int)) = false := decide_eq_false (by omega)
        have t2 : ¬ (4000 : Int) < (L.length : Int) := by omega
        have H4 := Lib.hid (show L.length ≤ 4000 by omega)
        clear h4
        go_wp2_with (go_at_call 48; refine HJ.out.mono ?_; rintro e' w3 ⟨rfl, hw3⟩)
        go_ret2
        exact ⟨HW2.out.trans (hw3.mono HW2.out.size), .inr ⟨by rw [HLQ.out]; exact H4.out, by rw [HLQ.out]; rfl⟩⟩
end Go.Proofs.YtpbngckplbnahaaGreatDoor
