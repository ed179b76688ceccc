/-
Forms as text: the walk of decode.
-/
import Derived.Test.YtpbngckplbnahaaGreatDoorFbSteps
import Derived.Test.YtpbngckplbnahaaGreatDoorFormKit
import Derived.Test.YtpbngckplbnahaaGreatDoorRegionG
import Derived.Test.YtpbngckplbnahaaGreatDoorSerBytes
import Derived.Test.YtpbngckplbnahaaGreatDoorFbSplit
import Derived.Test.YtpbngckplbnahaaGreatDoorFbEncL
namespace Go.Proofs.YtpbngckplbnahaaGreatDoor
open Go.RowKit Go.Cl
attribute [local go_sem ↓] Go.wp_at_zero Go.wp_at_succ
theorem wp_apB2 {P : Program} (w : World) {o : Oper} {a : Act} {K : Act → World → Prop} {Q : Exit → Act → World → Prop} (s x : Operand) (t : TypeId)
    (ho : o.op = .call { callee := .builtin .append, args := #[s, x], argTypes := #[t, t] }) (hE : ElemOf P t 5 1 1) {base : Nat} {v : Value} {xs ys : List UInt8} (hv : a.eval s = v) (hown : OwnB w base v xs) {b off m c : Nat}
    (hx : a.eval x = .slice (some ⟨b, off, none⟩) m c) (hm : m = ys.length) (hcell : ∀ j u, (Lib.byteCells ys)[j]? = some u → w.cell? ⟨b, off + j, none⟩ = some u) (h63 : xs.length + ys.length ≤ 140737488355328) (hbase : base ≤ w.heap.size)
    (h : ∀ v' w', OwnB w' base v' (xs ++ ys) → Below base w w' → K (a.put o.dst v') w') : Oper.wp P o a w K Q := by
  obtain ⟨v', w', hrun, h1, _, h3, _⟩ := run_apB (P := P) (t := t) (ty := o.type) (c := c) w hE hown hm hcell h63 hbase
  unfold Oper.wp execOp
  simp only [ho, resolve, invoke, builtin, Sem.run_bind, Sem.run_pure, Result.andThen_ok, List.map_toArray, List.map_cons, List.map_nil, hv, hx, hrun]
  exact h v' w' h1 h3
theorem dec_end {xs : List UInt8} {k : Nat} (h : xs.length ≤ k) : fbDecB (xs.drop k) = [] := by
  rw [List.drop_eq_nil_of_le h]
  rfl
set_option maxRecDepth 100000 in
set_option maxHeartbeats 8000000 in
theorem fbDecode_any (s : ByteArray) (w : World) (hs : s.size ≤ 1000000000) :
    Calls Tryz.prog 51 #[.string s] w fun e w' => e = .returned (.string ⟨(fbDecB s.data.toList).toArray⟩) ∧ Below w.heap.size w w' := by
  have hlen : s.data.toList.length = s.size := by simp
  have HLEN := Lib.hid hlen
  clear hlen
  go_enter Tryz.func51, Tryz.ntmps51
  go_upto_region 3 with fail
  go_loopw [3, 4] (fun v i wr => ∃ (k : Nat) (acc : List UInt8), k ≤ s.size ∧ acc.length ≤ k ∧ i = .int .i64 (k : Int) ∧ Hid (fbDecB s.data.toList = acc ++ fbDecB (s.data.toList.drop k)) ∧ OwnB wr w.heap.size v acc ∧ Below w.heap.size w wr) (fun _ i _ => s.size - (intOf i).toNat)
  case atStart => exact ⟨0, [], Nat.zero_le _, Nat.zero_le _, rfl, Lib.hid rfl, OwnB.nil _ _, Below.refl _ _⟩
  case round =>
    obtain ⟨k, acc, hk, hal, rfl, HU, hown, hb⟩ := hrel
    have hz := hb.size
    by_cases hlt : k < s.size
    · have HKL : Hid (k < s.data.toList.length) := by have := HLEN.out; show k < _; omega
      have hacc : acc.length ≤ 1000000000 := by omega
      by_cases h43 : s[k] = 43
      · have HU2 := Lib.hid (show fbDecB s.data.toList = (acc ++ [32]) ++ fbDecB (s.data.toList.drop (k + 1)) from by rw [HU.out, fb_plus HKL.out h43]; simp)
        have c1 : ((s[k].toNat : Int) == 43) = true := by rw [h43]; rfl
        clear h43 HU
        go_wp2_with (at_builtin; (refine list_apB _ rfl (.tmp 22) (.tmp 23) 52 rfl elemB (v := u3) rfl (OwnB.alloc hown _) (ys := [32]) rfl rfl (cell_new wr [.int .u8 32] _) (by simp only [List.length_cons, List.length_nil]; omega) (by rw [World.size_alloc]; omega) ?_; intro v9 w9 hown9 hbl9))
        have hb9 : Below w.heap.size w w9 := ((hb.alloc hz _)).trans hbl9
        clear hbl9
        go_roundw
        case rel => exact ⟨k + 1, _, by omega, by rw [List.length_append]; show _ + 1 ≤ _; omega, by go_num, Lib.hid HU2.out, hown9, hb9⟩
        case measure => simp [intOf]; omega
      · have c1 : ((s[k].toNat : Int) == 43) = false := beq_eq_false_iff_ne.2 fun h => h43 (UInt8.toNat_inj.1 (show s[k].toNat = 43 from by omega))
        have w1 : IntKind.i64.wrap ((k : Int) + 1) = (k : Int) + 1 := IntWalk.i64_in _ (by omega)
        have w2 : IntKind.i64.wrap ((k : Int) + 2) = (k : Int) + 2 := IntWalk.i64_in _ (by omega)
        by_cases hesc : s[k] = 37 ∧ ∃ h : k + 2 < s.data.toList.length, 0 ≤ digI (s.data.toList[k + 1]'(by omega)) ∧ 0 ≤ digI s.data.toList[k + 2]
        · obtain ⟨h37, hl2, d1, d2⟩ := hesc
          have q2 : k + 2 < s.size := by have := HLEN.out; omega
          have q1 : k + 1 < s.size := by omega
          have HU2 := Lib.hid (show fbDecB s.data.toList = (acc ++ [digV (s[k + 1]'q1) (s[k + 2]'q2)]) ++ fbDecB (s.data.toList.drop (k + 3)) from by rw [HU.out, fb_pct hl2 h37 d1 d2]; simp; rfl)
          have D1 := Lib.hid (show 0 ≤ digI (s[k + 1]'q1) from d1)
          have D2 := Lib.hid (show 0 ≤ digI (s[k + 2]'q2) from d2)
          have c2 : ((s[k].toNat : Int) == 37) = true := by rw [h37]; rfl
          have c5 : 37 ≤ s[k].toNat := by rw [h37]; decide
          have c6 : s[k].toNat ≤ 37 := by rw [h37]; decide
          have i1 : (0 : Int) ≤ (k : Int) + 1 := by omega
          have i2 : (k : Int) + 1 < (s.size : Int) := by omega
          have i3 : (0 : Int) ≤ (k : Int) + 2 := by omega
          have i4 : (k : Int) + 2 < (s.size : Int) := by omega
          have n1 : ((k : Int) + 1).toNat = k + 1 := by omega
          have n2 : ((k : Int) + 2).toNat = k + 2 := by omega
          have HI := Lib.hid fun (x : UInt8) (u : World) => digit_any x u
          clear h37 h43 HU hl2 d1 d2
          have d1 : 0 ≤ digI (s[k + 1]'q1) := D1.out
          have d2 : 0 ≤ digI (s[k + 2]'q2) := D2.out
          go_upto_region 9 with (go_at_call 97; refine (HI.out _ _).mono ?_; rintro e' w2 ⟨rfl, hw2⟩; obtain rfl : wr = w2 := hw2.symm)
          refine wp_region_G (S := fun _ : World => True) (T := []) (by kernel_rfl) ?_
          refine wpAnyG_pure (i := 0) (v := ?_) rfl (by kernel_rfl) (by kernel_rfl) (by kernel_rfl) (fun _ _ _ h => h) rfl ?_ ?_
          rotate_left
          · intro w'
            first | (go_simp; done) | (go_simp; with_reducible rfl)
          refine wpAnyG_pure (i := 1) (v := ?_) rfl (by kernel_rfl) (by kernel_rfl) (by kernel_rfl) (fun _ _ _ h => h) rfl ?_ ?_
          rotate_left
          · intro w'
            first | (go_simp; done) | (go_simp; with_reducible rfl)
          refine wpAnyG_pure (i := 2) (v := ?_) rfl (by kernel_rfl) (by kernel_rfl) (by kernel_rfl) (fun _ _ _ h => h) rfl ?_ ?_
          rotate_left
          · intro w'
            first | (go_simp; done) | (go_simp; with_reducible rfl)
          refine wpAnyG_pure (i := 3) (v := ?_) rfl (by kernel_rfl) (by kernel_rfl) (by kernel_rfl) (fun _ _ _ h => h) rfl ?_ ?_
          rotate_left
          · intro w'
            first | (go_simp; done) | (go_simp; with_reducible rfl)
          refine wpAnyG_pure (i := 4) (v := ?_) rfl (by kernel_rfl) (by kernel_rfl) (by kernel_rfl) (fun _ _ _ h => h) rfl ?_ ?_
          rotate_left
          · intro w'
            first | (go_simp; done) | (go_simp; with_reducible rfl)
          refine wpAnyG_pure (i := 7) (v := ?_) rfl (by kernel_rfl) (by kernel_rfl) (by kernel_rfl) (fun _ _ _ h => h) rfl ?_ ?_
          rotate_left
          · intro w'
            first | (go_simp; done) | (go_simp; with_reducible rfl)
          refine wpAnyG_pure (i := 8) (v := ?_) rfl (by kernel_rfl) (by kernel_rfl) (by kernel_rfl) (fun _ _ _ h => h) rfl ?_ ?_
          rotate_left
          · intro w'
            first | (go_simp; done) | (go_simp; with_reducible rfl)
          refine wpAnyG_pure (i := 9) (v := ?_) rfl (by kernel_rfl) (by kernel_rfl) (by kernel_rfl) (fun _ _ _ h => h) rfl ?_ ?_
          rotate_left
          · intro w'
            first | (go_simp; done) | (go_simp; with_reducible rfl)
          refine wpAnyG_pure (i := 10) (v := ?_) rfl (by kernel_rfl) (by kernel_rfl) (by kernel_rfl) (fun _ _ _ h => h) rfl ?_ ?_
          rotate_left
          · intro w'
            first | (go_simp; done) | (go_simp; with_reducible rfl)
          refine wpAnyG_one (i := 5) (by kernel_rfl) rfl rfl (fun K hK => ?_)
          go_simp
          go_at_call 97
          refine (HI.out _ _).mono ?_
          rintro e' w2 ⟨rfl, rfl⟩
          go_wp2_with fail
          refine hK.out _ _ (fun _ _ => trivial) ?_
          clear hK K
          refine wpAnyG_pure (i := 6) (v := .int .i64 (digI s[k + 1] * 16)) rfl (by kernel_rfl) (by kernel_rfl) (by kernel_rfl) (fun _ _ _ h => h) rfl ?_ ?_
          · intro w'
            go_simp
            rw [digI_wrap]
          refine wpAnyG_one (i := 11) (by kernel_rfl) rfl rfl (fun K hK => ?_)
          go_simp
          go_at_call 97
          refine (HI.out _ _).mono ?_
          rintro e' w2 ⟨rfl, rfl⟩
          go_wp2_with fail
          refine hK.out _ _ (fun _ _ => trivial) ?_
          clear hK K
          refine wpAnyG_pure (i := 12) (v := .int .i64 (bits .or .i64 (digI s[k + 1] * 16) (digI s[k + 2]))) rfl (by kernel_rfl) (by kernel_rfl) (by kernel_rfl) (fun _ _ _ h => h) rfl ?_ ?_
          · intro w'
            go_simp
            try rfl
          refine wpAnyG_pure (i := 13) (v := .int .u8 ((digV s[k + 1] s[k + 2]).toNat : Int)) rfl (by kernel_rfl) (by kernel_rfl) (by kernel_rfl) (fun _ _ _ h => h) rfl ?_ ?_
          · intro w'
            go_simp
            (try rw [digV_nat])
          refine wpAnyG_one (i := 14) (by kernel_rfl) rfl rfl (fun K hK => ?_)
          go_simp
          refine hK.out _ _ (fun _ _ => trivial) ?_
          clear hK K
          refine wpAnyG_one (i := 15) (by kernel_rfl) rfl rfl (fun K hK => ?_)
          refine wp_apB2 _ (.tmp 53) (.tmp 67) 52 rfl elemB (v := u3) rfl (OwnB.alloc hown _).drew (ys := [digV s[k + 1] s[k + 2]]) rfl rfl (cell_new wr [.int .u8 (digV s[k + 1] s[k + 2]).toNat] _) (by simp only [List.length_cons, List.length_nil]; omega) (by show _ ≤ (wr.alloc _).heap.size; rw [World.size_alloc]; omega) (fun v9 w9 hown9 hbl9 => ?_)
          refine hK.out _ _ (fun _ _ => trivial) ?_
          clear hK K
          refine wpAnyG_pure (i := 16) (v := ?_) rfl (by kernel_rfl) (by kernel_rfl) (by kernel_rfl) (fun _ _ _ h => h) rfl ?_ ?_
          rotate_left
          · intro w'
            first | (go_simp; done) | (go_simp; with_reducible rfl)
          refine wpAnyG_done (by kernel_rfl) ?_ _
          go_simp
          have hb9 : Below w.heap.size w w9 := ((hb.alloc hz _).drew).trans hbl9
          clear hbl9
          go_wp2_with fail
          go_roundw
          case rel => exact ⟨k + 3, _, by omega, by rw [List.length_append]; show _ + 1 ≤ _; omega, by go_num, Lib.hid HU2.out, hown9, hb9⟩
          case measure => simp [intOf]; omega
        · have HU2 := Lib.hid (show fbDecB s.data.toList = (acc ++ [s[k]]) ++ fbDecB (s.data.toList.drop (k + 1)) from by rw [HU.out, fb_one HKL.out h43 hesc]; simp; rfl)
          have HI := Lib.hid fun (x : UInt8) (u : World) => digit_any x u
          have HES := Lib.hid hesc
          clear hesc HU
          by_cases h37 : s[k] = 37
          · have HE2 : Hid (∀ h : k + 2 < s.size, ¬ (0 ≤ digI (s[k + 1]'(by omega)) ∧ 0 ≤ digI (s[k + 2]'h))) := fun h hd => HES.out ⟨h37, by have := HLEN.out; omega, hd.1, hd.2⟩
            have c2 : ((s[k].toNat : Int) == 37) = true := by rw [h37]; rfl
            have c5 : 37 ≤ s[k].toNat := by rw [h37]; decide
            have c6 : s[k].toNat ≤ 37 := by rw [h37]; decide
            have H37 := Lib.hid h37
            clear h37 h43 HES
            by_cases hl2 : k + 2 < s.size
            · have q1 : k + 1 < s.size := by omega
              have HND := Lib.hid (HE2.out hl2)
              have i1 : (0 : Int) ≤ (k : Int) + 1 := by omega
              have i2 : (k : Int) + 1 < (s.size : Int) := by omega
              have i3 : (0 : Int) ≤ (k : Int) + 2 := by omega
              have i4 : (k : Int) + 2 < (s.size : Int) := by omega
              have n1 : ((k : Int) + 1).toNat = k + 1 := by omega
              have n2 : ((k : Int) + 2).toNat = k + 2 := by omega
              clear HE2
              by_cases d1 : 0 ≤ digI (s[k + 1]'q1)
              · have d2 : ¬ 0 ≤ digI (s[k + 2]'hl2) := fun h => HND.out ⟨d1, h⟩
                clear HND
                go_wp2_with (first | (go_at_call 97; refine (HI.out _ _).mono ?_; rintro e' w2 ⟨rfl, hw2⟩; obtain rfl : wr = w2 := hw2.symm) | (at_builtin; (first | (refine list_apB _ rfl (.tmp 11) (.tmp 15) 52 rfl elemB (v := u3) rfl (OwnB.alloc hown _) (ys := [s[k]]) rfl rfl (cell_new wr [.int .u8 s[k].toNat] _) (by simp only [List.length_cons, List.length_nil]; omega) (by rw [World.size_alloc]; omega) ?_) | (refine list_apB _ rfl (.tmp 11) (.tmp 15) 52 rfl elemB (v := u3) rfl (OwnB.alloc hown _) (ys := [37]) rfl rfl (cell_new wr [.int .u8 37] _) (by simp only [List.length_cons, List.length_nil]; omega) (by rw [World.size_alloc]; omega) ?_)); intro v9 w9 hown9 hbl9))
                have hb9 : Below w.heap.size w w9 := ((hb.alloc hz _)).trans hbl9
                clear hbl9
                go_roundw
                case rel => exact ⟨k + 1, _, by omega, by rw [List.length_append]; show _ + 1 ≤ _; omega, by go_num, Lib.hid (by first | exact HU2.out | (have h := HU2.out; rw [H37.out] at h; exact h)), hown9, hb9⟩
                case measure => simp [intOf]; omega
              · clear HND
                go_wp2_with (first | (go_at_call 97; refine (HI.out _ _).mono ?_; rintro e' w2 ⟨rfl, hw2⟩; obtain rfl : wr = w2 := hw2.symm) | (at_builtin; (first | (refine list_apB _ rfl (.tmp 11) (.tmp 15) 52 rfl elemB (v := u3) rfl (OwnB.alloc hown _) (ys := [s[k]]) rfl rfl (cell_new wr [.int .u8 s[k].toNat] _) (by simp only [List.length_cons, List.length_nil]; omega) (by rw [World.size_alloc]; omega) ?_) | (refine list_apB _ rfl (.tmp 11) (.tmp 15) 52 rfl elemB (v := u3) rfl (OwnB.alloc hown _) (ys := [37]) rfl rfl (cell_new wr [.int .u8 37] _) (by simp only [List.length_cons, List.length_nil]; omega) (by rw [World.size_alloc]; omega) ?_)); intro v9 w9 hown9 hbl9))
                have hb9 : Below w.heap.size w w9 := ((hb.alloc hz _)).trans hbl9
                clear hbl9
                go_roundw
                case rel => exact ⟨k + 1, _, by omega, by rw [List.length_append]; show _ + 1 ≤ _; omega, by go_num, Lib.hid (by first | exact HU2.out | (have h := HU2.out; rw [H37.out] at h; exact h)), hown9, hb9⟩
                case measure => simp [intOf]; omega

            · clear HE2
              go_wp2_with (first | (go_at_call 97; refine (HI.out _ _).mono ?_; rintro e' w2 ⟨rfl, hw2⟩; obtain rfl : wr = w2 := hw2.symm) | (at_builtin; (first | (refine list_apB _ rfl (.tmp 11) (.tmp 15) 52 rfl elemB (v := u3) rfl (OwnB.alloc hown _) (ys := [s[k]]) rfl rfl (cell_new wr [.int .u8 s[k].toNat] _) (by simp only [List.length_cons, List.length_nil]; omega) (by rw [World.size_alloc]; omega) ?_) | (refine list_apB _ rfl (.tmp 11) (.tmp 15) 52 rfl elemB (v := u3) rfl (OwnB.alloc hown _) (ys := [37]) rfl rfl (cell_new wr [.int .u8 37] _) (by simp only [List.length_cons, List.length_nil]; omega) (by rw [World.size_alloc]; omega) ?_)); intro v9 w9 hown9 hbl9))
              have hb9 : Below w.heap.size w w9 := ((hb.alloc hz _)).trans hbl9
              clear hbl9
              go_roundw
              case rel => exact ⟨k + 1, _, by omega, by rw [List.length_append]; show _ + 1 ≤ _; omega, by go_num, Lib.hid (by first | exact HU2.out | (have h := HU2.out; rw [H37.out] at h; exact h)), hown9, hb9⟩
              case measure => simp [intOf]; omega

          · have c2 : ((s[k].toNat : Int) == 37) = false := beq_eq_false_iff_ne.2 fun h => h37 (UInt8.toNat_inj.1 (show s[k].toNat = 37 from by omega))
            have c3 : ¬ s[k].toNat = 37 := fun e => h37 (UInt8.toNat_inj.1 e)
            clear h37 h43 HES
            go_wp2_with (first | (go_at_call 97; refine (HI.out _ _).mono ?_; rintro e' w2 ⟨rfl, hw2⟩; obtain rfl : wr = w2 := hw2.symm) | (at_builtin; (first | (refine list_apB _ rfl (.tmp 11) (.tmp 15) 52 rfl elemB (v := u3) rfl (OwnB.alloc hown _) (ys := [s[k]]) rfl rfl (cell_new wr [.int .u8 s[k].toNat] _) (by simp only [List.length_cons, List.length_nil]; omega) (by rw [World.size_alloc]; omega) ?_) | (refine list_apB _ rfl (.tmp 11) (.tmp 15) 52 rfl elemB (v := u3) rfl (OwnB.alloc hown _) (ys := [37]) rfl rfl (cell_new wr [.int .u8 37] _) (by simp only [List.length_cons, List.length_nil]; omega) (by rw [World.size_alloc]; omega) ?_)); intro v9 w9 hown9 hbl9))
            have hb9 : Below w.heap.size w w9 := ((hb.alloc hz _)).trans hbl9
            clear hbl9
            go_roundw
            case rel => exact ⟨k + 1, _, by omega, by rw [List.length_append]; show _ + 1 ≤ _; omega, by go_num, Lib.hid (by first | exact HU2.out | (have h := HU2.out; rw [H37.out] at h; exact h)), hown9, hb9⟩
            case measure => simp [intOf]; omega

    · have HF := Lib.hid (show fbDecB s.data.toList = acc from by rw [HU.out, dec_end (by have := HLEN.out; omega), List.append_nil])
      have hcv := strB hown
      obtain rfl : k = s.size := by omega
      clear HU
      go_wp2_with fail
      go_ret
      exact ⟨by rw [HF.out]; rfl, hb⟩
end Go.Proofs.YtpbngckplbnahaaGreatDoor

/-
Forms as text: the walk of Decode.
-/
namespace Go.Proofs.YtpbngckplbnahaaGreatDoor
open Go.RowKit Go.Cl Go.Shelf
attribute [local go_sem] Oper.semAt_some
attribute [local go_sem ↓] Go.wp_at_zero Go.wp_at_succ

/-- An entry as it lies. -/
def entD (p : List UInt8 × List UInt8) : DAttr := (⟨p.1.toArray⟩, ⟨p.2.toArray⟩)
def decAcc (ps : List (List UInt8)) : List DAttr := (fbDecP ps).map entD
theorem decAcc_snoc (ps : List (List UInt8)) (p : List UInt8) : decAcc (ps ++ [p]) = if p.isEmpty then decAcc ps else decAcc ps ++ [entD (fbDecE p)] := by
  unfold decAcc fbDecP
  rw [List.filter_append]
  cases hp : p.isEmpty with
  | true => simp [hp]
  | false => simp [hp]
theorem decAcc_len (ps : List (List UInt8)) : (decAcc ps).length ≤ ps.length := by
  unfold decAcc fbDecP
  rw [List.length_map, List.length_map]
  exact List.length_filter_le _ _
theorem fbJoin_mem : ∀ (ps : List (List UInt8)) (p : List UInt8), p ∈ ps → p.length ≤ (fbJoin ps).length
  | [], _, h => by cases h
  | [x], p, h => by obtain rfl := List.mem_singleton.1 h; exact Nat.le_refl _
  | x :: y :: r, p, h => by
    show _ ≤ (x ++ 38 :: fbJoin (y :: r)).length
    rw [List.length_append, List.length_cons]
    rcases List.mem_cons.1 h with h | h
    · rw [h]; omega
    · have := fbJoin_mem (y :: r) p h; omega
theorem cut_fst_le (r mark : List UInt8) : (Lib.cut r mark).1.length ≤ r.length := by
  unfold Lib.cut
  split
  · rw [List.length_take]; omega
  · exact Nat.le_refl _
theorem cut_snd_le (r mark : List UInt8) : (Lib.cut r mark).2.1.length ≤ r.length := by
  unfold Lib.cut
  split
  · rw [List.length_drop]; omega
  · exact Nat.zero_le _
theorem bl_drewN (W : World) (n : Nat) : Below W.heap.size W (W.drewN n) := ⟨by simp [World.drewN], by simp [World.drewN], by simp [World.drewN], by simp [World.drewN], fun _ _ => by simp [World.drewN]⟩
set_option maxRecDepth 100000 in
set_option maxHeartbeats 8000000 in
theorem fbDecL_any (ps : List (List UInt8)) (hp : ∀ p ∈ ps, (38 : UInt8) ∉ p) (h0 : ps ≠ []) (h20 : ps.length ≤ 20) (hsz : (fbJoin ps).length ≤ 4000) (w : World) (hE : Env w) :
    Calls Tryz.prog 20 #[.string ⟨(fbJoin ps).toArray⟩] w fun e w' => Below w.heap.size w w' ∧ ∃ v, e = .returned (.tuple #[v, .int .i64 0]) ∧ OwnF tDA w' w.heap.size 38 v (decAcc ps).length (decAcc ps) := by
  obtain ⟨mx, hmx⟩ := hE.mx
  have HP := Lib.hid hp
  have HP0 := Lib.hid h0
  have HP20 := Lib.hid h20
  have HPZ := Lib.hid hsz
  obtain ⟨s, hs⟩ : ∃ s : ByteArray, (⟨(fbJoin ps).toArray⟩ : ByteArray) = s := ⟨_, rfl⟩
  have hss : s.size ≤ 4000 := by rw [← hs]; exact hsz
  have HSQ := Lib.hid hs
  rw [hs]
  obtain ⟨w1, hw1⟩ : ∃ w1, w1 = w.alloc (.cells #[.slice none 0 0] 32) := ⟨_, rfl⟩
  obtain ⟨w2, hw2⟩ : ∃ w2, w2 = w1.alloc (.cells #[.string s] 9) := ⟨_, rfl⟩
  obtain ⟨w3, hw3⟩ : ∃ w3, w3 = w2.alloc (.cells #[.string ⟨#[38]⟩] 9) := ⟨_, rfl⟩
  obtain ⟨w4, hw4⟩ : ∃ w4, w4 = w3.alloc (.cells #[.int .i64 0] 3) := ⟨_, rfl⟩
  have z1 : w1.heap.size = w.heap.size + 1 := by rw [hw1]; exact World.size_alloc _ _
  have z2 : w2.heap.size = w.heap.size + 2 := by rw [hw2, World.size_alloc, z1]
  have z3 : w3.heap.size = w.heap.size + 3 := by rw [hw3, World.size_alloc, z2]
  have z4 : w4.heap.size = w.heap.size + 4 := by rw [hw4, World.size_alloc, z3]
  have hx0 : w4.heap[w.heap.size]? = some (.cells #[.slice none 0 0] 32 (0, 0)) := by rw [hw4, Lib.alloc_old _ _ _ (by omega), hw3, Lib.alloc_old _ _ _ (by omega), hw2, Lib.alloc_old _ _ _ (by omega), hw1]; exact heap_alloc_new w _
  have hx1 : w4.heap[w.heap.size + 1]? = some (.cells #[.string s] 9 (0, 0)) := by rw [hw4, Lib.alloc_old _ _ _ (by omega), hw3, Lib.alloc_old _ _ _ (by omega), hw2, ← z1]; exact heap_alloc_new w1 _
  have hx2 : w4.heap[w.heap.size + 2]? = some (.cells #[.string ⟨#[38]⟩] 9 (0, 0)) := by rw [hw4, Lib.alloc_old _ _ _ (by omega), hw3, ← z2]; exact heap_alloc_new w2 _
  have hx3 : w4.heap[w.heap.size + 3]? = some (.cells #[.int .i64 0] 3 (0, 0)) := by rw [hw4, ← z3]; exact heap_alloc_new w3 _
  have hb4 : Below w.heap.size w w4 := by rw [hw4, hw3, hw2, hw1]; exact balloc (balloc (balloc (balloc (Below.refl _ _) _) _) _) _
  have HI0 := Lib.hid (show SpI w4 w.heap.size [] s w4 from ⟨Below.refl _ _, Nat.le_refl _, z4, ⟨_, hx0, OwnF.nil _ _ _⟩, hx1, hx2, hx3⟩)
  have HB4 := Lib.hid hb4
  have HZ := Lib.hid (show w1.heap.size = w.heap.size + 1 ∧ w4.heap.size = w.heap.size + 4 from ⟨z1, z4⟩)
  have HSP := Lib.hid (show Calls Tryz.prog 49 #[.string s, .string ⟨#[38]⟩] w1 fun e w' => e = .returned (.func (.func 133) #[] #[.pointer (some ⟨w.heap.size + 2, 0, none⟩), .pointer (some ⟨w.heap.size + 1, 0, none⟩), .pointer (some ⟨w.heap.size + 3, 0, none⟩)]) ∧ w' = w4 from by
    have h := splitSeq_any s w1
    rw [z1] at h
    refine h.mono ?_
    rintro e w' ⟨rfl, rfl⟩
    exact ⟨rfl, by rw [hw4, hw3, hw2]⟩)
  have HMX := Lib.hid (fun (acc : List DAttr) (y : ByteArray) (W : World) (h : SpI w4 w.heap.size acc y W) => show W.cell? ⟨0, 0, none⟩ = some (.int .i64 mx) from
    (h.low.cell (p := ⟨0, 0, none⟩) (World.block_lt_of_cell? w ⟨0, 0, none⟩ hmx)).trans (cell_be hmx hb4))
  have h4 : ¬ (4000 : Int) < (s.size : Int) := by omega
  clear z1 z2 z3 z4 hx0 hx1 hx2 hx3 hb4 hw2 hw3 hw4 hp h0 h20 hsz hs hmx
  refine (callsIn_wide (n := 9)).1 ?_
  refine callsIn_of_wp_marks Tryz.func20 rfl trivial ?_ rfl
  simp only [Tryz.ntmps20, List.size_toArray, List.length_cons, List.length_nil, Nat.reduceAdd, Nat.reduceSub, Array.replicate_succ, Array.replicate_zero, List.push_toArray, List.append_toArray, List.nil_append, List.cons_append]
  refine wpIn_wide.2 ?_
  go_upto_region 4 with fail
  rw [← hw1]
  clear hw1
  go_wp2_with (go_at_call 49; refine HSP.out.mono ?_; rintro e' wz ⟨rfl, hwz⟩; obtain rfl : w4 = wz := hwz.symm)
  refine wpIn_wide.1 (wpIn_roundsG2 (F := Fence.wide) (n := 9) rfl (by decide) (gf := 133) (lb := #[.pointer (some ⟨w.heap.size + 2, 0, none⟩), .pointer (some ⟨w.heap.size + 1, 0, none⟩), .pointer (some ⟨w.heap.size + 3, 0, none⟩)]) rfl trivial (enters_of Tryz.func133 (by kernel_rfl) rfl)
    ps.length (fun k => #[.string ⟨(ps.getD k []).toArray⟩]) (fun _ => rfl) (fun y k W => SpI w4 w.heap.size (decAcc (ps.take k)) y W) (fun _ z W W' => W' = W.setCell ⟨w.heap.size + 1, 0, none⟩ (.string z))
    5 (fun k => .string ⟨(ps.getD k []).toArray⟩)
    (fun _ _ => SpI.own) ?hM s HI0.out ?hseq ?assign ?body ?done)
  case hM =>
    rintro y z k W W' h rfl
    exact h.turn z
  case assign =>
    intro lp y k W K hk hI hK
    have HI := Lib.hid hI
    have HK := Lib.hid hK
    clear hI hK
    gi_wp2
    refine HK.out _ _ (KeepsOthers.refl _) ⟨HI.out, ?_⟩
    first | (go_simp; done) | (simp; done) | kernel_rfl
  case hseq =>
    intro lp J W hJI hY hM hJ0
    refine split1_in 8 (by decide) lp w.heap.size ps HP.out HP0.out HPZ.out J (fun y k W hJ => ?_) hY (fun y z k W hJ => hM y z k W _ hJ rfl) W (HSQ.out ▸ hJ0)
    have hI := hJI y k W hJ
    exact ⟨hI.sb, cell_blk (i := 0) hI.pb rfl, cell_blk (i := 0) hI.zb rfl⟩
  case body =>
    rintro lp y k a' W hk ⟨hI, rfl⟩
    obtain ⟨p, hp0⟩ : ∃ p, ps[k] = p := ⟨_, rfl⟩
    have hgd : ps.getD k [] = p := by rw [List.getD_eq_getElem?_getD, List.getElem?_eq_getElem hk, hp0]; rfl
    have hpl : p.length ≤ 4000 := Nat.le_trans (fbJoin_mem ps p (hp0 ▸ List.getElem_mem hk)) HPZ.out
    have HACC := Lib.hid (show decAcc (ps.take (k + 1)) = if p.isEmpty then decAcc (ps.take k) else decAcc (ps.take k) ++ [entD (fbDecE p)] from by rw [take_snoc (List.getElem?_eq_getElem hk), hp0, decAcc_snoc])
    have HAL := Lib.hid (show (decAcc (ps.take k)).length ≤ 20 from Nat.le_trans (decAcc_len _) (by rw [List.length_take]; have := HP20.out; omega))
    obtain ⟨acc, hacc⟩ : ∃ acc, decAcc (ps.take k) = acc := ⟨_, rfl⟩
    rw [hacc] at hI HACC HAL
    rw [hgd]
    have HI := Lib.hid hI
    clear hI hgd hp0 hacc
    cases hpe : p.isEmpty with
    | true =>
      obtain rfl : p = [] := List.isEmpty_iff.1 hpe
      gi_wp2
      exact ⟨KeepsLD.refl _, by rw [HACC.out]; exact HI.out⟩
    | false =>
      have HACT := Lib.hid (show decAcc (ps.take (k + 1)) = acc ++ [entD (fbDecE p)] from by rw [HACC.out, hpe]; rfl)
      obtain ⟨pS, hpS⟩ : ∃ pS : ByteArray, (⟨p.toArray⟩ : ByteArray) = pS := ⟨_, rfl⟩
      have hps : pS.data.toList = p := by rw [← hpS]
      have t0 : (pS.toList == []) = false := by rw [ByteArray.toList_eq, hps]; cases p with | nil => cases hpe | cons => rfl
      have hpz : pS.size < 4294967281 := by rw [← hpS]; show p.length < _; omega
      have HCT := Lib.hid (Tryz.strings_Cut pS ⟨#[61]⟩ mx W hpz (HMX.out _ _ _ HI.out))
      rw [hps] at HCT
      have HNM := Lib.hid (cut_fst_le p [61])
      have HVL := Lib.hid (cut_snd_le p [61])
      have HEV := Lib.hid (show entD (fbDecE p) = (⟨(fbDecB (Lib.cut p [61]).1).toArray⟩, ⟨(fbDecB (Lib.cut p [61]).2.1).toArray⟩) from rfl)
      have hcc : Lib.cut p (⟨#[61]⟩ : ByteArray).data.toList = Lib.cut p [61] := rfl
      rw [hcc] at HCT
      rw [hpS]
      clear hps hpS hpe HACC hcc
      generalize Lib.cut p [61] = ct at *
      obtain ⟨c1, c2, c3⟩ := ct
      gi_wp2
      refine ⟨trivial, CallsIn.inRound lp (callsIn_wide.2 (HCT.out.mono ?_))⟩
      rintro e1 W1 ⟨rfl, nq, rfl⟩
      have HI1 := Lib.hid (HI.out.next (bl_drewN W nq))
      have HK1 := Lib.hid (KeepsLD.below (bl_drewN W nq))
      obtain ⟨Wq, hWq⟩ : ∃ Wq, W.drewN nq = Wq := ⟨_, rfl⟩
      rw [hWq] at HI1 HK1
      rw [hWq]
      clear hWq HCT HI
      gi_wp2
      obtain ⟨v8, b8, o8⟩ := HI1.out.out
      have hl8 := HAL.out
      obtain ⟨A8, c8, e8, hs8⟩ := OwnF.sl (T := tDA) o8 (by decide) (by show acc.length * 32 ≤ _; omega)
      subst e8
      have HO8 := Lib.hid o8
      have HB8 := Lib.hid b8
      have y8 := cell_blk (i := 0) b8 rfl
      have HC8 := Lib.hid (fun V (hV : Below Wq.heap.size Wq V) => show V.cell? ⟨w.heap.size, 0, none⟩ = some (.slice A8 acc.length c8) from cell_be y8 hV)
      have HD1 := Lib.hid (fun u : World => fbDecode_any ⟨c1.toArray⟩ u (by have := HNM.out; show c1.length ≤ _; omega))
      have HD2 := Lib.hid (fun u : World => fbDecode_any ⟨c2.toArray⟩ u (by have := HVL.out; show c2.length ≤ _; omega))
      have HDL : Hid ((⟨(fbDecB c1).toArray⟩ : ByteArray).size ≤ 100000 ∧ (⟨(fbDecB c2).toArray⟩ : ByteArray).size ≤ 100000) := ⟨by have := fbDecB_le c1; have := HNM.out; show (fbDecB c1).length ≤ _; omega, by have := fbDecB_le c2; have := HVL.out; show (fbDecB c2).length ≤ _; omega⟩
      clear b8 o8 hs8 y8
      refine wpIn_region_G (S := fun V : World => V.cell? ⟨w.heap.size, 0, none⟩ = some (.slice A8 acc.length c8)) (T := [8]) (by kernel_rfl) (by kernel_rfl) (by rintro ⟨_, _, h⟩; cases h.1) ?_
      have hS : (fun V : World => V.cell? ⟨w.heap.size, 0, none⟩ = some (.slice A8 acc.length c8)) Wq.drew := HC8.out Wq.drew (below_drew Wq)
      refine wpAnyG_takeW (i := 0) (v := ?_) rfl (by kernel_rfl) (by kernel_rfl) (by kernel_rfl) (by kernel_rfl) (fun _ _ _ h => h) hS (by kernel_rfl) ?_ ?_
      rotate_left
      · intro w' hSw
        (try dsimp only at hSw)
        first | (go_simp; done) | (go_simp; with_reducible rfl)
      refine wpAnyG_pureW (i := 1) (v := ?_) rfl (by kernel_rfl) (by kernel_rfl) (by kernel_rfl) (fun _ _ _ h => h) (by kernel_rfl) ?_ ?_
      rotate_left
      · intro w'
        first | (go_simp; done) | (go_simp; with_reducible rfl)
      refine wpAnyG_pureW (i := 3) (v := ?_) rfl (by kernel_rfl) (by kernel_rfl) (by kernel_rfl) (fun _ _ _ h => h) (by kernel_rfl) ?_ ?_
      rotate_left
      · intro w'
        first | (go_simp; done) | (go_simp; with_reducible rfl)
      refine wpAnyG_oneW (i := 2) (by kernel_rfl) rfl (by kernel_rfl) (fun K hK => ?_)
      go_simp
      go_at_call 51
      refine (HD1.out Wq.drew).mono ?_
      rintro e2 V1 ⟨rfl, hb1⟩
      have HV1 := Lib.hid ((below_drew Wq).trans hb1)
      clear hb1
      go_wp2_with fail
      refine hK.out _ _ (fun _ _ => HC8.out V1 HV1.out) ?_
      clear hK K hS
      refine wpAnyG_oneW (i := 4) (by kernel_rfl) rfl (by kernel_rfl) (fun K hK => ?_)
      go_simp
      go_at_call 51
      refine (HD2.out V1).mono ?_
      rintro e2 V2 ⟨rfl, hb2⟩
      have HV2 := Lib.hid (bst HV1.out hb2)
      clear hb2
      go_wp2_with fail
      refine hK.out _ _ (fun _ _ => HC8.out V2 HV2.out) ?_
      clear hK K
      have hS : (fun V : World => V.cell? ⟨w.heap.size, 0, none⟩ = some (.slice A8 acc.length c8)) V2 := HC8.out V2 HV2.out
      refine wpAnyG_pureW (i := 5) (v := ?_) rfl (by kernel_rfl) (by kernel_rfl) (by kernel_rfl) (fun _ _ _ h => h) (by kernel_rfl) ?_ ?_
      rotate_left
      · intro w'
        first | (go_simp; done) | (go_simp; with_reducible rfl)
      refine wpAnyG_oneW (i := 6) (by kernel_rfl) rfl (by kernel_rfl) (fun K hK => ?_)
      go_simp
      have HV3 := Lib.hid (balloc HV2.out (.cells #[.string ⟨(fbDecB c1).toArray⟩, .string ⟨(fbDecB c2).toArray⟩] 38))
      refine hK.out _ _ (fun _ _ => HC8.out _ HV3.out) ?_
      clear hK K hS
      have hO3 : OwnF tDA (V2.alloc (.cells #[.string ⟨(fbDecB c1).toArray⟩, .string ⟨(fbDecB c2).toArray⟩] 38)) w4.heap.size 38 (.slice A8 acc.length c8) acc.length acc := HO8.out.below HV3.out (Nat.le_refl _)
      have hsN : Sl tDA (V2.alloc (.cells #[.string ⟨(fbDecB c1).toArray⟩, .string ⟨(fbDecB c2).toArray⟩] 38)) (lt (V2.heap.size + 1)) (some ⟨V2.heap.size, 0, none⟩) 1 1 [(⟨(fbDecB c1).toArray⟩, ⟨(fbDecB c2).toArray⟩)] :=
        Sl.one_new flatDA V2 38 (cs := [.string ⟨(fbDecB c1).toArray⟩, .string ⟨(fbDecB c2).toArray⟩]) ⟨[_], [_], rfl, ⟨rfl, Nat.le_trans HDL.out.1 (by decide)⟩, rfl, Nat.le_trans HDL.out.2 (by decide)⟩ (by decide)
      have hz4 : w4.heap.size ≤ (V2.alloc (.cells #[.string ⟨(fbDecB c1).toArray⟩, .string ⟨(fbDecB c2).toArray⟩] 38)).heap.size := Nat.le_trans HI1.out.size HV3.out.size
      obtain ⟨v9, V4, hrun, ho9, hb9, hg9⟩ := run_apfE (P := Tryz.prog) (t := 32) (ty := 32) _ flatDA elemEnt hO3 hsN (by have := HAL.out; omega) (by have := HAL.out; omega) hz4
      obtain ⟨A9, c9, rfl⟩ := Cl.Own.form ho9
      have hput := HI1.out.put HV3.out hb9 HB8.out hg9 (v' := .slice A9 (acc.length + 1) c9) (E := [(⟨(fbDecB c1).toArray⟩, ⟨(fbDecB c2).toArray⟩)]) (by rw [List.length_append]; exact ho9)
      have HPUT := Lib.hid hput
      have hlt0 : w.heap.size < w4.heap.size := by have := HZ.out.2; omega
      have s13 : V4.cell? ⟨w.heap.size, 0, none⟩ = some (.slice A8 acc.length c8) := (hb9.cell (p := ⟨w.heap.size, 0, none⟩) hlt0).trans (HC8.out _ HV3.out)
      have fr8 : V4.frozen? ⟨w.heap.size, 0, none⟩ = false := free_blk (i := 0) ((hb9.block _ hlt0).trans (blk_next HB8.out HV3.out))
      clear hO3 hsN hz4 ho9 hb9 hg9 hput hlt0
      refine wpAnyG_oneW (i := 7) (by kernel_rfl) rfl (by kernel_rfl) (fun K hK => ?_)
      refine wp_append_runI (.tmp 23) (.tmp 29) 32 rfl _ _ rfl rfl hrun ?_
      refine hK.out _ _ (fun _ _ => s13) ?_
      clear hK K hrun
      refine wpAnyG_oneW (i := 8) (by kernel_rfl) rfl (by kernel_rfl) (fun K hK => ?_)
      go_simp
      refine hK.out _ _ (fun h => absurd (by decide) h) ?_
      clear hK K
      refine wpAnyG_done (by kernel_rfl) ?_ _
      go_simp
      gi_wp2
      exact ⟨HK1.out.trans HPUT.out.2, by rw [HACT.out, HEV.out]; exact HPUT.out.1⟩
  case done =>
    intro y D W hD hI hK
    have hD0 := (decAcc_len ps)
    rw [List.take_of_length_le (Nat.le_refl _)] at hI
    obtain ⟨acc, hacc⟩ : ∃ acc, decAcc ps = acc := ⟨_, rfl⟩
    rw [hacc] at hI hD0
    have HAC := Lib.hid hacc
    have HAL := Lib.hid (show acc.length ≤ 20 from by have := HP20.out; omega)
    have hal := HAL.out
    obtain ⟨v8, b8, o8⟩ := hI.out
    obtain ⟨A8, c8, e8⟩ := Cl.Own.form o8
    subst e8
    have y8 := cell_blk (i := 0) b8 rfl
    have HO8 := Lib.hid o8
    have HBL := Lib.hid (show Below w.heap.size w W from HB4.out.trans hI.low)
    have HDD := Lib.hid hK
    have HDS := Lib.hid hD
    have t1 : decide ((100 : Int) < (acc.length : Int)) = false := decide_eq_false (by omega)
    clear hI b8 o8 hK hD hacc hD0
    go_wp2_with fail
    refine ⟨by simp, .inl ⟨_, _, rfl, run_takeDeferred HDD.out, ?_⟩⟩
    obtain ⟨WF, hWF⟩ : ∃ WF, WF = W.putObj D (.deferred none) := ⟨_, rfl⟩
    rw [← hWF]
    have hg : W.grownBy WF (some D) := by rw [hWF]; exact grownBy_putObj' W D (.deferred none)
    have hbF : Below w.heap.size w WF := HBL.out.grown hg HBL.out.size (fun k e => by cases e; have := HDS.out; have := HB4.out.size; omega)
    have ho : OwnF tDA WF w.heap.size 38 (.slice A8 acc.length c8) acc.length acc := by
      refine Cl.Own.down (Cl.Own.kept HO8.out hg ?_ fun _ h => h.elim) HB4.out.size
      cases hv : (Value.slice A8 acc.length c8).ownBlock with
      | none => exact .inl rfl
      | some g =>
        right
        intro e
        obtain ⟨cs, hc⟩ := own_blk_cells HO8.out hv
        injection e with e
        rw [e, HDD.out] at hc
        cases hc
    exact ⟨.tuple #[.slice A8 acc.length c8, .int .i64 0], by simp [results, Tryz.results20, go_sem], hbF, _, rfl, by rw [HAC.out]; exact ho⟩
end Go.Proofs.YtpbngckplbnahaaGreatDoor
