/-
serial.unquote.
-/
import Derived.Test.YtfgmfmkibjfknaaDoorSerQuote
namespace Go.Proofs.YtfgmfmkibjfknaaDoor
open Go.RowKit Go.Cl
attribute [local go_sem ↓] Go.wp_at_zero Go.wp_at_succ

def hexI (x : UInt8) : Int := Lib.indexByte hexS.data.toList x
def hexV (x y : UInt8) : UInt8 := UInt8.ofNat (IntKind.u8.wrap (bits .or .i64 (hexI x * 16) (hexI y))).toNat
/-- What stands behind a quote: skip, text so far. -/
def unqL : Nat → List UInt8 → List UInt8 → Option (List UInt8 × List UInt8)
  | _, [], _ => none
  | k + 1, _ :: r, acc => unqL k r acc
  | 0, b :: r, acc => if b = 34 then some (acc, r) else if b = 92 ∧ 2 ≤ r.length then unqL 2 r (acc ++ [hexV (r.getD 0 0) (r.getD 1 0)]) else unqL 0 r (acc ++ [b])
/-- unquote: the text, the rest, and whether there is one. -/
def unquoteR (l : List UInt8) : List UInt8 × List UInt8 × Bool := match l with
  | [] => ([], [], false)
  | b :: r => if b = 34 then (match unqL 0 r [] with
    | some (t, q) => (t, q, true)
    | none => ([], [], false)) else ([], [], false)
theorem unq_34 {xs : List UInt8} {k : Nat} (h : k < xs.length) (acc : List UInt8) (hb : xs[k] = 34) : unqL 0 (xs.drop k) acc = some (acc, xs.drop (k + 1)) := by
  rw [List.drop_eq_getElem_cons h, unqL, if_pos hb]
theorem unq_esc {xs : List UInt8} {k : Nat} (h : k + 2 < xs.length) (acc : List UInt8) (hb : xs[k] = 92) : unqL 0 (xs.drop k) acc = unqL 0 (xs.drop (k + 3)) (acc ++ [hexV xs[k + 1] xs[k + 2]]) := by
  rw [List.drop_eq_getElem_cons (by omega), unqL, if_neg (by rw [hb]; decide), if_pos ⟨hb, by rw [List.length_drop]; omega⟩, List.drop_eq_getElem_cons (show k + 1 < xs.length by omega), List.drop_eq_getElem_cons (show k + 1 + 1 < xs.length by omega)]
  rfl
theorem unq_one {xs : List UInt8} {k : Nat} (h : k < xs.length) (acc : List UInt8) (h1 : xs[k] ≠ 34) (h2 : ¬ (xs[k] = 92 ∧ k + 2 < xs.length)) : unqL 0 (xs.drop k) acc = unqL 0 (xs.drop (k + 1)) (acc ++ [xs[k]]) := by
  rw [List.drop_eq_getElem_cons h, unqL, if_neg h1, if_neg (fun h3 => h2 ⟨h3.1, by have := h3.2; rw [List.length_drop] at this; omega⟩)]
theorem unq_end {xs : List UInt8} {k : Nat} (h : xs.length ≤ k) (acc : List UInt8) : unqL 0 (xs.drop k) acc = none := by
  rw [List.drop_eq_nil_of_le h]
  rfl
theorem unquote_of {xs : List UInt8} (h : 0 < xs.length) (h34 : xs[0] = 34) : unquoteR xs = (match unqL 0 (xs.drop 1) [] with
    | some (t, q) => (t, q, true)
    | none => ([], [], false)) := by
  cases xs with
  | nil => cases h
  | cons b r =>
    have h34' : b = 34 := h34
    show (if b = 34 then _ else _) = _
    rw [if_pos h34']
    rfl
theorem bytes_ext2 {a b : ByteArray} (h : a.data.toList = b.data.toList) : a = b := ByteArray.ext (Array.toList_inj.1 h)
theorem list_ne {s : ByteArray} (h : 0 < s.size) : (s.toList == []) = false := beq_eq_false_iff_ne.2 fun e => by
  have h1 := isE_not h
  rw [e] at h1
  cases h1
theorem cut_from (s : ByteArray) (k : Nat) : (⟨(s.data.toList.drop k).toArray⟩ : ByteArray) = s.extract k s.size := by
  apply bytes_ext2
  have h : s.size = s.data.toList.length := by simp
  rw [ByteArray.data_extract, Array.toList_extract, List.extract_eq_take_drop, h, List.take_of_length_le (by rw [List.length_drop]; omega)]
theorem hexI_any (x : UInt8) (u : World) : Calls Tryd.prog 85 #[.string (⟨#[48, 49, 50, 51, 52, 53, 54, 55, 56, 57, 97, 98, 99, 100, 101, 102]⟩ : ByteArray), .int .u8 x.toNat] u fun e w' => e = .returned (.int .i64 (hexI x)) ∧ w' = u := by
  have h := Tryd.strings_IndexByte (⟨#[48, 49, 50, 51, 52, 53, 54, 55, 56, 57, 97, 98, 99, 100, 101, 102]⟩ : ByteArray) x.toNat u
  have e : (x.toNat : Int).toNat.toUInt8 = x := by
    apply UInt8.toNat_inj.1
    simp
  rw [e] at h
  exact h
theorem hexI_in (x : UInt8) : -1 ≤ hexI x ∧ hexI x < 16 := by
  have h : ∀ b : Fin 256, -1 ≤ hexI (UInt8.ofNat b.val) ∧ hexI (UInt8.ofNat b.val) < 16 := by decide +kernel
  have h2 := h ⟨x.toNat, x.toNat_lt⟩
  simpa using h2
theorem hexI_wrap (x : UInt8) : IntKind.i64.wrap (hexI x * 16) = hexI x * 16 := by
  have h := hexI_in x
  exact IntWalk.i64_in _ (by omega)
theorem hexV_nat (x y : UInt8) : ((hexV x y).toNat : Int) = IntKind.u8.wrap (bits .or .i64 (hexI x * 16) (hexI y)) := by
  unfold hexV
  generalize bits .or .i64 (hexI x * 16) (hexI y) = z
  rw [IntKind.wrap_u8]
  have h : (UInt8.ofNat (z % 256).toNat).toNat = (z % 256).toNat % 256 := by simp
  rw [h]
  omega
theorem wp_apB {P : Program} (w : World) {o : Oper} {a : Act} {K : Act → World → Prop} {Q : Exit → Act → World → Prop} (s x : Operand) (t : TypeId)
    (ho : o.op = .call { callee := .builtin .append, args := #[s, x], argTypes := #[t, t] }) (hE : ElemOf P t 5 1 1) {base : Nat} {v : Value} {xs ys : List UInt8} (hv : a.eval s = v) (hown : OwnB w base v xs) {b off m c : Nat}
    (hx : a.eval x = .slice (some ⟨b, off, none⟩) m c) (hm : m = ys.length) (hcell : ∀ j u, (Lib.byteCells ys)[j]? = some u → w.cell? ⟨b, off + j, none⟩ = some u) (h63 : xs.length + ys.length ≤ 140737488355328) (hbase : base ≤ w.heap.size)
    (h : ∀ v' w', OwnB w' base v' (xs ++ ys) → Below base w w' → K (a.put o.dst v') w') : Oper.wp P o a w K Q := by
  obtain ⟨v', w', hrun, h1, _, h3, _⟩ := run_apB (P := P) (t := t) (ty := o.type) (c := c) w hE hown hm hcell h63 hbase
  unfold Oper.wp execOp
  simp only [ho, resolve, invoke, builtin, Sem.run_bind, Sem.run_pure, Result.andThen_ok, List.map_toArray, List.map_cons, List.map_nil, hv, hx, hrun]
  exact h v' w' h1 h3
theorem unquote_not {xs : List UInt8} (h : 0 < xs.length) (h34 : xs[0] ≠ 34) : unquoteR xs = ([], [], false) := by
  cases xs with
  | nil => cases h
  | cons b r => exact if_neg h34
set_option maxRecDepth 100000 in
set_option maxHeartbeats 8000000 in
theorem unquote_any (s : ByteArray) (w : World) (hs : s.size ≤ 1000000000) :
    Calls Tryd.prog 56 #[.string s] w fun e w' => e = .returned (.tuple #[.string ⟨(unquoteR s.data.toList).1.toArray⟩, .string ⟨(unquoteR s.data.toList).2.1.toArray⟩, .bool (unquoteR s.data.toList).2.2]) ∧ Below w.heap.size w w' := by
  have hlen : s.data.toList.length = s.size := by simp
  have HLEN := Lib.hid hlen
  by_cases h0 : s.size = 0
  · have hnil : s = ⟨#[]⟩ := ByteArray.ext (Array.eq_empty_of_size_eq_zero h0)
    subst hnil
    clear hlen HLEN h0
    go_enter Tryd.func56, Tryd.ntmps56
    go_wp2_with fail
    refine bodyPost_ret (v := .tuple #[.string ⟨#[]⟩, .string ⟨#[]⟩, .bool false]) (by simp [results, Tryd.results56, go_sem]) rfl ⟨rfl, Below.refl _ _⟩
  have hpos : 0 < s.size := by omega
  have HPL : Hid (0 < s.data.toList.length) := by show 0 < _; omega
  by_cases h34 : s[0] = 34
  · have HR := Lib.hid (unquote_of HPL.out (show s.data.toList[0] = 34 from h34))
    have t1 : ((s[0].toNat : Int) == 34) = true := by rw [h34]; rfl
    have t2 : ((s[0].toNat : Int) != 34) = false := by rw [h34]; rfl
    have t0 := list_ne hpos
    have t3 := isE_not hpos
    clear hlen h34
    go_enter Tryd.func56, Tryd.ntmps56
    go_wp2_with fail
    rename_i ht K0 a0
    rw [ht]
    clear t1 t2 ht
    go_loopw [5, 6] (fun v i wr => ∃ (k : Nat) (acc : List UInt8), 1 ≤ k ∧ k ≤ s.size ∧ acc.length ≤ k ∧ i = .int .i64 (k : Int) ∧ Hid (unqL 0 (s.data.toList.drop 1) [] = unqL 0 (s.data.toList.drop k) acc) ∧ OwnB wr w.heap.size v acc ∧ Below w.heap.size w wr) (fun _ i _ => s.size - (intOf i).toNat)
    case atStart => exact ⟨1, [], Nat.le_refl _, by omega, Nat.zero_le _, rfl, Lib.hid rfl, OwnB.nil _ _, Below.refl _ _⟩
    case round =>
      obtain ⟨k, acc, hk1, hk, hal, rfl, HU, hown, hb⟩ := hrel
      have hz := hb.size
      by_cases hlt : k < s.size
      · have HKL : Hid (k < s.data.toList.length) := by have := HLEN.out; show k < _; omega
        by_cases hb34 : s[k] = 34
        · have HU2 := Lib.hid (HU.out.trans (unq_34 HKL.out acc hb34))
          have HF := Lib.hid (show unquoteR s.data.toList = (acc, s.data.toList.drop (k + 1), true) from by rw [HR.out, HU2.out])
          have c1 : ((s[k].toNat : Int) == 34) = true := by rw [hb34]; rfl
          have hcv := strB hown
          have hcv2 := strB hown.drew
          have i1 : (0 : Int) ≤ (k : Int) + 1 := by omega
          have i2 : (k : Int) + 1 ≤ (s.size : Int) := by omega
          have w1 : IntKind.i64.wrap ((k : Int) + 1) = (k : Int) + 1 := IntWalk.i64_in _ (by omega)
          have n1 : ((k : Int) + 1).toNat = k + 1 := by omega
          clear hb34 HU HU2
          go_wp2_with fail
          refine wp_region_G (S := fun w' : World => (convert 97 9 u5).run Tryd.prog w' = .ok (.string ⟨acc.toArray⟩) w') (T := []) (by kernel_rfl) ?_
          have hS : (fun w' : World => (convert 97 9 u5).run Tryd.prog w' = .ok (.string ⟨acc.toArray⟩) w') wr.drew := hcv2
          clear hcv hcv2
          refine wpAnyG_pure (i := 0) (v := ?_) rfl (by kernel_rfl) (by kernel_rfl) (by kernel_rfl) (fun _ _ _ h => h) rfl ?_ ?_
          rotate_left
          · intro w'
            first | (go_simp; done) | (go_simp; with_reducible rfl)
          refine wpAnyG_take (i := 1) (v := ?_) rfl (by kernel_rfl) (by kernel_rfl) (by kernel_rfl) (by kernel_rfl) (fun _ _ _ h => h) hS rfl ?_ ?_
          rotate_left
          · intro w' hSw
            (try dsimp only at hSw)
            first | (go_simp; done) | (go_simp; with_reducible rfl)
          refine wpAnyG_pure (i := 2) (v := ?_) rfl (by kernel_rfl) (by kernel_rfl) (by kernel_rfl) (fun _ _ _ h => h) rfl ?_ ?_
          rotate_left
          · intro w'
            first | (go_simp; done) | (go_simp; with_reducible rfl)
          refine wpAnyG_pure (i := 3) (v := ?_) rfl (by kernel_rfl) (by kernel_rfl) (by kernel_rfl) (fun _ _ _ h => h) rfl ?_ ?_
          rotate_left
          · intro w'
            first | (go_simp; done) | (go_simp; with_reducible rfl)
          refine wpAnyG_pure (i := 4) (v := ?_) rfl (by kernel_rfl) (by kernel_rfl) (by kernel_rfl) (fun _ _ _ h => h) rfl ?_ ?_
          rotate_left
          · intro w'
            first | (go_simp; done) | (go_simp; with_reducible rfl)
          refine wpAnyG_pure (i := 5) (v := ?_) rfl (by kernel_rfl) (by kernel_rfl) (by kernel_rfl) (fun _ _ _ h => h) rfl ?_ ?_
          rotate_left
          · intro w'
            first | (go_simp; done) | (go_simp; with_reducible rfl)
          refine wpAnyG_pure (i := 6) (v := ?_) rfl (by kernel_rfl) (by kernel_rfl) (by kernel_rfl) (fun _ _ _ h => h) rfl ?_ ?_
          rotate_left
          · intro w'
            first | (go_simp; done) | (go_simp; with_reducible rfl)
          refine wpAnyG_pure (i := 7) (v := ?_) rfl (by kernel_rfl) (by kernel_rfl) (by kernel_rfl) (fun _ _ _ h => h) rfl ?_ ?_
          rotate_left
          · intro w'
            first | (go_simp; done) | (go_simp; with_reducible rfl)
          refine wpAnyG_pure (i := 8) (v := ?_) rfl (by kernel_rfl) (by kernel_rfl) (by kernel_rfl) (fun _ _ _ h => h) rfl ?_ ?_
          rotate_left
          · intro w'
            first | (go_simp; done) | (go_simp; with_reducible rfl)
          clear hS
          refine wpAnyG_done (by kernel_rfl) ?_ _
          go_simp
          go_wp2_with fail
          refine bodyPost_ret (v := .tuple #[.string ⟨acc.toArray⟩, .string (s.extract (k + 1) s.size), .bool true]) (by simp [results, Tryd.results56, go_sem]) rfl ⟨by rw [HF.out, cut_from], hb.drew⟩
        · have c1 : ((s[k].toNat : Int) == 34) = false := beq_eq_false_iff_ne.2 fun h => hb34 (UInt8.toNat_inj.1 (show s[k].toNat = 34 from by omega))
          by_cases hesc : s[k] = 92 ∧ k + 2 < s.size
          · obtain ⟨h92, c3⟩ := hesc
            have q1 : k + 1 < s.size := by omega
            have hl1 : k + 2 < s.data.toList.length := by have := HLEN.out; omega
            have HU2 := Lib.hid (show unqL 0 (s.data.toList.drop 1) [] = unqL 0 (s.data.toList.drop (k + 3)) (acc ++ [hexV (s[k + 1]'q1) (s[k + 2]'c3)]) from HU.out.trans (unq_esc hl1 acc h92))
            have c2 : ((s[k].toNat : Int) == 92) = true := by rw [h92]; rfl
            have c4 : ¬ s[k].toNat = 34 := by rw [h92]; decide
            have c5 : 92 ≤ s[k].toNat := by rw [h92]; decide
            have c6 : s[k].toNat ≤ 92 := by rw [h92]; decide
            have hacc : acc.length ≤ 1000000000 := by omega
            have w1 : IntKind.i64.wrap ((k : Int) + 1) = (k : Int) + 1 := IntWalk.i64_in _ (by omega)
            have w2 : IntKind.i64.wrap ((k : Int) + 2) = (k : Int) + 2 := IntWalk.i64_in _ (by omega)
            have i1 : (0 : Int) ≤ (k : Int) + 1 := by omega
            have i2 : (k : Int) + 1 < (s.size : Int) := by omega
            have i3 : (0 : Int) ≤ (k : Int) + 2 := by omega
            have i4 : (k : Int) + 2 < (s.size : Int) := by omega
            have n1 : ((k : Int) + 1).toNat = k + 1 := by omega
            have n2 : ((k : Int) + 2).toNat = k + 2 := by omega
            clear h92 hb34 HU hl1
            go_upto_region 11 with fail
            refine wp_region_G (S := fun _ : World => True) (T := []) (by kernel_rfl) ?_
            have HI := Lib.hid fun (x : UInt8) (u : World) => hexI_any x u
            refine wpAnyG_pure (i := 0) (v := ?_) rfl (by kernel_rfl) (by kernel_rfl) (by kernel_rfl) (fun _ _ _ h => h) rfl ?_ ?_
            rotate_left
            · intro w'
              first | (go_simp; done) | (go_simp; with_reducible rfl)
            refine wpAnyG_pure (i := 1) (v := ?_) rfl (by kernel_rfl) (by kernel_rfl) (by kernel_rfl) (fun _ _ _ h => h) rfl ?_ ?_
            rotate_left
            · intro w'
              first | (go_simp; done) | (go_simp; with_reducible rfl)
            refine wpAnyG_pure (i := 2) (v := ?_) rfl (by kernel_rfl) (by kernel_rfl) (by kernel_rfl) (fun _ _ _ h => h) rfl ?_ ?_
            rotate_left
            · intro w'
              first | (go_simp; done) | (go_simp; with_reducible rfl)
            refine wpAnyG_pure (i := 3) (v := ?_) rfl (by kernel_rfl) (by kernel_rfl) (by kernel_rfl) (fun _ _ _ h => h) rfl ?_ ?_
            rotate_left
            · intro w'
              first | (go_simp; done) | (go_simp; with_reducible rfl)
            refine wpAnyG_pure (i := 4) (v := ?_) rfl (by kernel_rfl) (by kernel_rfl) (by kernel_rfl) (fun _ _ _ h => h) rfl ?_ ?_
            rotate_left
            · intro w'
              first | (go_simp; done) | (go_simp; with_reducible rfl)
            refine wpAnyG_pure (i := 7) (v := ?_) rfl (by kernel_rfl) (by kernel_rfl) (by kernel_rfl) (fun _ _ _ h => h) rfl ?_ ?_
            rotate_left
            · intro w'
              first | (go_simp; done) | (go_simp; with_reducible rfl)
            refine wpAnyG_pure (i := 8) (v := ?_) rfl (by kernel_rfl) (by kernel_rfl) (by kernel_rfl) (fun _ _ _ h => h) rfl ?_ ?_
            rotate_left
            · intro w'
              first | (go_simp; done) | (go_simp; with_reducible rfl)
            refine wpAnyG_pure (i := 9) (v := ?_) rfl (by kernel_rfl) (by kernel_rfl) (by kernel_rfl) (fun _ _ _ h => h) rfl ?_ ?_
            rotate_left
            · intro w'
              first | (go_simp; done) | (go_simp; with_reducible rfl)
            refine wpAnyG_pure (i := 10) (v := ?_) rfl (by kernel_rfl) (by kernel_rfl) (by kernel_rfl) (fun _ _ _ h => h) rfl ?_ ?_
            rotate_left
            · intro w'
              first | (go_simp; done) | (go_simp; with_reducible rfl)
            refine wpAnyG_one (i := 5) (by kernel_rfl) rfl rfl (fun K hK => ?_)
            go_simp
            go_at_call 85
            refine (HI.out _ _).mono ?_
            rintro e' w2 ⟨rfl, rfl⟩
            go_wp2_with fail
            refine hK.out _ _ (fun _ _ => trivial) ?_
            clear hK K
            refine wpAnyG_pure (i := 6) (v := .int .i64 (hexI s[k + 1] * 16)) rfl (by kernel_rfl) (by kernel_rfl) (by kernel_rfl) (fun _ _ _ h => h) rfl ?_ ?_
            · intro w'
              go_simp
              rw [hexI_wrap]
            refine wpAnyG_one (i := 11) (by kernel_rfl) rfl rfl (fun K hK => ?_)
            go_simp
            go_at_call 85
            refine (HI.out _ _).mono ?_
            rintro e' w2 ⟨rfl, rfl⟩
            go_wp2_with fail
            refine hK.out _ _ (fun _ _ => trivial) ?_
            clear hK K
            refine wpAnyG_pure (i := 12) (v := .int .i64 (bits .or .i64 (hexI s[k + 1] * 16) (hexI s[k + 2]))) rfl (by kernel_rfl) (by kernel_rfl) (by kernel_rfl) (fun _ _ _ h => h) rfl ?_ ?_
            · intro w'
              go_simp
              try rfl
            refine wpAnyG_pure (i := 13) (v := .int .u8 ((hexV s[k + 1] s[k + 2]).toNat : Int)) rfl (by kernel_rfl) (by kernel_rfl) (by kernel_rfl) (fun _ _ _ h => h) rfl ?_ ?_
            · intro w'
              go_simp
              (try rw [hexV_nat])
            refine wpAnyG_one (i := 14) (by kernel_rfl) rfl rfl (fun K hK => ?_)
            go_simp
            refine hK.out _ _ (fun _ _ => trivial) ?_
            clear hK K
            refine wpAnyG_one (i := 15) (by kernel_rfl) rfl rfl (fun K hK => ?_)
            refine wp_apB _ (.tmp 49) (.tmp 63) 97 rfl elemB (v := u5) rfl (OwnB.alloc hown _).drew (ys := [hexV s[k + 1] s[k + 2]]) rfl rfl (cell_new wr [.int .u8 (hexV s[k + 1] s[k + 2]).toNat] _) (by simp only [List.length_cons, List.length_nil]; omega) (by show _ ≤ (wr.alloc _).heap.size; rw [World.size_alloc]; omega) (fun v9 w9 hown9 hbl9 => ?_)
            refine hK.out _ _ (fun _ _ => trivial) ?_
            clear hK K
            refine wpAnyG_pure (i := 16) (v := ?_) rfl (by kernel_rfl) (by kernel_rfl) (by kernel_rfl) (fun _ _ _ h => h) rfl ?_ ?_
            rotate_left
            · intro w'
              first | (go_simp; done) | (go_simp; with_reducible rfl)
            refine wpAnyG_done (by kernel_rfl) ?_ _
            go_simp
            have hb9 : Below w.heap.size w w9 := ((hb.alloc hz _).drew).trans hbl9
            clear hbl9
            go_wp2_with fail
            go_roundw
            case rel => exact ⟨k + 3, _, by omega, by omega, by rw [List.length_append]; show _ + 1 ≤ _; omega, by go_num, Lib.hid HU2.out, hown9, hb9⟩
            case measure => simp [intOf]; omega
          · have HU2 := Lib.hid (show unqL 0 (s.data.toList.drop 1) [] = unqL 0 (s.data.toList.drop (k + 1)) (acc ++ [s[k]]) from HU.out.trans (unq_one HKL.out acc hb34 (fun h => hesc ⟨h.1, by have := h.2; have := HLEN.out; omega⟩)))
            have c2 : (((s[k].toNat : Int) == 92) = false ∧ ¬ s[k].toNat = 92) ∨ (((s[k].toNat : Int) == 92) = true ∧ ¬ (k + 2 < s.size)) := by
              by_cases h : s[k] = 92
              · exact Or.inr ⟨by rw [h]; rfl, fun h2 => hesc ⟨h, h2⟩⟩
              · exact Or.inl ⟨beq_eq_false_iff_ne.2 fun e => h (UInt8.toNat_inj.1 (show s[k].toNat = 92 from by omega)), fun e => h (UInt8.toNat_inj.1 e)⟩
            have HC2 := Lib.hid c2
            have w2 : IntKind.i64.wrap ((k : Int) + 2) = (k : Int) + 2 := IntWalk.i64_in _ (by omega)
            have hacc : acc.length ≤ 1000000000 := by omega
            clear hesc hb34 c2 HU
            have c4 : ¬ s[k].toNat = 34 := fun e => by rw [e] at c1; cases c1
            rcases HC2.out with ⟨c2, c3⟩ | ⟨c2, c3⟩
            · clear HC2
              go_wp2_with (at_builtin; (refine list_apB _ rfl (.tmp 20) (.tmp 24) 97 rfl elemB (v := u5) rfl (OwnB.alloc hown _) (ys := [s[k]]) rfl rfl (cell_new wr [.int .u8 s[k].toNat] _) (by simp only [List.length_cons, List.length_nil]; omega) (by rw [World.size_alloc]; omega) ?_; intro v9 w9 hown9 hbl9))
              have hb9 : Below w.heap.size w w9 := ((hb.alloc hz _)).trans hbl9
              clear hbl9
              go_roundw
              case rel => exact ⟨k + 1, _, by omega, by omega, by rw [List.length_append]; show _ + 1 ≤ _; omega, by go_num, Lib.hid HU2.out, hown9, hb9⟩
              case measure => simp [intOf]; omega
            · clear HC2
              have HK := Lib.hid (show s[k] = 92 from UInt8.toNat_inj.1 (show s[k].toNat = 92 from by have := beq_iff_eq.1 c2; omega))
              have c5 : 92 ≤ s[k].toNat := by rw [HK.out]; decide
              have c6 : s[k].toNat ≤ 92 := by rw [HK.out]; decide
              rw [HK.out] at HU2
              go_wp2_with (at_builtin; (refine list_apB _ rfl (.tmp 20) (.tmp 24) 97 rfl elemB (v := u5) rfl (OwnB.alloc hown _) (ys := [92]) rfl rfl (cell_new wr [.int .u8 92] _) (by simp only [List.length_cons, List.length_nil]; omega) (by rw [World.size_alloc]; omega) ?_; intro v9 w9 hown9 hbl9))
              have hb9 : Below w.heap.size w w9 := ((hb.alloc hz _)).trans hbl9
              clear hbl9
              go_roundw
              case rel => exact ⟨k + 1, _, by omega, by omega, by rw [List.length_append]; show _ + 1 ≤ _; omega, by go_num, Lib.hid HU2.out, hown9, hb9⟩
              case measure => simp [intOf]; omega
      · have HF := Lib.hid (show unquoteR s.data.toList = ([], [], false) from by rw [HR.out, HU.out, unq_end (by have := HLEN.out; omega)])
        go_wp2_with fail
        refine bodyPost_ret (v := .tuple #[.string ⟨#[]⟩, .string ⟨#[]⟩, .bool false]) (by simp [results, Tryd.results56, go_sem]) rfl ⟨by rw [HF.out], hb⟩
  · have HR := Lib.hid (unquote_not HPL.out (show s.data.toList[0] ≠ 34 from h34))
    have t1 : ((s[0].toNat : Int) == 34) = false := beq_eq_false_iff_ne.2 fun h => h34 (UInt8.toNat_inj.1 (show s[0].toNat = 34 from by omega))
    have t2 : ((s[0].toNat : Int) != 34) = true := by simp only [bne, t1]; rfl
    have t0 := list_ne hpos
    have t3 := isE_not hpos
    clear hlen h34
    go_enter Tryd.func56, Tryd.ntmps56
    go_wp2_with fail
    refine bodyPost_ret (v := .tuple #[.string ⟨#[]⟩, .string ⟨#[]⟩, .bool false]) (by simp [results, Tryd.results56, go_sem]) rfl ⟨by rw [HR.out], Below.refl _ _⟩
end Go.Proofs.YtfgmfmkibjfknaaDoor
