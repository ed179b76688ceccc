/-
The walk of serial.Back.
-/
import Derived.Test.YtfgmfmkibjfknaaDoorSerBackKit
import Derived.Test.YtfgmfmkibjfknaaDoorRegionW
namespace Go.Proofs.YtfgmfmkibjfknaaDoor
open Go.RowKit Go.Cl
attribute [local go_sem ↓] Go.wp_at_zero Go.wp_at_succ

theorem two_le {s : ByteArray} {a b : UInt8} (h : Lib.hasPrefix s.data.toList [a, b] = true) : 2 ≤ s.size := by
  have h1 := (List.isPrefixOf_iff_prefix.1 h).length_le
  have h2 : s.data.toList.length = s.size := by simp
  rw [h2] at h1
  exact h1
theorem bytesOf_size (l : List UInt8) : (bytesOf l).size = l.length := List.size_toArray
theorem bytesOf_list (l : List UInt8) : (bytesOf l).data.toList = l := rfl
theorem cut_less {r more : ByteArray} (h : 0 < r.size) (hm : more = bytesOf (Lib.cut r.data.toList [10]).2.1) : more.size < r.size := by
  rw [hm, bytesOf_size]
  have h1 : r.data.toList.length = r.size := by simp
  unfold Lib.cut
  split
  · simp only [List.length_drop]
    show _ - (_ + 1) < _
    omega
  · exact h
theorem trim_len (l : List UInt8) : (Lib.trimLeftB l 32).length ≤ l.length := (List.dropWhile_sublist _).length_le
theorem back_step (f : Nat) (out : List Nd) (path : List Int) {r one more inn : ByteArray} (hr : 0 < r.size) (hl : out.length ≤ 200) (h1 : one = bytesOf (Lib.cut r.data.toList [10]).1) (h2 : more = bytesOf (Lib.cut r.data.toList [10]).2.1) (h3 : inn = bytesOf (Lib.trimLeftB one.data.toList 32)) :
    ∃ deep : Nat, deep = one.size - inn.size ∧ inn.size ≤ one.size ∧ deep ≤ one.size ∧ backF (f + 1) r.data.toList out path = match path[deep]? with
      | none => none
      | some q => backF f more.data.toList (addN out q.toNat (nodeR inn.data.toList)) (path.take (deep + 1) ++ [(out.length : Int)]) := by
  have e1 : one.data.toList = (Lib.cut r.data.toList [10]).1 := by rw [h1]; rfl
  have e3 : inn.data.toList = Lib.trimLeftB (Lib.cut r.data.toList [10]).1 32 := by rw [h3, ← e1]; rfl
  have s1 : one.size = (Lib.cut r.data.toList [10]).1.length := by rw [h1, bytesOf_size]
  have s3 : inn.size = (Lib.trimLeftB (Lib.cut r.data.toList [10]).1 32).length := by rw [h3, bytesOf_size, e1]
  have hne : r.data.toList ≠ [] := fun e => by
    have h : r.data.toList.length = r.size := by simp
    rw [e] at h
    simp at h
    omega
  have hle : inn.size ≤ one.size := by rw [s1, s3]; exact trim_len _
  refine ⟨one.size - inn.size, rfl, hle, by omega, ?_⟩
  show (if _ then _ else _) = _
  rw [if_pos ⟨hne, hl⟩, s1, s3, e3, h2]
  rfl
/-- A node that has been read, in a box of its own. -/
def NodeAt (w : World) (nd : Nd) (v : Value) (wx : World) : Prop :=
  ∃ X A7 c7, v = .pointer (some ⟨X, 0, none⟩) ∧ w.heap.size ≤ X ∧ Below w.heap.size w wx ∧ wx.heap[X]? = some (.cells #[.int .i64 nd.kind, .string nd.name, .slice A7 nd.attrs.length c7, .string nd.text, .int .i64 0, .slice none 0 0] 45 (0, 0)) ∧ OwnF tDA wx w.heap.size 58 (.slice A7 nd.attrs.length c7) nd.attrs.length nd.attrs
theorem attrsG_len : ∀ (f : Nat) (r : List UInt8) (b : Bool), 2 * (attrsG f r b).length ≤ r.length + 1
  | 0, _, _ => Nat.zero_le _
  | _ + 1, _, false => Nat.zero_le _
  | f + 1, r, true => by
    rw [attrsG]
    split
    · rename_i v r2 hu
      have h1 := unquote_len hu
      have h2 := cut_len r 61
      have h3 := cut_len r2 32
      have h4 := attrsG_len f (Lib.cut r2 [32]).2.1 (Lib.cut r2 [32]).2.2
      rw [List.length_cons]
      omega
    · exact Nat.zero_le _
theorem node_ok {s : ByteArray} (h : s.size ≤ 1000000000) : EdOk (nodeR s.data.toList) ∧ (nodeR s.data.toList).kids = [] ∧ (nodeR s.data.toList).parent = 0 := by
  have hl : s.data.toList.length = s.size := by simp
  have u0 := unquote_len1 s.data.toList
  have u1 := unquote_len1 (s.data.toList.drop 1)
  have c1 := cut_len1 s.data.toList 32
  have c2 := cut_len s.data.toList 32
  have a1 := attrsG_len (s.data.toList.length + 1) (Lib.cut s.data.toList [32]).2.1 (Lib.cut s.data.toList [32]).2.2
  rw [List.length_drop] at u1
  have e0 : (⟨#[]⟩ : ByteArray).size = 0 := rfl
  have k0 : (Lit.int .i64 0).wf = true := by decide
  have k2 : (Lit.int .i64 2).wf = true := by decide
  have k3 : (Lit.int .i64 3).wf = true := by decide
  have k4 : (Lit.int .i64 4).wf = true := by decide
  have k5 : (Lit.int .i64 5).wf = true := by decide
  unfold nodeR
  split
  · exact ⟨⟨k5, by rw [bytesOf_size]; omega, by rw [e0]; omega, k0, Nat.zero_le _, Nat.zero_le _⟩, rfl, rfl⟩
  split
  · exact ⟨⟨k3, by rw [e0]; omega, by rw [bytesOf_size]; omega, k0, Nat.zero_le _, Nat.zero_le _⟩, rfl, rfl⟩
  split
  · exact ⟨⟨k4, by rw [e0]; omega, by rw [bytesOf_size]; omega, k0, Nat.zero_le _, Nat.zero_le _⟩, rfl, rfl⟩
  · exact ⟨⟨k2, by rw [bytesOf_size]; omega, by rw [e0]; omega, k0, (by show (attrsG _ _ _).length ≤ _; omega), Nat.zero_le _⟩, rfl, rfl⟩
theorem path_take {path : List Int} {n : Nat} (h : ∀ z ∈ path, ∃ k : Nat, z = (k : Int) ∧ k < n) (d : Nat) : ∀ z ∈ path.take d ++ [(n : Int)], ∃ k : Nat, z = (k : Int) ∧ k < n + 1 := fun z hz => by
  rcases List.mem_append.1 hz with h1 | h1
  · obtain ⟨k, e, hk⟩ := h z (List.mem_of_mem_take h1)
    exact ⟨k, e, by omega⟩
  · exact ⟨n, List.mem_singleton.1 h1, by omega⟩
theorem kids_more {out : List Nd} {k : Nat} {y : Nd} (h : ∀ x ∈ out, x.kids.length ≤ out.length) (hy : out[k]? = some y) (nd : Nd) (hn : nd.kids = []) : ∀ x ∈ out.set k { y with kids := y.kids ++ [(out.length : Int)] } ++ [{ nd with parent := (k : Int) }], x.kids.length ≤ out.length + 1 := fun x hx => by
  rcases List.mem_append.1 hx with h1 | h1
  · rcases List.mem_or_eq_of_mem_set h1 with h2 | rfl
    · exact Nat.le_succ_of_le (h x h2)
    · have := h y (List.mem_of_getElem? hy)
      show (y.kids ++ [_]).length ≤ _
      rw [List.length_append]
      exact Nat.succ_le_succ this
  · rw [List.mem_singleton.1 h1]
    show nd.kids.length ≤ _
    rw [hn]
    exact Nat.zero_le _
theorem r0_list {s r0 : ByteArray} {qv : Bool} (hq : qv = Lib.hasPrefix s.data.toList [126, 10]) (hr : r0 = if qv = true then s.extract 2 s.size else s) : (if Lib.hasPrefix s.data.toList [126, 10] then s.data.toList.drop 2 else s.data.toList) = r0.data.toList := by
  rw [← hq, hr]
  cases qv with
  | true => rw [if_pos rfl, if_pos rfl, ← cut_from]
  | false => rfl
theorem backR_none {s r0 : ByteArray} {qv : Bool} (hq : qv = Lib.hasPrefix s.data.toList [126, 10]) (hr : r0 = if qv = true then s.extract 2 s.size else s) (h : backF 202 r0.data.toList [rootN] [0] = none) : backR s.data.toList = none := by
  unfold backR
  rw [r0_list hq hr, h]
theorem backR_some {s r0 : ByteArray} {qv : Bool} {l : List Nd} (hq : qv = Lib.hasPrefix s.data.toList [126, 10]) (hr : r0 = if qv = true then s.extract 2 s.size else s) (h : backF 202 r0.data.toList [rootN] [0] = some l) : backR s.data.toList = if checkD l = 0 ∧ treeL l qv = s.data.toList then some (l, qv) else none := by
  unfold backR
  rw [r0_list hq hr, h, hq]
theorem back_end {r : ByteArray} {out : List Nd} (f : Nat) (path : List Int) (h : ¬ (0 < r.size ∧ out.length ≤ 200)) : backF f r.data.toList out path = some out := by
  cases f with
  | zero => rfl
  | succ f =>
    show (if _ then _ else _) = _
    rw [if_neg]
    intro ⟨h1, h2⟩
    refine h ⟨?_, h2⟩
    have h3 : r.data.toList.length = r.size := by simp
    have := List.length_pos_iff.2 h1
    omega
theorem list_nil {s : ByteArray} (h : s.size = 0) : (s.toList == []) = true := by
  have e : s = ⟨#[]⟩ := ByteArray.ext (Array.eq_empty_of_size_eq_zero h)
  rw [e, ByteArray.toList_eq]
  rfl
theorem ne_list {a b : ByteArray} (h : a.data.toList ≠ b.data.toList) : (a.toList == b.toList) = false := beq_eq_false_iff_ne.2 fun e => h (by rwa [ByteArray.toList_eq, ByteArray.toList_eq] at e)
/-- What Back leaves behind. -/
def BackPost (w : World) (s : ByteArray) (e : Ending) (w' : World) : Prop :=
  Below w.heap.size w w' ∧ match backR s.data.toList with
    | none => e = .returned (.tuple #[.agg #[.slice none 0 0, .bool false], .int .i64 4])
    | some (l, q) => ∃ A' c', e = .returned (.tuple #[.agg #[.slice A' l.length c', .bool q], .int .i64 0]) ∧ Sl tNd w' (rg w.heap.size w'.heap.size) A' l.length c' l
set_option maxRecDepth 100000 in
set_option maxHeartbeats 8000000 in
theorem back_any (s : ByteArray) (w : World) (m : Int) (hm : maxAt w m) (hs : s.size ≤ 1000000000) : Calls Tryd.prog 9 #[.string s] w (BackPost w s) := by
  obtain ⟨wa, hwa⟩ : ∃ wa, wa = w.alloc (.cells #[.slice none 0 0, .bool false] 24) := ⟨_, rfl⟩
  have hxa : wa.heap[w.heap.size]? = some (.cells #[.slice none 0 0, .bool false] 24 (0, 0)) := by rw [hwa]; exact heap_alloc_new w _
  have hba : Below w.heap.size w wa := by rw [hwa]; exact (Below.refl _ _).alloc (Nat.le_refl _) _
  have HNW := Lib.hid (newOwn_any wa w.heap.size hba.size)
  have HXA := Lib.hid hxa
  have HBA := Lib.hid hba
  have hza : wa.heap.size = w.heap.size + 1 := by rw [hwa]; exact World.size_alloc w _
  have HZA := Lib.hid hza
  obtain ⟨qv, hqv⟩ : ∃ qv, qv = Lib.hasPrefix s.data.toList [126, 10] := ⟨_, rfl⟩
  have HHP : Hid (∀ u, Calls Tryd.prog 25 #[.string s, .string ⟨#[126, 10]⟩] u fun e w' => e = .returned (.bool qv) ∧ w' = u) := fun u => by rw [hqv]; exact Tryd.strings_HasPrefix s ⟨#[126, 10]⟩ u
  have HQV := Lib.hid hqv
  clear hxa hba hza hqv
  go_enter Tryd.func9, Tryd.ntmps9
  go_upto_region 1 with fail
  rw [← hwa]
  clear hwa
  go_upto_region 2 with (go_at_call 24; refine HNW.out.mono ?_; rintro e' w1 ⟨b, rfl, hb1, hed1⟩)
  obtain ⟨w2, hw2⟩ : ∃ w2, w2 = w1.alloc (.cells #[.slice (some ⟨b, 0, none⟩) 1 1, .bool false] 24) := ⟨_, rfl⟩
  have hx2 : w2.heap[w1.heap.size]? = some (.cells #[.slice (some ⟨b, 0, none⟩) 1 1, .bool false] 24 (0, 0)) := by rw [hw2]; exact heap_alloc_new w1 _
  have hb2 : Below w1.heap.size w1 w2 := by rw [hw2]; exact (Below.refl _ _).alloc (Nat.le_refl _) _
  have hle1 : wa.heap.size ≤ w1.heap.size := hb1.size
  have HED := Lib.hid (hed1.next hb2)
  have HB2 := Lib.hid (HBA.out.trans ((hb1.mono HBA.out.size).trans (hb2.mono (Nat.le_trans HBA.out.size hle1))))
  have HR2 := Lib.hid ((hb2.block _ (by have := HZA.out; omega)).trans ((hb1.block _ (Array.getElem?_eq_some_iff.1 HXA.out).1).trans HXA.out))
  have HX2 := Lib.hid hx2
  have HE := Lib.hid (show w.heap.size + 1 ≤ w1.heap.size from by have := HZA.out; omega)
  rw [← hw2]
  clear hw2 hb1 hed1 hb2 HNW HBA HXA
  have z1 := cell_blk (i := 1) hx2 rfl
  have p1 := free_blk (i := 1) hx2
  clear hx2
  go_upto_region 4 with (go_at_call 25; refine (HHP.out w2).mono ?_; rintro e' w3 ⟨rfl, hw3⟩; obtain rfl : w2 = w3 := hw3.symm)
  obtain ⟨w3, hw3⟩ : ∃ w3, w3 = w2.setCell ⟨w1.heap.size, 1, none⟩ (.bool qv) := ⟨_, rfl⟩
  have HX3 := Lib.hid (show w3.heap[w1.heap.size]? = some (.cells #[.slice (some ⟨b, 0, none⟩) 1 1, .bool qv] 24 (0, 0)) from by rw [hw3]; exact set_blk (i := 1) HX2.out _)
  have HED3 := Lib.hid (show Ed w3 w.heap.size (.slice (some ⟨b, 0, none⟩) 1 1) [rootN] [(.slice none 0 0, .slice none 0 0)] from by rw [hw3]; exact HED.out.other HX2.out (by decide) (by decide) (by decide) (grown_set _ _ 1 (.bool qv)))
  have HR3 := Lib.hid (show w3.heap[w.heap.size]? = some (.cells #[.slice none 0 0, .bool false] 24 (0, 0)) from by rw [hw3]; exact (Below.heap_setCell _ _ _ _ (by have := HE.out; show w.heap.size ≠ w1.heap.size; omega)).trans HR2.out)
  have HB3 := Lib.hid (show Below w.heap.size w w3 from by rw [hw3]; exact HB2.out.setCell (p := ⟨w1.heap.size, 1, none⟩) (by have := HE.out; show w.heap.size ≤ w1.heap.size; omega) _)
  rw [← hw3]
  clear hw3 z1 p1 HX2 HED HR2 HB2 HHP
  obtain ⟨r0, hr0⟩ : ∃ r0, r0 = if qv = true then s.extract 2 s.size else s := ⟨_, rfl⟩
  have HR0 := Lib.hid hr0
  have z1 := cell_blk (i := 1) HX3.out rfl
  clear hr0
  go_upto_if 20 with fail
  go_cut [5] (fun v wx => v = .string r0 ∧ wx = w3)
  case first =>
    cases qv with
    | true =>
      have h2 : 2 ≤ s.size := two_le HQV.out.symm
      go_wp2_with fail
      go_meet
      case rel => exact ⟨by rw [HR0.out]; rfl, rfl⟩
    | false =>
      go_wp2_with fail
      go_meet
      case rel => exact ⟨by rw [HR0.out]; rfl, rfl⟩
  case rest =>
  obtain ⟨rfl, rfl⟩ := hcut
  clear z1
  go_upto_region 7 with fail
  obtain ⟨w4, hw4⟩ : ∃ w4, w4 = wc.alloc (.cells #[.int .i64 0] 3) := ⟨_, rfl⟩
  have hb4 : Below wc.heap.size wc w4 := by rw [hw4]; exact (Below.refl _ _).alloc (Nat.le_refl _) _
  have hx4 : w4.heap[wc.heap.size]? = some (.cells #[.int .i64 0] 3 (0, 0)) := by rw [hw4]; exact heap_alloc_new wc _
  have hord : OwnF (tInt .i64) w4 w.heap.size 3 (.slice (some ⟨wc.heap.size, 0, none⟩) 1 1) 1 [0] := own_of hx4 HB3.out.size rfl (Nat.le_refl _) (by decide) rfl rfl (fun x hx => by rw [List.mem_singleton.1 hx]; decide)
  have HBS : Hid (Bs w w4 w1.heap.size b 1 qv [(.slice none 0 0, .slice none 0 0)] [rootN] (.slice (some ⟨wc.heap.size, 0, none⟩) 1 1) [0]) :=
    ⟨⟨(hb4.block _ (Array.getElem?_eq_some_iff.1 HX3.out).1).trans HX3.out, HED3.out.next hb4, Nat.le_of_succ_le HE.out, by decide, Nat.le_refl _⟩, HB3.out.trans (hb4.mono HB3.out.size), (hb4.block _ (Array.getElem?_eq_some_iff.1 HR3.out).1).trans HR3.out, HE.out, hord, fun j p hp => by
      match j, hp with
      | 0, hp => obtain rfl := Option.some.inj hp; intro e; cases e
      | j + 1, hp => simp at hp⟩
  rw [← hw4]
  clear hw4 hb4 hx4 hord HX3 HED3 HR3 HB3
  have HRS := Lib.hid (show r0.size ≤ s.size from by
    rw [HR0.out]
    split
    · rw [ByteArray.size_extract]
      omega
    · exact Nat.le_refl _)
  go_loopw [5, 6] (fun rv pv wr => ∃ (r : ByteArray) (path : List Int) (A6 : Option Addr) (c6 : Nat) (out : List Nd) (f g c : Nat) (ps : List (Value × Value)), rv = .string r ∧ pv = .slice A6 path.length c6 ∧ Hid (backF 202 r0.data.toList [rootN] [0] = backF f r.data.toList out path) ∧ Hid (202 ≤ out.length + f) ∧ out.length ≤ 201 ∧ path.length ≤ out.length ∧ r.size ≤ s.size ∧ Hid (∀ z ∈ path, ∃ k : Nat, z = (k : Int) ∧ k < out.length) ∧ Hid (∀ x ∈ out, x.kids.length ≤ out.length) ∧ Hid (Bs w wr w1.heap.size g c qv ps out pv path)) (fun rv _ _ => (match rv with | .string r => r.size | _ => 0))
  case atStart => exact ⟨r0, [0], some ⟨wc.heap.size, 0, none⟩, 1, [rootN], 202, b, 1, _, rfl, rfl, Lib.hid rfl, Lib.hid (by decide), by decide, by decide, HRS.out, Lib.hid (fun z hz => ⟨0, by rw [List.mem_singleton.1 hz]; rfl, by decide⟩), Lib.hid (fun x hx => by rw [List.mem_singleton.1 hx]; decide), HBS⟩
  case round =>
    obtain ⟨r, path, A6, c6, out, f, g, c, ps, rfl, rfl, HBF, HF, hout, hpo, hrs, HPA, HKS, HB⟩ := hrel
    by_cases hgo : 0 < r.size ∧ out.length ≤ 200
    · obtain ⟨hrp, hl⟩ := hgo
      obtain ⟨f, rfl⟩ : ∃ k, f = k + 1 := ⟨f - 1, by have := HF.out; omega⟩
      obtain ⟨one, more, b1, hone, hmore, _, HC⟩ := cut3 r 10 (by omega)
      obtain ⟨inn, hinn⟩ : ∃ inn : ByteArray, inn = bytesOf (Lib.trimLeftB one.data.toList 32) := ⟨_, rfl⟩
      have HTL : Hid (∀ u, Calls Tryd.prog 27 #[.string one, .string ⟨#[32]⟩] u fun e w' => e = .returned (.string inn) ∧ w' = u) := fun u => by rw [hinn]; exact Tryd.strings_TrimLeft_one one 32 (by decide) u
      obtain ⟨deep, hdeep, hsz1, hsz2, hstep⟩ := back_step f out path hrp hl hone hmore hinn
      have HST := Lib.hid hstep
      have hos : one.size ≤ r.size := by
        have h := cut_len1 r.data.toList 10
        have e2 : one.size = (Lib.cut r.data.toList [10]).1.length := by rw [hone]; exact List.size_toArray
        rw [bytes_len] at h
        omega
      have hmr : more.size < r.size := cut_less hrp hmore
      have HMR := Lib.hid (show maxAt wr m from cell_be hm HB.out.low)
      have e0 := HB.out.at_.c0
      have hne : (r.toList == []) = false := list_ne hrp
      have hl2 : (out.length : Int) ≤ 200 := by omega
      have j1 : (0 : Int) ≤ (deep : Int) := by omega
      have i1 : (inn.size : Int) ≤ (one.size : Int) := by omega
      have i2 : (one.size : Int) ≤ 1000000000 := by omega
      have i3 : (one.size : Int) - (inn.size : Int) = (deep : Int) := by rw [hdeep]; omega
      have HDE := Lib.hid hdeep
      clear hone hmore hinn hstep hdeep
      go_upto_region 8 with fail
      go_upto_region 9 with (go_at_call 26; go_loud (refine (HC.out wr m HMR.out).mono ?_); rintro e' w5 ⟨rfl, nn5, hw5⟩; have hb5 := dN_of hw5; clear hw5)
      have HB5 := Lib.hid (HB.out.next hb5)
      have HBW5 := Lib.hid hb5
      clear hb5 e0 HMR
      go_upto_region 11 with (go_at_call 27; refine (HTL.out w5).mono ?_; rintro e' w6 ⟨rfl, hw6⟩; obtain rfl : w5 = w6 := hw6.symm)
      go_upto_region 12 with fail
      by_cases hd : deep < path.length
      · obtain ⟨z, hz⟩ : ∃ z, path[deep]? = some z := get_some hd
        obtain ⟨k, rfl, hk⟩ := HPA.out z (List.mem_of_getElem? hz)
        obtain ⟨y, hy⟩ : ∃ y, out[k]? = some y := get_some hk
        have hd2 : (deep : Int) < (path.length : Int) := by omega
        obtain ⟨nd, hnd⟩ : ∃ nd, nd = nodeR inn.data.toList := ⟨_, rfl⟩
        have HSN := Lib.hid (show ∀ u, maxAt u m → Calls Tryd.prog 28 #[.string inn] u (NodePost u nd) from fun u hu => by rw [hnd]; exact snode_any inn u m hu (by omega))
        have hst2 := HST.out
        rw [hz] at hst2
        dsimp only at hst2
        rw [← hnd, Int.toNat_natCast, addN_at nd hy] at hst2
        have HS2 := Lib.hid hst2
        have HY := Lib.hid hy
        have HZ := Lib.hid hz
        have HNO := Lib.hid (show EdOk nd ∧ nd.kids = [] ∧ nd.parent = 0 from by rw [hnd]; exact node_ok (by omega))
        clear hst2 hnd hz hy HST
        go_upto_region 14 with fail
        go_cut [12, 13] (fun v nv wx => NodeAt w5 nd v wx ∧ nv = .int .i64 (out.length : Int))
        case first =>
          have e0 := HB5.out.at_.c0
          have HM5 := Lib.hid (show maxAt w5 m from cell_be hm HB5.out.low)
          refine wp_region_G (S := fun w' : World => w'.cell? ⟨w1.heap.size, 0, none⟩ = some (.slice (some ⟨g, 0, none⟩) out.length c)) (T := []) (by kernel_rfl) ?_
          have hS : (fun w' : World => w'.cell? ⟨w1.heap.size, 0, none⟩ = some (.slice (some ⟨g, 0, none⟩) out.length c)) w5.drew := e0
          refine wpAnyG_pure (i := 0) (v := ?_) rfl (by kernel_rfl) (by kernel_rfl) (by kernel_rfl) (fun _ _ _ h => h) rfl ?_ ?_
          rotate_left
          · intro w'
            first | (go_simp; done) | (go_simp; with_reducible rfl)
          refine wpAnyG_pure (i := 2) (v := ?_) rfl (by kernel_rfl) (by kernel_rfl) (by kernel_rfl) (fun _ _ _ h => h) rfl ?_ ?_
          rotate_left
          · intro w'
            first | (go_simp; done) | (go_simp; with_reducible rfl)
          refine wpAnyG_take (i := 3) (v := ?_) rfl (by kernel_rfl) (by kernel_rfl) (by kernel_rfl) (by kernel_rfl) (fun _ _ _ h => h) hS rfl ?_ ?_
          rotate_left
          · intro w' hSw
            (try dsimp only at hSw)
            first | (go_simp; done) | (go_simp; with_reducible rfl)
          refine wpAnyG_pure (i := 4) (v := ?_) rfl (by kernel_rfl) (by kernel_rfl) (by kernel_rfl) (fun _ _ _ h => h) rfl ?_ ?_
          rotate_left
          · intro w'
            first | (go_simp; done) | (go_simp; with_reducible rfl)
          refine wpAnyG_two (i := 1) (j := 5) (by kernel_rfl) rfl rfl rfl rfl (fun K hK => ?_) (fun K hK => ?_)
          · go_simp
            go_at_call 28
            refine (HSN.out w5.drew HM5.out).mono ?_
            rintro e' w6 ⟨A7, c7, rfl, ho6, hb6⟩
            have hb56 : Below w5.heap.size w5 w6 := ((Below.refl _ w5).drew).trans hb6
            have m0 := cell_be e0 hb56
            go_wp2_with fail
            refine hK.out _ _ (fun _ _ => m0) ?_
            clear hK K hS
            refine wpAnyG_one (i := 5) (by kernel_rfl) rfl rfl (fun K hK => ?_)
            go_simp
            refine hK.out _ _ (fun _ _ => cell_al m0 _) ?_
            clear hK K
            obtain ⟨w7, hw7⟩ : ∃ w7, w7 = w6.alloc (.cells #[.int .i64 0, .string ⟨#[]⟩, .slice none 0 0, .string ⟨#[]⟩, .int .i64 0, .slice none 0 0] 45) := ⟨_, rfl⟩
            have hxb : w7.heap[w6.heap.size]? = some (.cells #[.int .i64 0, .string ⟨#[]⟩, .slice none 0 0, .string ⟨#[]⟩, .int .i64 0, .slice none 0 0] 45 (0, 0)) := by rw [hw7]; exact heap_alloc_new w6 _
            have hbb : Below w5.heap.size w5 w7 := by rw [hw7]; exact hb56.alloc hb56.size _
            have ho : OwnF tDA w7 w5.heap.size 58 (.slice A7 nd.attrs.length c7) nd.attrs.length nd.attrs := by rw [hw7]; exact OwnF.al ho6 _
            have hle : w5.heap.size ≤ w6.heap.size := hb56.size
            rw [← hw7]
            clear hw7 ho6 hb6 hb56 m0
            have o0 := cell_blk (i := 0) hxb rfl
            have o1 := cell_blk (i := 1) hxb rfl
            have o2 := cell_blk (i := 2) hxb rfl
            have o3 := cell_blk (i := 3) hxb rfl
            have o4 := cell_blk (i := 4) hxb rfl
            have o5 := cell_blk (i := 5) hxb rfl
            have f0 := free_blk (i := 0) hxb
            have f1 := free_blk (i := 1) hxb
            have f2 := free_blk (i := 2) hxb
            have f3 := free_blk (i := 3) hxb
            have f4 := free_blk (i := 4) hxb
            have f5 := free_blk (i := 5) hxb
            have HW := set6_blk hxb (.int .i64 nd.kind) (.string nd.name) (.slice A7 nd.attrs.length c7) (.string nd.text) (.int .i64 0) (.slice none 0 0)
            have HWB := set6_below hbb hle (.int .i64 nd.kind) (.string nd.name) (.slice A7 nd.attrs.length c7) (.string nd.text) (.int .i64 0) (.slice none 0 0)
            have HWO := Own.kept ho (set6_grown w7 w6.heap.size (.int .i64 nd.kind) (.string nd.name) (.slice A7 nd.attrs.length c7) (.string nd.text) (.int .i64 0) (.slice none 0 0)) (Or.inr (own_ne_block (by decide) ho hxb)) (fun _ h => h.elim)
            refine wpAnyG_one (i := 6) (by kernel_rfl) rfl rfl (fun K hK => ?_)
            go_simp
            unfold set6 at HW HWB HWO
            refine hK.out _ _ (fun _ _ => cell_be e0 HWB) ?_
            clear hK K
            refine wpAnyG_one (i := 7) (by kernel_rfl) rfl rfl (fun K hK => ?_)
            go_simp
            refine hK.out _ _ (fun _ h => h) ?_
            clear hK K
            refine wpAnyG_done (by kernel_rfl) ?_ _
            go_wp2_with fail
            go_meet
            case rel => exact ⟨⟨w6.heap.size, A7, c7, rfl, hle, HWB, HW, HWO⟩, rfl⟩
          · go_simp
            obtain ⟨w6, hw6⟩ : ∃ w6, w6 = (w5.alloc (.cells #[.int .i64 0, .string ⟨#[]⟩, .slice none 0 0, .string ⟨#[]⟩, .int .i64 0, .slice none 0 0] 45)).drew := ⟨_, rfl⟩
            have hx6 : w6.heap[w5.heap.size]? = some (.cells #[.int .i64 0, .string ⟨#[]⟩, .slice none 0 0, .string ⟨#[]⟩, .int .i64 0, .slice none 0 0] 45 (0, 0)) := by rw [hw6]; exact heap_alloc_new w5 _
            have hb56 : Below w5.heap.size w5 w6 := by rw [hw6]; exact ((Below.refl _ w5).alloc (Nat.le_refl _) _).drew
            rw [← hw6]
            clear hw6
            have m0 := cell_be e0 hb56
            refine hK.out _ _ (fun _ _ => m0) ?_
            clear hK K hS
            refine wpAnyG_one (i := 1) (by kernel_rfl) rfl rfl (fun K hK => ?_)
            go_simp
            go_at_call 28
            refine (HSN.out w6 (cell_be hm (HB5.out.low.trans (hb56.mono HB5.out.low.size)))).mono ?_
            rintro e' w7 ⟨A7, c7, rfl, ho7, hb7⟩
            have hbb : Below w5.heap.size w5 w7 := hb56.trans (hb7.mono hb56.size)
            have m1 := cell_be e0 hbb
            go_wp2_with fail
            refine hK.out _ _ (fun _ _ => m1) ?_
            clear hK K
            have hxb := (hb7.block _ (Array.getElem?_eq_some_iff.1 hx6).1).trans hx6
            have ho : OwnF tDA w7 w5.heap.size 58 (.slice A7 nd.attrs.length c7) nd.attrs.length nd.attrs := Own.down ho7 hb56.size
            have hle : w5.heap.size ≤ w5.heap.size := Nat.le_refl _
            clear hx6 ho7 hb7 hb56 m0 m1
            have o0 := cell_blk (i := 0) hxb rfl
            have o1 := cell_blk (i := 1) hxb rfl
            have o2 := cell_blk (i := 2) hxb rfl
            have o3 := cell_blk (i := 3) hxb rfl
            have o4 := cell_blk (i := 4) hxb rfl
            have o5 := cell_blk (i := 5) hxb rfl
            have f0 := free_blk (i := 0) hxb
            have f1 := free_blk (i := 1) hxb
            have f2 := free_blk (i := 2) hxb
            have f3 := free_blk (i := 3) hxb
            have f4 := free_blk (i := 4) hxb
            have f5 := free_blk (i := 5) hxb
            have HW := set6_blk hxb (.int .i64 nd.kind) (.string nd.name) (.slice A7 nd.attrs.length c7) (.string nd.text) (.int .i64 0) (.slice none 0 0)
            have HWB := set6_below hbb hle (.int .i64 nd.kind) (.string nd.name) (.slice A7 nd.attrs.length c7) (.string nd.text) (.int .i64 0) (.slice none 0 0)
            have HWO := Own.kept ho (set6_grown w7 w5.heap.size (.int .i64 nd.kind) (.string nd.name) (.slice A7 nd.attrs.length c7) (.string nd.text) (.int .i64 0) (.slice none 0 0)) (Or.inr (own_ne_block (by decide) ho hxb)) (fun _ h => h.elim)
            refine wpAnyG_one (i := 6) (by kernel_rfl) rfl rfl (fun K hK => ?_)
            go_simp
            unfold set6 at HW HWB HWO
            refine hK.out _ _ (fun _ _ => cell_be e0 HWB) ?_
            clear hK K
            refine wpAnyG_one (i := 7) (by kernel_rfl) rfl rfl (fun K hK => ?_)
            go_simp
            refine hK.out _ _ (fun _ h => h) ?_
            clear hK K
            refine wpAnyG_done (by kernel_rfl) ?_ _
            go_wp2_with fail
            go_meet
            case rel => exact ⟨⟨w5.heap.size, A7, c7, rfl, hle, HWB, HW, HWO⟩, rfl⟩
        case rest =>
        obtain ⟨⟨X, A7, c7, rfl, hXl, hbc, hxc, hoc⟩, rfl⟩ := hcut
        have HBC := Lib.hid (HB5.out.next hbc)
        obtain ⟨b6, rfl, _, z6, hzw⟩ := HBC.out.cell6 HZ.out
        have x4 := cell_blk (i := 4) hxc rfl
        have f4 := free_blk (i := 4) hxc
        have HXC := Lib.hid hxc
        have HOC := Lib.hid hoc
        have HWC := Lib.hid hbc
        clear hxc hoc hbc
        go_upto_region 15 with fail
        go_upto_region 16 with fail
        obtain ⟨w6, hw6⟩ : ∃ w6, w6 = wc.setCell ⟨X, 4, none⟩ (.int .i64 (k : Int)) := ⟨_, rfl⟩
        have HX6 := Lib.hid (show w6.heap[X]? = some (.cells #[.int .i64 nd.kind, .string nd.name, .slice A7 nd.attrs.length c7, .string nd.text, .int .i64 (k : Int), .slice none 0 0] 45 (0, 0)) from by rw [hw6]; exact set_blk (i := 4) HXC.out _)
        have hb6 : Below w5.heap.size w5 w6 := by rw [hw6]; exact HWC.out.setCell (p := ⟨X, 4, none⟩) hXl _
        have HO6 := Lib.hid (show OwnF tDA w6 w5.heap.size 58 (.slice A7 nd.attrs.length c7) nd.attrs.length nd.attrs from by rw [hw6]; exact Own.kept HOC.out (grown_cell wc X 4 _) (Or.inr (own_ne_block (by decide) HOC.out HXC.out)) (fun _ h => h.elim))
        have HB7 := Lib.hid (HB5.out.next hb6)
        have hgX : X ≠ g := by have := HB5.out.at_.gs.2; omega
        have hwl : (Lit.int .i64 (out.length : Int)).wf = true := WalkArith.wf_i64 (by omega)
        obtain ⟨p1, A5, c5, A', c9, w7, hp1, x5, hrun, fk, xk, xE, hcs, hbox, hatt⟩ := HB7.out.grow HY.out hwl (by have := HKS.out y (List.mem_of_getElem? HY.out); omega)
        have hx7 := hbox X _ hgX HX6.out
        have HCG := Lib.hid hcs
        have HX8 := Lib.hid hx7.2
        have HO8 := Lib.hid (hatt _ _ _ (Own.down HO6.out HB5.out.low.size))
        have HP1 := Lib.hid hp1
        have xk4 := cell_blk (i := 4) hx7.1 rfl
        have k4 := cell_blk (i := 4) HX6.out rfl
        have e0 := HB7.out.at_.c0
        rw [← hw6]
        have j2 : (k : Int) < (out.length : Int) := by omega
        have j3 : (0 : Int) ≤ (k : Int) := by omega
        clear hw6 hb6 hcs hbox hatt hp1 hx7 x4 f4 z6 HXC HOC HWC HBC
        refine wp_region_G (S := fun w' : World => w'.cell? ⟨g, k * 6 + 5, none⟩ = some (.slice A5 y.kids.length c5) ∧ w'.cell? ⟨w1.heap.size, 0, none⟩ = some (.slice (some ⟨g, 0, none⟩) out.length c) ∧ w'.cell? ⟨X, 4, none⟩ = some (.int .i64 (k : Int))) (T := [16]) (by kernel_rfl) ?_
        have hS : (fun w' : World => w'.cell? ⟨g, k * 6 + 5, none⟩ = some (.slice A5 y.kids.length c5) ∧ w'.cell? ⟨w1.heap.size, 0, none⟩ = some (.slice (some ⟨g, 0, none⟩) out.length c) ∧ w'.cell? ⟨X, 4, none⟩ = some (.int .i64 (k : Int))) w6.drew := ⟨x5, e0, k4⟩
        refine wpAnyG_take (i := 0) (v := ?_) rfl (by kernel_rfl) (by kernel_rfl) (by kernel_rfl) (by kernel_rfl) (fun _ _ _ h => h) hS rfl ?_ ?_
        rotate_left
        · intro w' hSw
          (try dsimp only at hSw)
          first | (go_simp; done) | (go_simp; with_reducible rfl)
        refine wpAnyG_take (i := 1) (v := ?_) rfl (by kernel_rfl) (by kernel_rfl) (by kernel_rfl) (by kernel_rfl) (fun _ _ _ h => h) hS rfl ?_ ?_
        rotate_left
        · intro w' hSw
          (try dsimp only at hSw)
          first | (go_simp; done) | (go_simp; with_reducible rfl)
        refine wpAnyG_take (i := 2) (v := ?_) rfl (by kernel_rfl) (by kernel_rfl) (by kernel_rfl) (by kernel_rfl) (fun _ _ _ h => h) hS rfl ?_ ?_
        rotate_left
        · intro w' hSw
          (try dsimp only at hSw)
          first | (go_simp; done) | (go_simp; with_reducible rfl)
        refine wpAnyG_take (i := 3) (v := ?_) rfl (by kernel_rfl) (by kernel_rfl) (by kernel_rfl) (by kernel_rfl) (fun _ _ _ h => h) hS rfl ?_ ?_
        rotate_left
        · intro w' hSw
          (try dsimp only at hSw)
          first | (go_simp; done) | (go_simp; with_reducible rfl)
        refine wpAnyG_take (i := 4) (v := ?_) rfl (by kernel_rfl) (by kernel_rfl) (by kernel_rfl) (by kernel_rfl) (fun _ _ _ h => h) hS rfl ?_ ?_
        rotate_left
        · intro w' hSw
          (try dsimp only at hSw)
          first | (go_simp; done) | (go_simp; with_reducible rfl)
        refine wpAnyG_take (i := 5) (v := ?_) rfl (by kernel_rfl) (by kernel_rfl) (by kernel_rfl) (by kernel_rfl) (fun _ _ _ h => h) hS rfl ?_ ?_
        rotate_left
        · intro w' hSw
          (try dsimp only at hSw)
          first | (go_simp; done) | (go_simp; with_reducible rfl)
        refine wpAnyG_take (i := 6) (v := ?_) rfl (by kernel_rfl) (by kernel_rfl) (by kernel_rfl) (by kernel_rfl) (fun _ _ _ h => h) hS rfl ?_ ?_
        rotate_left
        · intro w' hSw
          (try dsimp only at hSw)
          first | (go_simp; done) | (go_simp; with_reducible rfl)
        refine wpAnyG_take (i := 7) (v := ?_) rfl (by kernel_rfl) (by kernel_rfl) (by kernel_rfl) (by kernel_rfl) (fun _ _ _ h => h) hS rfl ?_ ?_
        rotate_left
        · intro w' hSw
          (try dsimp only at hSw)
          first | (go_simp; done) | (go_simp; with_reducible rfl)
        refine wpAnyG_take (i := 8) (v := ?_) rfl (by kernel_rfl) (by kernel_rfl) (by kernel_rfl) (by kernel_rfl) (fun _ _ _ h => h) hS rfl ?_ ?_
        rotate_left
        · intro w' hSw
          (try dsimp only at hSw)
          first | (go_simp; done) | (go_simp; with_reducible rfl)
        refine wpAnyG_take (i := 9) (v := ?_) rfl (by kernel_rfl) (by kernel_rfl) (by kernel_rfl) (by kernel_rfl) (fun _ _ _ h => h) hS rfl ?_ ?_
        rotate_left
        · intro w' hSw
          (try dsimp only at hSw)
          first | (go_simp; done) | (go_simp; with_reducible rfl)
        refine wpAnyG_take (i := 10) (v := ?_) rfl (by kernel_rfl) (by kernel_rfl) (by kernel_rfl) (by kernel_rfl) (fun _ _ _ h => h) hS rfl ?_ ?_
        rotate_left
        · intro w' hSw
          (try dsimp only at hSw)
          first | (go_simp; done) | (go_simp; with_reducible rfl)
        refine wpAnyG_take (i := 11) (v := ?_) rfl (by kernel_rfl) (by kernel_rfl) (by kernel_rfl) (by kernel_rfl) (fun _ _ _ h => h) hS rfl ?_ ?_
        rotate_left
        · intro w' hSw
          (try dsimp only at hSw)
          first | (go_simp; done) | (go_simp; with_reducible rfl)
        refine wpAnyG_one (i := 12) (by kernel_rfl) rfl rfl (fun K hK => ?_)
        go_simp
        refine hK.out _ _ (fun _ _ => ⟨cell_al (w := w6.drew) x5 _, cell_al (w := w6.drew) e0 _, cell_al (w := w6.drew) k4 _⟩) ?_
        clear hK K hS
        refine wpAnyG_one (i := 13) (by kernel_rfl) rfl rfl (fun K hK => ?_)
        refine wp_append_runI (.tmp 71) (.tmp 73) 40 rfl (.slice A5 y.kids.length c5) (.slice (some ⟨w6.heap.size, 0, none⟩) 1 1) rfl rfl hrun ?_
        refine hK.out _ _ (fun _ _ => ⟨xk, xE, xk4⟩) ?_
        clear hK K
        have hS : (fun w' : World => w'.cell? ⟨g, k * 6 + 5, none⟩ = some (.slice A5 y.kids.length c5) ∧ w'.cell? ⟨w1.heap.size, 0, none⟩ = some (.slice (some ⟨g, 0, none⟩) out.length c) ∧ w'.cell? ⟨X, 4, none⟩ = some (.int .i64 (k : Int))) w7 := ⟨xk, xE, xk4⟩
        clear x5 e0 k4 hrun
        refine wpAnyG_one (i := 14) (by kernel_rfl) rfl rfl (fun K hK => ?_)
        go_simp
        refine hK.out _ _ (fun _ h => h) ?_
        clear hK K
        refine wpAnyG_one (i := 15) (by kernel_rfl) rfl rfl (fun K hK => ?_)
        go_simp
        refine hK.out _ _ (fun _ h => h) ?_
        clear hK K
        refine wpAnyG_one (i := 16) (by kernel_rfl) rfl rfl (fun K hK => ?_)
        go_simp
        refine hK.out _ _ (fun h => absurd (by decide) h) ?_
        clear hK K hS
        refine wpAnyG_done (by kernel_rfl) ?_ _
        obtain ⟨w8, hw8⟩ : ∃ w8, w8 = w7.setCell ⟨g, k * 6 + 5, none⟩ (.slice A' (y.kids.length + 1) c9) := ⟨_, rfl⟩
        rw [← hw8] at HCG HX8 HO8
        rw [← hw8]
        clear hw8 fk xk xE xk4
        obtain ⟨out2, ho2⟩ : ∃ out2, out.set k { y with kids := y.kids ++ [(out.length : Int)] } = out2 := ⟨_, rfl⟩
        have HO2 := Lib.hid ho2
        have HL2 : Hid (out2.length = out.length) := by show out2.length = out.length; rw [← ho2, List.length_set]
        rw [ho2] at HCG
        have HFR : Hid (∀ (i : Nat) (q : Value × Value) (b : Nat), ps[i]? = some q → q.1.ownBlock = some b → b < w5.heap.size) := fun i q b hq hb => by
          have hi := (List.getElem?_eq_some_iff.1 hq).1
          rw [HB5.out.at_.ed.len] at hi
          exact (Own.lt (HB5.out.at_.ed.parts i _ q (List.getElem?_eq_getElem hi) hq).attrs b hb).2
        have hwk : (Lit.int .i64 (k : Int)).wf = true := WalkArith.wf_i64 (by omega)
        obtain ⟨okk, okn, okt, okp, oka, okz⟩ := HNO.out.1
        obtain ⟨g', c2, w10, hrun, fE, cE, hcs⟩ := HCG.out.more (fun e => by cases e) (y := { nd with parent := (k : Int), kids := [] }) (A' := A7) (c' := c7) (by have := HL2.out; omega) ⟨okk, okn, okt, hwk, oka, Nat.zero_le _⟩ rfl HO8.out (fun j r b hr hb e2 => by
          have h9 := (Own.lt HO6.out b e2).1
          have h8 : b < w5.heap.size := by
            by_cases e : k = j
            · subst e
              rw [List.getElem?_set_self (List.getElem?_eq_some_iff.1 HP1.out).1] at hr
              obtain rfl := Option.some.inj hr
              exact HFR.out k _ b HP1.out hb
            · rw [List.getElem?_set_ne e] at hr
              exact HFR.out j r b hr hb
          omega)
        have HCS := Lib.hid hcs
        have HRUN := Lib.hid hrun
        have hx8 := HX8.out
        have k0 := cell_blk (i := 0) hx8 rfl
        have k1 := cell_blk (i := 1) hx8 rfl
        have k2 := cell_blk (i := 2) hx8 rfl
        have k3 := cell_blk (i := 3) hx8 rfl
        have k4 := cell_blk (i := 4) hx8 rfl
        have k5 := cell_blk (i := 5) hx8 rfl
        have e0 := HCG.out.at_.c0
        obtain ⟨w11, hw11⟩ : ∃ w11, w11 = w10.setCell ⟨w1.heap.size, 0, none⟩ (.slice (some ⟨g', 0, none⟩) (out2.length + 1) c2) := ⟨_, rfl⟩
        rw [← hw11] at HCS
        have hcap6 : path.length ≤ c6 := own_cap6 HCS.out.ord
        have hwn : (Lit.int .i64 (out.length : Int)).wf = true := hwl
        obtain ⟨A9, c9', w12, hrun2, hst⟩ := HCS.out.step6 (k := deep + 1) (by omega) (by omega) hwn
        have HRUN2 := Lib.hid hrun2
        have HNB := Lib.hid hst
        have HO4 := Lib.hid (show out2 ++ [{ nd with parent := (k : Int), kids := [] }] = out.set k { y with kids := y.kids ++ [(out.length : Int)] } ++ [{ nd with parent := (k : Int) }] from by
          rw [HO2.out]
          have h1 := HNO.out.2.1
          obtain ⟨a1, a2, a3, a4, a5, a6⟩ := nd
          dsimp only at h1
          subst h1
          rfl)
        clear hx8 hrun hcs hrun2 hst ho2
        go_upto_region 17 with fail
        go_upto_region 18 with (at_builtin; refine wpList_append_runI (by rfl) (.tmp 78) (.tmp 80) 22 rfl (.slice (some ⟨g, 0, none⟩) out2.length c) (.slice (some ⟨w8.heap.size, 0, none⟩) 1 1) rfl rfl HRUN.out ?_)
        rw [← hw11]
        clear hw11 k0 k1 k2 k3 k4 k5 e0 fE cE
        have d3 : (0 : Int) ≤ (deep : Int) + 1 := by omega
        have d4 : (deep : Int) + 1 ≤ (c6 : Int) := by omega
        have HPT := Lib.hid (path_take HPA.out (deep + 1))
        have HK2 := Lib.hid (kids_more HKS.out HY.out nd HNO.out.2.1)
        have HFX := Lib.hid (HBF.out.trans HS2.out)
        rw [← HO4.out] at HFX HK2
        obtain ⟨path2, hp2⟩ : ∃ path2, path.take (deep + 1) ++ [(out.length : Int)] = path2 := ⟨_, rfl⟩
        have hpl : path2.length = deep + 1 + 1 := by rw [← hp2, List.length_append, List.length_take]; show min _ _ + 1 = _; omega
        rw [hp2] at HFX HNB HPT
        have HPL := Lib.hid hpl
        obtain ⟨out3, ho3⟩ : ∃ out3, out2 ++ [{ nd with parent := (k : Int), kids := [] }] = out3 := ⟨_, rfl⟩
        have ho3l : out3.length = out.length + 1 := by rw [← ho3, List.length_append, HL2.out]; rfl
        rw [ho3] at HNB HFX HK2
        have HO3 := Lib.hid ho3l
        clear hp2 hpl ho3 ho3l HO4 HCS HRUN HBF HS2 HPA HKS HB HB5 HB7 HCG HX8 HO8
        go_wp2_with (at_builtin; refine wpList_append_runI (by rfl) (.tmp 86) (.tmp 88) 40 rfl (.slice (some ⟨b6, 0, none⟩) (deep + 1) c6) (.slice (some ⟨w11.heap.size, 0, none⟩) 1 1) rfl rfl HRUN2.out ?_)
        go_roundw
        case rel => exact ⟨more, path2, A9, c9', out3, f, g', c2, _, rfl, by rw [HPL.out], HFX, Lib.hid (by rw [HO3.out]; have := HF.out; show _ ≤ _ + 1 + _; omega), by rw [HO3.out]; omega, by rw [HPL.out, HO3.out]; omega, by omega, by rw [HO3.out]; exact HPT, by rw [HO3.out]; exact HK2, HNB⟩
        case measure => exact hmr
      · have hd2 : (path.length : Int) ≤ (deep : Int) := by omega
        have hst2 := HST.out
        rw [List.getElem?_eq_none (by omega)] at hst2
        have HRN := Lib.hid (backR_none HQV.out HR0.out (HBF.out.trans hst2))
        clear hst2
        have r0' := cell_blk (i := 0) HB5.out.res rfl
        have r1' := cell_blk (i := 1) HB5.out.res rfl
        have g0' := free_blk (i := 0) HB5.out.res
        have g1' := free_blk (i := 1) HB5.out.res
        have hres1 := set_blk (i := 0) HB5.out.res (.slice none 0 0)
        have hres2 := set_blk (i := 1) hres1 (.bool false)
        have t0 := cell_blk (i := 0) (v := .slice none 0 0) hres2 rfl
        have t1 := cell_blk (i := 1) (v := .bool false) hres2 rfl
        have HBR := Lib.hid ((HB5.out.low.setCell (p := ⟨w.heap.size, 0, none⟩) (Nat.le_refl _) (.slice none 0 0)).setCell (p := ⟨w.heap.size, 1, none⟩) (Nat.le_refl _) (.bool false))
        clear hres1 hres2
        go_wp2_with fail
        refine bodyPost_ret (v := .tuple #[.agg #[.slice none 0 0, .bool false], .int .i64 4]) (by simp [results, Tryd.results9, go_sem, t0, t1]) rfl ⟨HBR.out, ?_⟩
        rw [HRN.out]
    · have HBX := Lib.hid (backR_some HQV.out HR0.out (HBF.out.trans (back_end f path hgo)))
      by_cases hrz : r.size = 0
      · have hne : (r.toList == []) = true := list_nil hrz
        have e0 := HB.out.at_.c0
        have e1 := HB.out.at_.c1
        go_upto_region 19 with fail
        have HCK := Lib.hid (check_dom (some ⟨g, 0, none⟩) out.length c out qv wr wr.heap.size HB.out.at_.ed.sl (Nat.le_refl _))
        by_cases hck : checkD out = 0
        · have HTR := Lib.hid (fun (u : World) (hu : Below wr.heap.size wr u) => tree_any (some ⟨g, 0, none⟩) out.length c out qv u wr.heap.size (good_of hck) HB.out.at_.pos (HB.out.at_.ed.sl.below hu (Nat.le_refl _)) hu.size)
          obtain ⟨tb, htb⟩ : ∃ tb : ByteArray, tb = ⟨(treeL out qv).toArray⟩ := ⟨_, rfl⟩
          rw [← htb] at HTR
          have hc0 : (checkD out != 0) = false := by rw [hck]; rfl
          by_cases hts : treeL out qv = s.data.toList
          · have HRS := Lib.hid (HBX.out.trans (if_pos ⟨hck, hts⟩))
            obtain rfl : tb = s := by rw [htb]; exact bytes_ext2 hts
            clear htb hts HBX
            go_upto_region 21 with (first | (go_at_call 22; refine HCK.out.mono ?_; rintro e' w2 ⟨rfl, hb2⟩; have HB2 := Lib.hid (HB.out.next hb2); have HW2 := Lib.hid hb2; have e0' := HB2.out.at_.c0; have e1' := HB2.out.at_.c1; clear hb2) | (go_at_call 23; refine (HTR.out w2 HW2.out).mono ?_; rintro e' w3 ⟨rfl, hb3⟩; have HB3 := Lib.hid (HB2.out.next hb3); clear hb3))
            have c0 := HB3.out.at_.c0
            have c1 := HB3.out.at_.c1
            have r0' := cell_blk (i := 0) HB3.out.res rfl
            have r1' := cell_blk (i := 1) HB3.out.res rfl
            have g0' := free_blk (i := 0) HB3.out.res
            have g1' := free_blk (i := 1) HB3.out.res
            have hres1 := set_blk (i := 0) HB3.out.res (.slice (some ⟨g, 0, none⟩) out.length c)
            have hres2 := set_blk (i := 1) hres1 (.bool qv)
            have t0 := cell_blk (i := 0) (v := .slice (some ⟨g, 0, none⟩) out.length c) hres2 rfl
            have t1 := cell_blk (i := 1) (v := .bool qv) hres2 rfl
            have hed5 := (HB3.out.at_.ed.other HB3.out.res (by decide) (by decide) (by decide) (grown_set w3 _ 0 (.slice (some ⟨g, 0, none⟩) out.length c))).other hres1 (by decide) (by decide) (by decide) (grown_set _ _ 1 (.bool qv))
            have HSL5 := Lib.hid hed5.slr
            have HBR := Lib.hid ((HB3.out.low.setCell (p := ⟨w.heap.size, 0, none⟩) (Nat.le_refl _) (.slice (some ⟨g, 0, none⟩) out.length c)).setCell (p := ⟨w.heap.size, 1, none⟩) (Nat.le_refl _) (.bool qv))
            clear hres1 hres2 hed5
            go_wp2_with fail
            refine bodyPost_ret (v := .tuple #[.agg #[.slice (some ⟨g, 0, none⟩) out.length c, .bool qv], .int .i64 0]) (by simp [results, Tryd.results9, go_sem, t0, t1]) rfl ⟨HBR.out, ?_⟩
            rw [HRS.out]
            exact ⟨some ⟨g, 0, none⟩, c, rfl, HSL5.out⟩
          · have HRN := Lib.hid (HBX.out.trans (if_neg (fun h => hts h.2)))
            have hneq : (tb.toList == s.toList) = false := ne_list (by rw [htb]; exact hts)
            clear htb hts HBX
            go_upto_region 20 with (first | (go_at_call 22; refine HCK.out.mono ?_; rintro e' w2 ⟨rfl, hb2⟩; have HB2 := Lib.hid (HB.out.next hb2); have HW2 := Lib.hid hb2; have e0' := HB2.out.at_.c0; have e1' := HB2.out.at_.c1; clear hb2) | (go_at_call 23; refine (HTR.out w2 HW2.out).mono ?_; rintro e' w3 ⟨rfl, hb3⟩; have HB3 := Lib.hid (HB2.out.next hb3); clear hb3))
            have r0' := cell_blk (i := 0) HB3.out.res rfl
            have r1' := cell_blk (i := 1) HB3.out.res rfl
            have g0' := free_blk (i := 0) HB3.out.res
            have g1' := free_blk (i := 1) HB3.out.res
            have hres1 := set_blk (i := 0) HB3.out.res (.slice none 0 0)
            have hres2 := set_blk (i := 1) hres1 (.bool false)
            have t0 := cell_blk (i := 0) (v := .slice none 0 0) hres2 rfl
            have t1 := cell_blk (i := 1) (v := .bool false) hres2 rfl
            have HBR := Lib.hid ((HB3.out.low.setCell (p := ⟨w.heap.size, 0, none⟩) (Nat.le_refl _) (.slice none 0 0)).setCell (p := ⟨w.heap.size, 1, none⟩) (Nat.le_refl _) (.bool false))
            clear hres1 hres2
            go_wp2_with fail
            refine bodyPost_ret (v := .tuple #[.agg #[.slice none 0 0, .bool false], .int .i64 4]) (by simp [results, Tryd.results9, go_sem, t0, t1]) rfl ⟨HBR.out, ?_⟩
            rw [HRN.out]
        · have HRN := Lib.hid (HBX.out.trans (if_neg (fun h => hck h.1)))
          have hc0 : (checkD out != 0) = true := by simpa using hck
          clear HBX
          go_upto_region 20 with (go_at_call 22; refine HCK.out.mono ?_; rintro e' w2 ⟨rfl, hb2⟩; have HB2 := Lib.hid (HB.out.next hb2); clear hb2)
          have r0' := cell_blk (i := 0) HB2.out.res rfl
          have r1' := cell_blk (i := 1) HB2.out.res rfl
          have g0' := free_blk (i := 0) HB2.out.res
          have g1' := free_blk (i := 1) HB2.out.res
          have hres1 := set_blk (i := 0) HB2.out.res (.slice none 0 0)
          have hres2 := set_blk (i := 1) hres1 (.bool false)
          have t0 := cell_blk (i := 0) (v := .slice none 0 0) hres2 rfl
          have t1 := cell_blk (i := 1) (v := .bool false) hres2 rfl
          have HBR := Lib.hid ((HB2.out.low.setCell (p := ⟨w.heap.size, 0, none⟩) (Nat.le_refl _) (.slice none 0 0)).setCell (p := ⟨w.heap.size, 1, none⟩) (Nat.le_refl _) (.bool false))
          clear hres1 hres2
          go_wp2_with fail
          refine bodyPost_ret (v := .tuple #[.agg #[.slice none 0 0, .bool false], .int .i64 4]) (by simp [results, Tryd.results9, go_sem, t0, t1]) rfl ⟨HBR.out, ?_⟩
          rw [HRN.out]
      · have hne : (r.toList == []) = false := list_ne (by omega)
        have hl2 : ¬ (out.length : Int) ≤ 200 := by omega
        have hl3 : decide ((out.length : Int) ≤ 200) = false := decide_eq_false hl2
        clear hl2
        have e0 := HB.out.at_.c0
        have e1 := HB.out.at_.c1
        go_upto_region 19 with fail
        have HCK := Lib.hid (check_dom (some ⟨g, 0, none⟩) out.length c out qv wr wr.heap.size HB.out.at_.ed.sl (Nat.le_refl _))
        by_cases hck : checkD out = 0
        · have HTR := Lib.hid (fun (u : World) (hu : Below wr.heap.size wr u) => tree_any (some ⟨g, 0, none⟩) out.length c out qv u wr.heap.size (good_of hck) HB.out.at_.pos (HB.out.at_.ed.sl.below hu (Nat.le_refl _)) hu.size)
          obtain ⟨tb, htb⟩ : ∃ tb : ByteArray, tb = ⟨(treeL out qv).toArray⟩ := ⟨_, rfl⟩
          rw [← htb] at HTR
          have hc0 : (checkD out != 0) = false := by rw [hck]; rfl
          by_cases hts : treeL out qv = s.data.toList
          · have HRS := Lib.hid (HBX.out.trans (if_pos ⟨hck, hts⟩))
            obtain rfl : tb = s := by rw [htb]; exact bytes_ext2 hts
            clear htb hts HBX
            go_upto_region 21 with (first | (go_at_call 22; refine HCK.out.mono ?_; rintro e' w2 ⟨rfl, hb2⟩; have HB2 := Lib.hid (HB.out.next hb2); have HW2 := Lib.hid hb2; have e0' := HB2.out.at_.c0; have e1' := HB2.out.at_.c1; clear hb2) | (go_at_call 23; refine (HTR.out w2 HW2.out).mono ?_; rintro e' w3 ⟨rfl, hb3⟩; have HB3 := Lib.hid (HB2.out.next hb3); clear hb3))
            have c0 := HB3.out.at_.c0
            have c1 := HB3.out.at_.c1
            have r0' := cell_blk (i := 0) HB3.out.res rfl
            have r1' := cell_blk (i := 1) HB3.out.res rfl
            have g0' := free_blk (i := 0) HB3.out.res
            have g1' := free_blk (i := 1) HB3.out.res
            have hres1 := set_blk (i := 0) HB3.out.res (.slice (some ⟨g, 0, none⟩) out.length c)
            have hres2 := set_blk (i := 1) hres1 (.bool qv)
            have t0 := cell_blk (i := 0) (v := .slice (some ⟨g, 0, none⟩) out.length c) hres2 rfl
            have t1 := cell_blk (i := 1) (v := .bool qv) hres2 rfl
            have hed5 := (HB3.out.at_.ed.other HB3.out.res (by decide) (by decide) (by decide) (grown_set w3 _ 0 (.slice (some ⟨g, 0, none⟩) out.length c))).other hres1 (by decide) (by decide) (by decide) (grown_set _ _ 1 (.bool qv))
            have HSL5 := Lib.hid hed5.slr
            have HBR := Lib.hid ((HB3.out.low.setCell (p := ⟨w.heap.size, 0, none⟩) (Nat.le_refl _) (.slice (some ⟨g, 0, none⟩) out.length c)).setCell (p := ⟨w.heap.size, 1, none⟩) (Nat.le_refl _) (.bool qv))
            clear hres1 hres2 hed5
            go_wp2_with fail
            refine bodyPost_ret (v := .tuple #[.agg #[.slice (some ⟨g, 0, none⟩) out.length c, .bool qv], .int .i64 0]) (by simp [results, Tryd.results9, go_sem, t0, t1]) rfl ⟨HBR.out, ?_⟩
            rw [HRS.out]
            exact ⟨some ⟨g, 0, none⟩, c, rfl, HSL5.out⟩
          · have HRN := Lib.hid (HBX.out.trans (if_neg (fun h => hts h.2)))
            have hneq : (tb.toList == s.toList) = false := ne_list (by rw [htb]; exact hts)
            clear htb hts HBX
            go_upto_region 20 with (first | (go_at_call 22; refine HCK.out.mono ?_; rintro e' w2 ⟨rfl, hb2⟩; have HB2 := Lib.hid (HB.out.next hb2); have HW2 := Lib.hid hb2; have e0' := HB2.out.at_.c0; have e1' := HB2.out.at_.c1; clear hb2) | (go_at_call 23; refine (HTR.out w2 HW2.out).mono ?_; rintro e' w3 ⟨rfl, hb3⟩; have HB3 := Lib.hid (HB2.out.next hb3); clear hb3))
            have r0' := cell_blk (i := 0) HB3.out.res rfl
            have r1' := cell_blk (i := 1) HB3.out.res rfl
            have g0' := free_blk (i := 0) HB3.out.res
            have g1' := free_blk (i := 1) HB3.out.res
            have hres1 := set_blk (i := 0) HB3.out.res (.slice none 0 0)
            have hres2 := set_blk (i := 1) hres1 (.bool false)
            have t0 := cell_blk (i := 0) (v := .slice none 0 0) hres2 rfl
            have t1 := cell_blk (i := 1) (v := .bool false) hres2 rfl
            have HBR := Lib.hid ((HB3.out.low.setCell (p := ⟨w.heap.size, 0, none⟩) (Nat.le_refl _) (.slice none 0 0)).setCell (p := ⟨w.heap.size, 1, none⟩) (Nat.le_refl _) (.bool false))
            clear hres1 hres2
            go_wp2_with fail
            refine bodyPost_ret (v := .tuple #[.agg #[.slice none 0 0, .bool false], .int .i64 4]) (by simp [results, Tryd.results9, go_sem, t0, t1]) rfl ⟨HBR.out, ?_⟩
            rw [HRN.out]
        · have HRN := Lib.hid (HBX.out.trans (if_neg (fun h => hck h.1)))
          have hc0 : (checkD out != 0) = true := by simpa using hck
          clear HBX
          go_upto_region 20 with (go_at_call 22; refine HCK.out.mono ?_; rintro e' w2 ⟨rfl, hb2⟩; have HB2 := Lib.hid (HB.out.next hb2); clear hb2)
          have r0' := cell_blk (i := 0) HB2.out.res rfl
          have r1' := cell_blk (i := 1) HB2.out.res rfl
          have g0' := free_blk (i := 0) HB2.out.res
          have g1' := free_blk (i := 1) HB2.out.res
          have hres1 := set_blk (i := 0) HB2.out.res (.slice none 0 0)
          have hres2 := set_blk (i := 1) hres1 (.bool false)
          have t0 := cell_blk (i := 0) (v := .slice none 0 0) hres2 rfl
          have t1 := cell_blk (i := 1) (v := .bool false) hres2 rfl
          have HBR := Lib.hid ((HB2.out.low.setCell (p := ⟨w.heap.size, 0, none⟩) (Nat.le_refl _) (.slice none 0 0)).setCell (p := ⟨w.heap.size, 1, none⟩) (Nat.le_refl _) (.bool false))
          clear hres1 hres2
          go_wp2_with fail
          refine bodyPost_ret (v := .tuple #[.agg #[.slice none 0 0, .bool false], .int .i64 4]) (by simp [results, Tryd.results9, go_sem, t0, t1]) rfl ⟨HBR.out, ?_⟩
          rw [HRN.out]
end Go.Proofs.YtfgmfmkibjfknaaDoor
