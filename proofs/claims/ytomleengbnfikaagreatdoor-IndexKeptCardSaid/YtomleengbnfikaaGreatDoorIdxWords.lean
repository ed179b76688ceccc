/-
The words of a node: dom.Of, Words, words.
-/
import Derived.Test.YtomleengbnfikaaGreatDoorIdxKit
import Derived.Test.YtomleengbnfikaaGreatDoorIdxRune
import Derived.Test.YtomleengbnfikaaGreatDoorShelf3
import Derived.Deep.RegionHeld3
import Derived.Shelf.Abstract
import Derived.Deep.DeepCutAuto
namespace Go.Proofs.YtomleengbnfikaaGreatDoor
open Go.RowKit Go.Cl
attribute [local go_sem ↓] Go.wp_at_zero Go.wp_at_succ

/-- Fresh blocks. -/
def frD (a b : Nat) : Nat → Prop := fun k => a ≤ k ∧ k < b
theorem OwnF.slf {α : Type} {T : Ty α} {w : World} {base : Nat} {e : TypeId} {v : Value} {n : Nat} {xs : List α} (h : OwnF T w base e v n xs) (hpos : 0 < T.size) (hn : n * T.bytes ≤ 140737488355328) : ∃ A c, v = .slice A n c ∧ Sl T w (frD base w.heap.size) A n c xs := by
  obtain ⟨A, c, rfl⟩ := Own.form h
  exact ⟨A, c, rfl, (Own.sl h hpos hn).more fun b hb => hb.elim False.elim id⟩
theorem Sl.fr {α : Type} {T : Ty α} {w w' : World} {a b a' b' B : Nat} {A : Option Addr} {n c : Nat} {xs : List α} (h : Sl T w (frD a b) A n c xs) (hb : Below B w w') (hB : b ≤ B) (h1 : a' ≤ a) (h2 : b ≤ b') : Sl T w' (frD a' b') A n c xs :=
  (h.keep fun p hp => World.cell?_of_block (hb.block p.block (Nat.lt_of_lt_of_le hp.2 hB))).more fun _ hk => ⟨Nat.le_trans h1 hk.1, Nat.lt_of_lt_of_le hk.2 h2⟩

/-! ### an attribute's value -/
def ofA (l : List DAttr) (nm : ByteArray) : ByteArray := if findA l nm < 0 then ⟨#[]⟩ else (l[(findA l nm).toNat]?.getD (⟨#[]⟩, ⟨#[]⟩)).2
theorem findA_is (ats : List DAttr) (nm : ByteArray) : findA ats nm = -1 ∨ ∃ (i : Nat) (a : DAttr), findA ats nm = (i : Int) ∧ ats[i]? = some a := by
  unfold findA
  cases h : ats.findIdx? (fun a => a.1.toList == nm.toList) with
  | none => exact .inl rfl
  | some i =>
    obtain ⟨hi, _⟩ := List.findIdx?_eq_some_iff_getElem.1 h
    exact .inr ⟨i, _, rfl, List.getElem?_eq_getElem hi⟩
theorem ofA_small {l : List DAttr} {B : Nat} (h : ∀ a ∈ l, a.2.size ≤ B) (nm : ByteArray) : (ofA l nm).size ≤ B := by
  unfold ofA
  split
  · exact Nat.zero_le _
  · rcases findA_is l nm with h1 | ⟨i, a, h1, ha⟩
    · omega
    · rw [h1, Int.toNat_natCast, ha]
      exact h a (List.mem_of_getElem? ha)
set_option maxRecDepth 100000 in
theorem of_any (A : Option Addr) (n c : Nat) (l : List DAttr) (nm : ByteArray) (w : World) (B : Nat) (hl : Sl tDA w (lt B) A n c l) (hB : B ≤ w.heap.size) :
    Calls Tryz.prog 48 #[.slice A n c, .string nm] w fun e w' => e = .returned (.string (ofA l nm)) ∧ Below w.heap.size w w' := by
  have HF := Lib.hid (find_dom A n c l nm w B hl hB)
  have HL := Lib.hid hl.hn
  rcases findA_is l nm with h1 | ⟨i, a, h1, ha⟩
  · have HR := Lib.hid (show ofA l nm = ⟨#[]⟩ from if_pos (by omega))
    rw [h1] at HF
    clear h1 hl
    go_enter Tryz.func48, Tryz.ntmps48
    go_wp2_with (go_at_call 68; refine HF.out.mono ?_; rintro e w1 ⟨rfl, hb⟩)
    go_ret
    exact ⟨by rw [HR.out]; rfl, hb⟩
  · have HR := Lib.hid (show ofA l nm = a.2 from by unfold ofA; rw [if_neg (by omega), h1, Int.toNat_natCast, ha]; rfl)
    rw [h1] at HF
    obtain ⟨b, o, rfl, hD, _, c2, _, _⟩ := da_cells hl ha
    have i1 : (0 : Int) ≤ (i : Int) := by omega
    have i2 : (i : Int) < (n : Int) := by have := HL.out; have := (List.getElem?_eq_some_iff.1 ha).1; omega
    have HC := Lib.hid (show ∀ W, Below w.heap.size w W → W.cell? ⟨b, o + i * 2 + 1, none⟩ = some (.string a.2) from fun W hW => cell_be c2 hW)
    clear h1 hl ha c2
    go_enter Tryz.func48, Tryz.ntmps48
    go_wp2_with (go_at_call 68; refine HF.out.mono ?_; rintro e w1 ⟨rfl, hb⟩; have c2 := HC.out w1 hb)
    go_ret
    exact ⟨by rw [HR.out]; rfl, hb⟩

/-! ### one -/
def oneW (s : ByteArray) : List ByteArray := if s.size = 0 then [] else [s]
/-- A list of words, in blocks that a call has made. -/
def WPost (w : World) (ws : List ByteArray) (e : Ending) (w' : World) : Prop :=
  Below w.heap.size w w' ∧ ∃ A c, e = .returned (.slice A ws.length c) ∧ Sl tStr w' (frD w.heap.size w'.heap.size) A ws.length c ws
theorem one_any (s : ByteArray) (w : World) (hs : s.size ≤ 1152921504606846976) : Calls Tryz.prog 47 #[.string s] w (WPost w (oneW s)) := by
  by_cases h : s.size = 0
  · have he := isE_of h
    have HR := Lib.hid (show oneW s = [] from if_pos h)
    go_enter Tryz.func47, Tryz.ntmps47
    go_wp2_with fail
    go_ret
    exact ⟨Below.refl _ _, none, 0, by rw [HR.out]; rfl, by rw [HR.out]; exact Sl.nil⟩
  · have he := isE_not (Nat.pos_of_ne_zero h)
    have HR := Lib.hid (show oneW s = [s] from if_neg h)
    go_enter Tryz.func47, Tryz.ntmps47
    go_wp2_with fail
    go_ret
    refine ⟨(Below.refl _ _).alloc (Nat.le_refl _) _, some ⟨w.heap.size, 0, none⟩, 1, by rw [HR.out]; rfl, ?_⟩
    rw [HR.out]
    have h1 := Sl.one_new (T := tStr) flatStr w 9 (x := s) (cs := [.string s]) ⟨rfl, hs⟩ (by decide)
    obtain ⟨a1, a2, a3, a4, a5, a6⟩ := h1
    refine ⟨a1, a2, a3, a4, a5, fun h0 => ?_⟩
    obtain ⟨b, o, cells, e, hD, hr, hc⟩ := a6 h0
    have hbe : b = w.heap.size := by
      have := Option.some.inj e
      injection this with e1
      exact e1.symm
    exact ⟨b, o, cells, e, ⟨by omega, by rw [World.size_alloc]; omega⟩, row_str hr, hc⟩

/-! ### Words -/
theorem contains_str (A : Option Addr) (n c : Nat) (xs : List ByteArray) (x : ByteArray) (w : World) (D : Nat → Prop) (h : Sl tStr w D A n c xs) : Calls Tryz.prog 72 #[.slice A n c, .string x] w fun e w' => e = .returned (.bool (Lib.containsS xs x)) ∧ w' = w := by
  have hn := h.hn
  have hsm := h.small
  rcases Nat.eq_zero_or_pos n with h0 | h0
  · subst h0
    have : xs = [] := List.eq_nil_of_length_eq_zero hn.symm
    subst this
    exact Tryz.slices_Contains_string_empty A c x w
  · obtain ⟨y, hy⟩ : ∃ y, xs[0]? = some y := get_some (by omega)
    obtain ⟨b, o, rfl, _, _, _⟩ := h.str hy
    have h1 := Tryz.slices_Contains_string b o n c xs x w (by omega) (by omega) (fun j hj => by
      obtain ⟨z, hz⟩ := get_some hj
      obtain ⟨b', o', e, _, hc, _⟩ := h.str hz
      injection e with e
      injection e with e1 e2
      subst e1 e2
      rw [hc, List.getD_eq_getElem?_getD, hz]
      rfl)
    rw [List.take_of_length_le (by omega)] at h1
    exact h1
theorem elemSt : ElemOf Tryz.prog 81 9 1 16 := mkElem Tryz.underlying81 (by kernel_rfl) (z := .string ⟨#[]⟩) rfl (by decide)
/-- Words once, in their order. -/
def dedL : List ByteArray → List ByteArray → List ByteArray
  | acc, [] => acc
  | acc, x :: r => if Lib.containsS acc x = true then dedL acc r else dedL (acc ++ [x]) r
def wordsL (s : ByteArray) : List ByteArray := dedL [] (Lib.goFieldsP isWs s)
theorem ded_end {fs acc : List ByteArray} {k : Nat} (h : dedL [] fs = dedL acc (fs.drop k)) (hk : fs.length ≤ k) : dedL [] fs = acc := by rw [h, List.drop_of_length_le hk, dedL]
theorem ded_has {fs acc : List ByteArray} {k : Nat} {x : ByteArray} (h : dedL [] fs = dedL acc (fs.drop k)) (hx : fs[k]? = some x) (hc : Lib.containsS acc x = true) : dedL [] fs = dedL acc (fs.drop (k + 1)) := by
  rw [h, List.drop_eq_getElem_cons (List.getElem?_eq_some_iff.1 hx).1, (List.getElem?_eq_some_iff.1 hx).2, dedL, if_pos hc]
theorem ded_new {fs acc : List ByteArray} {k : Nat} {x : ByteArray} (h : dedL [] fs = dedL acc (fs.drop k)) (hx : fs[k]? = some x) (hc : Lib.containsS acc x = false) : dedL [] fs = dedL (acc ++ [x]) (fs.drop (k + 1)) := by
  rw [h, List.drop_eq_getElem_cons (List.getElem?_eq_some_iff.1 hx).1, (List.getElem?_eq_some_iff.1 hx).2, dedL, if_neg (by rw [hc]; decide)]
theorem spans_len (p : Nat → Bool) (s : ByteArray) (f : Nat) : ∀ (pos : Nat) (st : Option Nat) (acc : List (Nat × Nat)), (Lib.spansFromP p s f pos st acc).1.length ≤ acc.length + f := by
  induction f with
  | zero => intro pos st acc; exact Nat.le_refl _
  | succ f ih =>
    intro pos st acc
    unfold Lib.spansFromP
    split
    · split
      · cases st with
        | none => exact Nat.le_trans (ih _ _ _) (by omega)
        | some a => exact Nat.le_trans (ih _ _ _) (by rw [List.length_append, List.length_singleton]; omega)
      · cases st with
        | none => exact Nat.le_trans (ih _ _ _) (by omega)
        | some a => exact Nat.le_trans (ih _ _ _) (by omega)
    · show acc.length ≤ _; omega
theorem fields_len (p : Nat → Bool) (s : ByteArray) : (Lib.goFieldsP p s).length ≤ s.size + 1 := by
  unfold Lib.goFieldsP Lib.spansOfP Lib.closeSpans
  rw [List.length_map]
  have := spans_len p s s.size 0 none []
  split
  · rw [List.length_append, List.length_singleton, List.length_nil] at *; omega
  · rw [List.length_nil] at this; omega
theorem fields_small {p : Nat → Bool} {s x : ByteArray} (h : x ∈ Lib.goFieldsP p s) : x.size ≤ s.size := by
  unfold Lib.goFieldsP at h
  obtain ⟨y, _, rfl⟩ := List.mem_map.1 h
  rw [ByteArray.size_extract]
  omega
theorem ded_sub (fs : List ByteArray) : ∀ acc, (dedL acc fs).length ≤ acc.length + fs.length ∧ ∀ x ∈ dedL acc fs, x ∈ acc ∨ x ∈ fs := by
  induction fs with
  | nil => intro acc; exact ⟨Nat.le_refl _, fun x h => .inl h⟩
  | cons y r ih =>
    intro acc
    rw [dedL]
    split
    · obtain ⟨h1, h2⟩ := ih acc
      exact ⟨by rw [List.length_cons]; omega, fun x h => (h2 x h).imp id (List.mem_cons_of_mem _)⟩
    · obtain ⟨h1, h2⟩ := ih (acc ++ [y])
      rw [List.length_append, List.length_singleton] at h1
      refine ⟨by rw [List.length_cons]; omega, fun x h => ?_⟩
      rcases h2 x h with h | h
      · rcases List.mem_append.1 h with h | h
        · exact .inl h
        · exact .inr (by rw [List.mem_singleton.1 h]; exact List.mem_cons_self ..)
      · exact .inr (List.mem_cons_of_mem _ h)
theorem words_len (s : ByteArray) : (wordsL s).length ≤ s.size + 1 := Nat.le_trans (ded_sub _ []).1 (by have := fields_len isWs s; rw [List.length_nil]; omega)
theorem words_small {s x : ByteArray} (h : x ∈ wordsL s) : x.size ≤ s.size := by
  rcases (ded_sub _ []).2 x h with h | h
  · simp at h
  · exact fields_small h
set_option maxRecDepth 100000 in
set_option maxHeartbeats 4000000 in
theorem words_any (s : ByteArray) (w : World) (hs : s.size ≤ 1000000) : Calls Tryz.prog 49 #[.string s] w (WPost w (wordsL s)) := by
  have HFF := Lib.hid (Tryz.strings_FieldsFunc_grows 70 #[] (enters_of Tryz.func70 (by kernel_rfl) rfl) isWs s w (by omega) (fun W x _ _ => wsLam_any x W))
  have hfl := fields_len isWs s
  have HSM := Lib.hid (fun x (h : x ∈ Lib.goFieldsP isWs s) => fields_small h)
  have HWL := Lib.hid (show wordsL s = dedL [] (Lib.goFieldsP isWs s) from rfl)
  generalize Lib.goFieldsP isWs s = fs at *
  generalize hws : wordsL s = ws at *
  clear hws
  obtain ⟨n, hn⟩ : ∃ n, fs.length = n := ⟨_, rfl⟩
  have HN := Lib.hid hn
  rw [hn] at HFF hfl
  clear hn
  go_enter Tryz.func49, Tryz.ntmps49
  go_wp2_with (go_at_call 69; refine HFF.out.mono ?_; rintro e w1 ⟨A, rfl, hA, hown, hb⟩)
  have hownF : OwnF tStr w1 w.heap.size 9 (.slice (some ⟨A, 0, none⟩) n n) n fs := ⟨fs.map Value.string, hown, row_strs fs fun x hx => by have := HSM.out x hx; omega⟩
  obtain ⟨_, _, e0, hsl⟩ := OwnF.slf hownF (by decide) (by show n * 16 ≤ _; omega)
  injection e0 with e1 _ e2
  subst e1 e2
  have HSL := Lib.hid hsl
  have HB := Lib.hid hb
  have HA1 : Hid (A < w1.heap.size) := (Own.lt hownF A rfl).2
  clear hown hownF hsl hb
  go_loopw [9, 3] (fun i v wr => ∃ (k : Nat) (acc : List ByteArray), k ≤ n ∧ i = .int .i64 (k : Int) ∧ OwnF tStr wr w1.heap.size 9 v acc.length acc ∧ Below w1.heap.size w1 wr ∧ Hid (dedL [] fs = dedL acc (fs.drop k)) ∧ Hid (acc.length ≤ k)) (fun i _ _ => n - (intOf i).toNat)
  case atStart => exact ⟨0, [], Nat.zero_le _, rfl, OwnF.nil _ _ _, Below.refl _ _, Lib.hid rfl, Nat.le_refl 0⟩
  case round =>
    obtain ⟨k, acc, hk, rfl, hown, hb, HD, HLE⟩ := hrel
    obtain ⟨A2, c2, rfl⟩ := Own.form hown
    have HO := Lib.hid hown
    have HBR := Lib.hid hb
    by_cases hlt : k < n
    · obtain ⟨x, hx⟩ : ∃ x, fs[k]? = some x := get_some (by have := HN.out; omega)
      have hsr := HSL.out.keep fun p hp => World.cell?_of_block (hb.block p.block hp.2)
      obtain ⟨b, o, e0, _, c1, hxs⟩ := hsr.str hx
      injection e0 with e0
      injection e0 with e1 e2
      subst e1 e2
      rw [Nat.zero_add] at c1
      have hacc : acc.length ≤ 1000001 := by have := HLE.out; omega
      obtain ⟨_, _, e0, hsa⟩ := OwnF.slf hown (by decide) (by show acc.length * 16 ≤ _; omega)
      injection e0 with e1 _ e2
      subst e1 e2
      have HCT : Hid (Calls Tryz.prog 72 #[.slice A2 acc.length c2, .string x] wr fun e w' => e = .returned (.bool (Lib.containsS acc x)) ∧ w' = wr) := contains_str A2 acc.length c2 acc x wr _ hsa
      have HX := Lib.hid hx
      have HXS := Lib.hid hxs
      clear hsr hsa hx hxs hown hb
      cases hc : Lib.containsS acc x with
      | true =>
        have HD2 := Lib.hid (ded_has HD.out HX.out hc)
        rw [hc] at HCT
        clear hc
        go_wp2_with (go_at_call 72; refine HCT.out.mono ?_; rintro e w2 ⟨rfl, rfl⟩)
        go_roundw
        case rel => exact ⟨k + 1, acc, by omega, by go_num, HO.out, HBR.out, HD2, Nat.le_succ_of_le HLE.out⟩
        case measure => simp [intOf]; omega
      | false =>
        have HD2 := Lib.hid (ded_new HD.out HX.out hc)
        rw [hc] at HCT
        clear hc
        generalize hal : acc.length = na at *
        have HAL := Lib.hid hal
        clear hal
        go_wp2_with (first | (go_at_call 72; refine HCT.out.mono ?_; rintro e w2 ⟨rfl, rfl⟩) | (at_builtin; refine wpList_ap1 _ rfl (.tmp 17) (.tmp 19) 81 rfl elemSt (v := .slice A2 na c2) (n := na) (xs := acc) (base := w1.heap.size) (D := fun _ => False) rfl (OwnF.al HO.out _) (fun _ h => h.elim) (y := x) (cs := [.string x]) rfl ⟨rfl, HXS.out⟩ (cell_new _ _ _) (by omega) (by omega) (by rw [World.size_alloc]; have := HBR.out.size; omega) ?_; intro v2 w2 hown2 _ hbl2 _))
        go_roundw
        case rel =>
          refine ⟨k + 1, acc ++ [x], by omega, by go_num, ?_, (HBR.out.alloc HBR.out.size _).trans hbl2, HD2, ?_⟩
          · rw [List.length_append, List.length_singleton, show acc.length = na from HAL.out]; exact hown2
          · show (acc ++ [x]).length ≤ k + 1
            rw [List.length_append, List.length_singleton, show acc.length = na from HAL.out]
            have := HLE.out
            omega
        case measure => simp [intOf]; omega
    · have HE := Lib.hid (HWL.out.trans (ded_end HD.out (by have := HN.out; omega)))
      have hacc : acc.length ≤ 1000001 := by have := HLE.out; omega
      obtain ⟨_, _, e0, hsa⟩ := OwnF.slf hown (by decide) (by show acc.length * 16 ≤ _; omega)
      injection e0 with e1 _ e2
      subst e1 e2
      have HSA := Lib.hid hsa
      clear hsa hown hb
      go_wp2_with fail
      go_ret
      rw [HE.out]
      exact ⟨HB.out.trans (HBR.out.mono HB.out.size), _, _, rfl, HSA.out.more fun b h => ⟨Nat.le_trans HB.out.size h.1, h.2⟩⟩
end Go.Proofs.YtomleengbnfikaaGreatDoor
