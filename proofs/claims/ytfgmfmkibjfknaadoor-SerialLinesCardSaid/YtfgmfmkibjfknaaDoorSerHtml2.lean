/-
The walks of package serial's writer: kids, element, node.
-/
import Derived.Test.YtfgmfmkibjfknaaDoorSerHtml
import Derived.Deep.DeepCutAuto
namespace Go.Proofs.YtfgmfmkibjfknaaDoor
open Go.RowKit Go.Cl
attribute [local go_sem ↓] Go.wp_at_zero Go.wp_at_succ

def kdS (l : List Nd) (z : Int) : Int := match nodeAt l z with | some y => y.kind | none => 0
def txS (l : List Nd) (z : Int) : ByteArray := match nodeAt l z with | some y => y.text | none => ⟨#[]⟩
def isPre (nm : ByteArray) : Bool := (nm.toList == (⟨#[112, 114, 101]⟩ : ByteArray).data.toList) || (nm.toList == (⟨#[116, 101, 120, 116, 97, 114, 101, 97]⟩ : ByteArray).data.toList)
/-- A sign that is written ahead of a text. -/
def nlB (l : List Nd) (x : Nd) : Bool := match x.kids with
  | [] => false
  | k :: _ => isPre x.name && Lib.hasPrefix (txS l k).data.toList [10] && (kdS l k == 3)
def tailH (l : List Nd) (h : Int → List UInt8) (x : Nd) : List UInt8 := if voidB x.name = true ∧ x.kids = [] then [] else (if nlB l x then [10] else []) ++ x.kids.flatMap h ++ ([60, 47] ++ x.name.data.toList ++ [62])
def elemH (l : List Nd) (h : Int → List UInt8) (x : Nd) : List UInt8 := ([60] ++ x.name.data.toList) ++ x.attrs.flatMap wrAttr ++ [62] ++ tailH l h x
def nodeH (l : List Nd) (h : Int → List UInt8) (x : Nd) : List UInt8 :=
  if x.kind = 1 then x.kids.flatMap h else if x.kind = 5 then (⟨#[60, 33, 68, 79, 67, 84, 89, 80, 69, 32]⟩ : ByteArray).data.toList ++ x.name.data.toList ++ [62] else if x.kind = 4 then (⟨#[60, 33, 45, 45]⟩ : ByteArray).data.toList ++ x.text.data.toList ++ (⟨#[45, 45, 62]⟩ : ByteArray).data.toList
  else if x.kind = 3 then wrTxt l x else elemH l h x
/-- What is written of a node, with what is below it. -/
def htmlN (l : List Nd) : Nat → Int → List UInt8
  | 0, _ => []
  | f + 1, z => match nodeAt l z with
    | none => []
    | some x => nodeH l (htmlN l f) x
theorem htmlN_at {l : List Nd} {i : Nat} {x : Nd} (hx : l[i]? = some x) (f : Nat) : htmlN l (f + 1) i = nodeH l (htmlN l f) x := by
  show (match nodeAt l (i : Int) with | none => [] | some x => nodeH l (htmlN l f) x) = _
  rw [nodeAt_nat, hx]
theorem flat_le {α β : Type} (g : α → List β) (xs : List α) (j : Nat) : ((xs.take j).flatMap g).length ≤ (xs.flatMap g).length := by
  conv => rhs; rw [← List.take_append_drop j xs, List.flatMap_append, List.length_append]
  omega
theorem flat_snoc {α β : Type} (g : α → List β) {xs : List α} {j : Nat} {x : α} (h : xs[j]? = some x) : (xs.take (j + 1)).flatMap g = (xs.take j).flatMap g ++ g x := by
  rw [take_snoc h, List.flatMap_append]
  simp
def NodeSays (l : List Nd) (m : Int) (b o N c : Nat) (q : Bool) (B E f : Nat) : Prop :=
  ∀ (i : Nat) (bs : List UInt8) (W : World), i < l.length → upN l i + f = 41 → SEnv W B m b o N l → WrAt W E B (some ⟨b, o, none⟩) N c q bs → bs.length + (htmlN l f i).length ≤ 140737488355328 →
    Calls Tryd.prog 58 #[.pointer (some ⟨E, 0, none⟩), .int .i64 (i : Int)] W (SPost W E B b o N c q bs (htmlN l f i))
def WRel (W : World) (E B b o N c : Nat) (q : Bool) (bs : List UInt8) (wr : World) : Prop := WrAt wr E B (some ⟨b, o, none⟩) N c q bs ∧ Below B W wr ∧ WKeep W wr
section
variable {l : List Nd} {m : Int} {b o N c : Nat} {q : Bool} {B E f : Nat}
set_option maxRecDepth 100000 in
set_option maxHeartbeats 4000000 in
theorem wkids_any (hN : NodeSays l m b o N c q B E f) (i : Nat) (x : Nd) (hx : l[i]? = some x) (hk : ∀ z ∈ x.kids, ∃ p : Nat, z = (p : Int) ∧ p < l.length ∧ upN l p + f = 41) (hfew : x.kids.length ≤ 140737488355328) (bs : List UInt8) (W : World) (hE : SEnv W B m b o N l) (hW : WrAt W E B (some ⟨b, o, none⟩) N c q bs) (hlen : bs.length + (x.kids.flatMap (htmlN l f)).length ≤ 140737488355328) :
    Calls Tryd.prog 86 #[.pointer (some ⟨E, 0, none⟩), .int .i64 (i : Int)] W (SPost W E B b o N c q bs (x.kids.flatMap (htmlN l f))) := by
  have hil : i < N := by have := hE.doc.hn; have := (List.getElem?_eq_some_iff.1 hx).1; omega
  obtain ⟨Aa, na, ca, Ak, nk, ck, hnd, _, _, _, _, _, k5⟩ := hE.doc.at_ i x hx
  have hkn := hnd.kids.hn
  subst hkn
  have e2 := hW.d0
  have i1 : (0 : Int) ≤ (i : Int) := by omega
  have i2 : (i : Int) < (N : Int) := by omega
  have HN := Lib.hid hN
  have HKI := Lib.hid hk
  have HE := Lib.hid hE
  have HLEN := Lib.hid hlen
  have HKS := Lib.hid hnd.kids
  have H0 : Hid (WRel W E B b o N c q (bs ++ (x.kids.take 0).flatMap (htmlN l f)) W) := ⟨by simpa using hW, Below.refl _ _, WKeep.refl _⟩
  clear hN hk hE hW hlen hnd hx
  go_enter Tryd.func86, Tryd.ntmps86
  go_upto_region 1 with fail
  go_loopw [16] (fun s wr => ∃ j : Nat, j ≤ x.kids.length ∧ s = .int .i64 (j : Int) ∧ Hid (WRel W E B b o N c q (bs ++ (x.kids.take j).flatMap (htmlN l f)) wr)) (fun s _ => x.kids.length - (intOf s).toNat)
  case atStart => exact ⟨0, Nat.zero_le _, rfl, H0⟩
  case round =>
    obtain ⟨j, hj, rfl, HR⟩ := hrel
    obtain ⟨hwr, hbr, hkr⟩ := HR.out
    by_cases hlt : j < x.kids.length
    · obtain ⟨z, hz⟩ : ∃ z, x.kids[j]? = some z := get_some hlt
      obtain ⟨p, rfl, hpl, hup⟩ := HKI.out z (List.mem_of_getElem? hz)
      obtain ⟨bk, ok, rfl, _, hck, _⟩ := (HKS.out.below hbr (Nat.le_refl _)).int hz
      have hsn := flat_snoc (htmlN l f) hz
      have hle := flat_le (htmlN l f) x.kids (j + 1)
      rw [hsn, List.length_append] at hle
      have HCA := Lib.hid (HN.out p _ wr hpl hup (HE.out.next hbr) hwr (by rw [List.length_append]; have := HLEN.out; omega))
      have HSN := Lib.hid hsn
      have HBR := Lib.hid hbr
      have HKR := Lib.hid hkr
      have j1 : (0 : Int) ≤ (j : Int) := by omega
      have j2 : (j : Int) < (x.kids.length : Int) := by omega
      clear hz hpl hup hsn hle hwr hbr hkr HR
      go_wp2_with (go_at_call 58; refine HCA.out.mono ?_; rintro e' w2 ⟨rfl, hw2, hb2, hk2⟩)
      go_roundw
      case rel => exact ⟨j + 1, by omega, by go_num, ⟨by rw [HSN.out, ← List.append_assoc]; exact hw2, HBR.out.trans hb2, HKR.out.trans hk2⟩⟩
      case measure => simp [intOf]; omega
    · have e : x.kids.take j = x.kids := List.take_of_length_le (by omega)
      rw [e] at hwr
      have HR2 := Lib.hid (show SPost W E B b o N c q bs (x.kids.flatMap (htmlN l f)) (.returned (.tuple #[])) wr from ⟨rfl, hwr, hbr, hkr⟩)
      clear hwr hbr hkr e HR
      go_wp2_with fail
      go_end0
      exact HR2.out
/-- A node's copy in a box, at a later world. -/
def NBox (X : Nat) (x : Nd) (Aa : Option Addr) (na ca : Nat) (Ak : Option Addr) (nk ck : Nat) (wr : World) : Prop := wr.heap[X]? = some (.cells #[.int .i64 x.kind, .string x.name, .slice Aa na ca, .string x.text, .int .i64 x.parent, .slice Ak nk ck] 45 (0, 0))
theorem NBox.keep {X : Nat} {x : Nd} {Aa : Option Addr} {na ca : Nat} {Ak : Option Addr} {nk ck : Nat} {w w' : World} (h : NBox X x Aa na ca Ak nk ck w) (hk : WKeep w w') : NBox X x Aa na ca Ak nk ck w' := hk.blk h (by decide)
set_option maxRecDepth 100000 in
set_option maxHeartbeats 8000000 in
theorem welem_any (hN : NodeSays l m b o N c q B E f) (i : Nat) (x : Nd) (hx : l[i]? = some x) (hk : ∀ z ∈ x.kids, ∃ p : Nat, z = (p : Int) ∧ p < l.length ∧ upN l p + f = 41) (hfew : x.kids.length ≤ 140737488355328) (hat : x.attrs.length ≤ 12) (hav : ∀ a ∈ x.attrs, a.2.size ≤ 1000) (hnm : x.name.size ≤ 1000) (bs : List UInt8) (W : World) (hE : SEnv W B m b o N l) (hW : WrAt W E B (some ⟨b, o, none⟩) N c q bs) (hlen : bs.length + (elemH l (htmlN l f) x).length ≤ 140737488355328) :
    Calls Tryd.prog 88 #[.pointer (some ⟨E, 0, none⟩), .int .i64 (i : Int)] W (SPost W E B b o N c q bs (elemH l (htmlN l f) x)) := by
  have hil : i < N := by have := hE.doc.hn; have := (List.getElem?_eq_some_iff.1 hx).1; omega
  obtain ⟨Aa, na, ca, Ak, nk, ck, hnd, k0, k1, k2, k3, k4, k5⟩ := hE.doc.at_ i x hx
  have hkn := hnd.kids.hn
  subst hkn
  have han := hnd.attrs.hn
  subst han
  have e2 := hW.d0
  have i1 : (0 : Int) ≤ (i : Int) := by omega
  have i2 : (i : Int) < (N : Int) := by omega
  obtain ⟨W0, hW0⟩ : ∃ W0, W0 = W.alloc (.cells #[.int .i64 x.kind, .string x.name, .slice Aa x.attrs.length ca, .string x.text, .int .i64 x.parent, .slice Ak x.kids.length ck] 45) := ⟨_, rfl⟩
  have hx0 : NBox W.heap.size x Aa x.attrs.length ca Ak x.kids.length ck W0 := by rw [hW0]; exact heap_alloc_new W _
  have hb0 : Below W.heap.size W W0 := by rw [hW0]; exact (Below.refl _ _).alloc (Nat.le_refl _) _
  have HK0 := Lib.hid (WKeep.below hb0)
  have HB0 := Lib.hid (hb0.mono hE.le)
  have HE0 := Lib.hid (hE.next (hb0.mono hE.le))
  have HW0 := Lib.hid (hW.next hb0)
  have HX0 := Lib.hid hx0
  have HKD := Lib.hid (fun (bs : List UInt8) (W : World) (hE : SEnv W B m b o N l) (hW : WrAt W E B (some ⟨b, o, none⟩) N c q bs) hlen => wkids_any hN i x hx hk hfew bs W hE hW hlen)
  have HAT := Lib.hid hnd.attrs
  have HE := Lib.hid hE
  have HAV := Lib.hid hav
  have HLEN : Hid (bs.length + (1 + x.name.size) + (x.attrs.flatMap wrAttr).length + 1 + (tailH l (htmlN l f) x).length ≤ 140737488355328) := by
    have h := hlen
    unfold elemH at h
    simp only [List.length_append, List.length_cons, List.length_nil, bytes_len] at h
    show _ ≤ _
    omega
  have HKI := Lib.hid hk
  have HKS := Lib.hid hnd.kids
  clear hN hE hW hlen hnd hx hx0 hb0 hav hk
  go_enter Tryd.func88, Tryd.ntmps88
  go_upto_region 1 with fail
  rw [← hW0]
  clear hW0 k0 k1 k2 k3 k4 k5 e2
  have g1 := cell_blk (i := 1) HX0.out rfl
  have HC1 := Lib.hid (fun (u : World) (hb : Below W0.heap.size W0 u) => writeW E B (some ⟨b, o, none⟩) N c q bs (⟨#[60]⟩ ++ x.name) u (HW0.out.next hb) (by have := HLEN.out; rw [ByteArray.size_append]; show bs.length + (1 + x.name.size) ≤ _; omega) (Nat.le_trans HE0.out.le hb.size))
  refine wp_region_G (S := fun w' : World => w'.cell? ⟨W.heap.size, 1, none⟩ = some (.string x.name)) (T := []) (by kernel_rfl) ?_
  have hS : (fun w' : World => w'.cell? ⟨W.heap.size, 1, none⟩ = some (.string x.name)) W0.drew := g1
  refine wpAnyG_pure (i := 0) (v := ?_) rfl (by kernel_rfl) (by kernel_rfl) (by kernel_rfl) (fun _ _ _ h => h) rfl ?_ ?_
  rotate_left
  · intro w'
    first | (go_simp; done) | (go_simp; with_reducible rfl)
  refine wpAnyG_pure (i := 1) (v := ?_) rfl (by kernel_rfl) (by kernel_rfl) (by kernel_rfl) (fun _ _ _ h => h) rfl ?_ ?_
  rotate_left
  · intro w'
    first | (go_simp; done) | (go_simp; with_reducible rfl)
  refine wpAnyG_pure (i := 2) (v := ?_) rfl (by kernel_rfl) (by kernel_rfl) (by kernel_rfl) (fun _ _ _ h => h) rfl ?_ ?_
  rotate_left
  · intro w'
    first | (go_simp; done) | (go_simp; with_reducible rfl)
  refine wpAnyG_pure (i := 3) (v := ?_) rfl (by kernel_rfl) (by kernel_rfl) (by kernel_rfl) (fun _ _ _ h => h) rfl ?_ ?_
  rotate_left
  · intro w'
    first | (go_simp; done) | (go_simp; with_reducible rfl)
  refine wpAnyG_take (i := 4) (v := ?_) rfl (by kernel_rfl) (by kernel_rfl) (by kernel_rfl) (by kernel_rfl) (fun _ _ _ h => h) hS rfl ?_ ?_
  rotate_left
  · intro w' hSw
    (try dsimp only at hSw)
    first | (go_simp; done) | (go_simp; with_reducible rfl)
  refine wpAnyG_pure (i := 5) (v := .string (⟨#[60]⟩ ++ x.name)) rfl (by kernel_rfl) (by kernel_rfl) (by kernel_rfl) (fun _ _ _ h => h) rfl ?_ ?_
  · intro w'
    go_simp
    omega
  clear hS
  refine wpAnyG_one (i := 6) (by kernel_rfl) rfl rfl (fun K hK => ?_)
  go_simp
  go_at_call 47
  refine (HC1.out W0.drew (Below.refl _ W0).drew).mono ?_
  rintro e' w2 ⟨rfl, hw, hb, hk⟩
  have s0 := cell_blk (i := 1) (HX0.out.keep ((WKeep.below (Below.refl _ W0).drew).trans hk)) rfl
  have HW := Lib.hid hw
  have HB := Lib.hid (((Below.refl B W0).drew).trans hb)
  have HK := Lib.hid ((WKeep.below (Below.refl _ W0).drew).trans hk)
  clear hw hb hk
  go_wp2_with fail
  refine hK.out _ _ (fun _ _ => s0) ?_
  clear hK K s0
  refine wpAnyG_done (by kernel_rfl) ?_ _
  have H1 := Lib.hid (show WRel W E B b o N c q (bs ++ ([60] ++ x.name.data.toList)) w2 from ⟨by simpa [bytes_app] using HW.out, HB0.out.trans HB.out, HK0.out.trans HK.out⟩)
  have HX1 := Lib.hid (HX0.out.keep HK.out)
  clear g1 HC1 HW HB HK HW0
  have g2 := cell_blk (i := 2) HX1.out rfl
  go_upto_region 3 with fail
  go_loopw [25] (fun s wr => ∃ j : Nat, j ≤ x.attrs.length ∧ s = .int .i64 (j : Int) ∧ Hid (WRel W E B b o N c q (bs ++ ([60] ++ x.name.data.toList) ++ (x.attrs.take j).flatMap wrAttr) wr ∧ NBox W.heap.size x Aa x.attrs.length ca Ak x.kids.length ck wr)) (fun s _ => x.attrs.length - (intOf s).toNat)
  case atStart => exact ⟨0, Nat.zero_le _, rfl, Lib.hid ⟨by simpa using H1.out, HX1.out⟩⟩
  case round =>
    obtain ⟨j, hj, rfl, HR⟩ := hrel
    obtain ⟨⟨hwr, hbr, hkr⟩, hxr⟩ := HR.out
    by_cases hlt : j < x.attrs.length
    · obtain ⟨a, ha⟩ : ∃ a, x.attrs[j]? = some a := get_some hlt
      obtain ⟨ba, oa, rfl, _, c0, c1, hs0, hs1⟩ := da_cells (HAT.out.below hbr (Nat.le_refl _)) ha
      have hva := HAV.out a (List.mem_of_getElem? ha)
      have hsn := flat_snoc wrAttr ha
      have hle := flat_le wrAttr x.attrs (j + 1)
      rw [hsn, List.length_append] at hle
      have hwl : (wrAttr a).length = 1 + a.1.size + 2 + (escL true a.2.data.toList).length + 1 := by
        unfold wrAttr
        simp only [List.length_append, List.length_cons, List.length_nil, bytes_len]
      obtain ⟨w5, hw5⟩ : ∃ w5, w5 = wr.alloc (.cells #[.string a.1, .string a.2] 58) := ⟨_, rfl⟩
      have hx5 : w5.heap[wr.heap.size]? = some (.cells #[.string a.1, .string a.2] 58 (0, 0)) := by rw [hw5]; exact heap_alloc_new wr _
      have hb5 : Below wr.heap.size wr w5 := by rw [hw5]; exact (Below.refl _ _).alloc (Nat.le_refl _) _
      have HEr := Lib.hid (HE.out.next hbr)
      have HW5 := Lib.hid (hwr.next hb5)
      have HK5 := Lib.hid (hkr.trans (WKeep.below hb5))
      have HB5 := Lib.hid (hbr.trans (hb5.mono HEr.out.le))
      have HX5 := Lib.hid hx5
      have HXR := Lib.hid (hxr.keep (WKeep.below hb5))
      have HES := Lib.hid (escape_any a.2 true w5.drew m (cell_be HEr.out.max (hb5.drew)) hva)
      have HZ5 := Lib.hid (Nat.le_trans HEr.out.le hb5.size)
      obtain ⟨ev, hev⟩ : ∃ ev : ByteArray, ev = ⟨(escL true a.2.data.toList).toArray⟩ := ⟨_, rfl⟩
      have hel : ev.size = (escL true a.2.data.toList).length := by rw [hev]; exact List.size_toArray
      have hed : ev.data.toList = escL true a.2.data.toList := by rw [hev]
      have hesc := esc_len true a.2.data.toList
      rw [bytes_len] at hesc
      rw [← hev] at HES
      have HEV := Lib.hid hed
      have HLA := Lib.hid (show (bs ++ ([60] ++ x.name.data.toList) ++ (x.attrs.take j).flatMap wrAttr).length + (⟨#[32]⟩ ++ a.1 ++ ⟨#[61, 34]⟩ ++ ev ++ ⟨#[34]⟩ : ByteArray).size ≤ 140737488355328 from by
        have h := HLEN.out
        simp only [List.length_append, List.length_cons, List.length_nil, bytes_len, ByteArray.size_append]
        show _ + (1 + a.1.size + 2 + ev.size + 1) ≤ _
        omega)
      have HSN := Lib.hid (show wrAttr a = (⟨#[32]⟩ ++ a.1 ++ ⟨#[61, 34]⟩ ++ ev ++ ⟨#[34]⟩ : ByteArray).data.toList from by
        unfold wrAttr
        simp [hed])
      have HSN2 := Lib.hid hsn
      have hes2 : ev.size ≤ 1296000 := by omega
      have hn1 : a.1.size ≤ 140737488355328 := by have h := HLEN.out; omega
      have j1 : (0 : Int) ≤ (j : Int) := by omega
      have j2 : (j : Int) < (x.attrs.length : Int) := by omega
      clear hwr hbr hkr hxr ha hsn hle hwl hev hel hed hesc hva hx5 hb5 HR hs0 hs1 g2
      go_upto_region 5 with fail
      rw [← hw5]
      clear hw5 c0 c1
      have a0 := cell_blk (i := 0) HX5.out rfl
      have a1 := cell_blk (i := 1) HX5.out rfl
      refine wp_region_G (S := fun w' : World => w'.cell? ⟨wr.heap.size, 0, none⟩ = some (.string a.1) ∧ w'.cell? ⟨wr.heap.size, 1, none⟩ = some (.string a.2)) (T := []) (by kernel_rfl) ?_
      have hS : (fun w' : World => w'.cell? ⟨wr.heap.size, 0, none⟩ = some (.string a.1) ∧ w'.cell? ⟨wr.heap.size, 1, none⟩ = some (.string a.2)) w5.drew := ⟨a0, a1⟩
      refine wpAnyG_pure (i := 0) (v := ?_) rfl (by kernel_rfl) (by kernel_rfl) (by kernel_rfl) (fun _ _ _ h => h) rfl ?_ ?_
      rotate_left
      · intro w'
        first | (go_simp; done) | (go_simp; with_reducible rfl)
      refine wpAnyG_pure (i := 1) (v := ?_) rfl (by kernel_rfl) (by kernel_rfl) (by kernel_rfl) (fun _ _ _ h => h) rfl ?_ ?_
      rotate_left
      · intro w'
        first | (go_simp; done) | (go_simp; with_reducible rfl)
      refine wpAnyG_pure (i := 2) (v := ?_) rfl (by kernel_rfl) (by kernel_rfl) (by kernel_rfl) (fun _ _ _ h => h) rfl ?_ ?_
      rotate_left
      · intro w'
        first | (go_simp; done) | (go_simp; with_reducible rfl)
      refine wpAnyG_pure (i := 3) (v := ?_) rfl (by kernel_rfl) (by kernel_rfl) (by kernel_rfl) (fun _ _ _ h => h) rfl ?_ ?_
      rotate_left
      · intro w'
        first | (go_simp; done) | (go_simp; with_reducible rfl)
      refine wpAnyG_take (i := 4) (v := ?_) rfl (by kernel_rfl) (by kernel_rfl) (by kernel_rfl) (by kernel_rfl) (fun _ _ _ h => h) hS rfl ?_ ?_
      rotate_left
      · intro w' hSw
        (try dsimp only at hSw)
        first | (go_simp; done) | (go_simp; with_reducible rfl)
      refine wpAnyG_pure (i := 5) (v := .string (⟨#[32]⟩ ++ a.1)) rfl (by kernel_rfl) (by kernel_rfl) (by kernel_rfl) (fun _ _ _ h => h) rfl ?_ ?_
      · intro w'
        go_simp
        omega
      refine wpAnyG_pure (i := 6) (v := .string (⟨#[32]⟩ ++ a.1 ++ ⟨#[61, 34]⟩)) rfl (by kernel_rfl) (by kernel_rfl) (by kernel_rfl) (fun _ _ _ h => h) rfl ?_ ?_
      · intro w'
        go_simp
        omega
      refine wpAnyG_pure (i := 7) (v := ?_) rfl (by kernel_rfl) (by kernel_rfl) (by kernel_rfl) (fun _ _ _ h => h) rfl ?_ ?_
      rotate_left
      · intro w'
        first | (go_simp; done) | (go_simp; with_reducible rfl)
      refine wpAnyG_take (i := 8) (v := ?_) rfl (by kernel_rfl) (by kernel_rfl) (by kernel_rfl) (by kernel_rfl) (fun _ _ _ h => h) hS rfl ?_ ?_
      rotate_left
      · intro w' hSw
        (try dsimp only at hSw)
        first | (go_simp; done) | (go_simp; with_reducible rfl)
      clear hS
      refine wpAnyG_one (i := 9) (by kernel_rfl) rfl rfl (fun K hK => ?_)
      go_simp
      go_at_call 130
      refine HES.out.mono ?_
      rintro e' w6 ⟨rfl, hb6⟩
      have d0 := cell_be (w := w5.drew) a0 hb6
      have d1 := cell_be (w := w5.drew) a1 hb6
      have hb56 : Below w5.heap.size w5 w6 := (Below.refl _ w5).drew.trans hb6
      have HB6 := Lib.hid (hb56.mono HZ5.out)
      have HK6 := Lib.hid (WKeep.below hb56)
      have HX6 := Lib.hid (HK6.out.blk HX5.out (by decide))
      have HWS := Lib.hid (writeW E B (some ⟨b, o, none⟩) N c q (bs ++ ([60] ++ x.name.data.toList) ++ (x.attrs.take j).flatMap wrAttr) (⟨#[32]⟩ ++ a.1 ++ ⟨#[61, 34]⟩ ++ ev ++ ⟨#[34]⟩) w6 (HW5.out.next hb56) HLA.out (Nat.le_trans HZ5.out hb56.size))
      clear hb6 hb56 a0 a1
      go_wp2_with fail
      refine hK.out _ _ (fun _ _ => ⟨d0, d1⟩) ?_
      clear hK K
      refine wpAnyG_pure (i := 10) (v := .string (⟨#[32]⟩ ++ a.1 ++ ⟨#[61, 34]⟩ ++ ev)) rfl (by kernel_rfl) (by kernel_rfl) (by kernel_rfl) (fun _ _ _ h => h) rfl ?_ ?_
      · intro w'
        go_simp
        omega
      refine wpAnyG_pure (i := 11) (v := .string (⟨#[32]⟩ ++ a.1 ++ ⟨#[61, 34]⟩ ++ ev ++ ⟨#[34]⟩)) rfl (by kernel_rfl) (by kernel_rfl) (by kernel_rfl) (fun _ _ _ h => h) rfl ?_ ?_
      · intro w'
        go_simp
        omega
      refine wpAnyG_one (i := 12) (by kernel_rfl) rfl rfl (fun K hK => ?_)
      go_simp
      go_at_call 47
      refine HWS.out.mono ?_
      rintro e' w7 ⟨rfl, hw7, hb7, hk7⟩
      have hx7 := hk7.blk HX6.out (by decide)
      have d0 := cell_blk (i := 0) hx7 rfl
      have d1 := cell_blk (i := 1) hx7 rfl
      have HX7 := Lib.hid (show WRel W E B b o N c q (bs ++ ([60] ++ x.name.data.toList) ++ (x.attrs.take (j + 1)).flatMap wrAttr) w7 ∧ NBox W.heap.size x (some ⟨ba, oa, none⟩) x.attrs.length ca Ak x.kids.length ck w7 from ⟨⟨by rw [HSN2.out, HSN.out, ← List.append_assoc]; exact hw7, (HB5.out.trans HB6.out).trans hb7, (HK5.out.trans HK6.out).trans hk7⟩, (HXR.out.keep HK6.out).keep hk7⟩)
      clear hw7 hb7 hk7 hx7
      go_wp2_with fail
      refine hK.out _ _ (fun _ _ => ⟨d0, d1⟩) ?_
      clear hK K d0 d1
      refine wpAnyG_done (by kernel_rfl) ?_ _
      go_wp2_with fail
      go_roundw
      case rel => exact ⟨j + 1, by omega, by go_num, HX7⟩
      case measure => simp [intOf]; omega
    · have e : x.attrs.take j = x.attrs := List.take_of_length_le (by omega)
      rw [e] at hwr
      have HWR := Lib.hid hwr
      have HBR := Lib.hid hbr
      have HKR := Lib.hid hkr
      have HXR := Lib.hid hxr
      have HER := Lib.hid (HE.out.next hbr)
      have HWS := Lib.hid (writeW E B (some ⟨b, o, none⟩) N c q (bs ++ ([60] ++ x.name.data.toList) ++ x.attrs.flatMap wrAttr) ⟨#[62]⟩ wr hwr (by have h := HLEN.out; simp only [List.length_append, List.length_cons, List.length_nil, bytes_len]; show _ + 1 ≤ _; omega) HER.out.le)
      clear e HR g2 hwr hbr hkr hxr
      go_upto_region 8 with (go_at_call 47; refine HWS.out.mono ?_; rintro e' w8 ⟨rfl, hw8, hb8, hk8⟩)
      have HW8 := Lib.hid hw8
      have HB8 := Lib.hid (HBR.out.trans hb8)
      have HK8 := Lib.hid (HKR.out.trans hk8)
      have HX8 := Lib.hid (HXR.out.keep hk8)
      have HE8 := Lib.hid (HE.out.next HB8.out)
      have g1 := cell_blk (i := 1) HX8.out rfl
      have g5 := cell_blk (i := 5) HX8.out rfl
      have HVO := Lib.hid (void_any x.name m w8 (by omega) HE8.out.max)
      obtain ⟨P8, hP8⟩ : ∃ P8, bs ++ ([60] ++ x.name.data.toList) ++ x.attrs.flatMap wrAttr ++ [62] = P8 := ⟨_, rfl⟩
      have HP8 := Lib.hid hP8
      have hw8' : WrAt w8 E B (some ⟨b, o, none⟩) N c q P8 := by rw [← hP8]; exact hw8
      have HW8 := Lib.hid hw8'
      have HL8 : Hid (P8.length + (tailH l (htmlN l f) x).length ≤ 140737488355328) := by
        have h := HLEN.out
        rw [← hP8]
        simp only [List.length_append, List.length_cons, List.length_nil, bytes_len]
        show _ ≤ _
        omega
      have HFIN := Lib.hid (fun (wz : World) (hz : WrAt wz E B (some ⟨b, o, none⟩) N c q (P8 ++ tailH l (htmlN l f) x)) (hb : Below B w8 wz) (hk : WKeep w8 wz) => show SPost W E B b o N c q bs (elemH l (htmlN l f) x) (.returned (.tuple #[])) wz from ⟨rfl, by rw [← HP8.out] at hz; unfold elemH; simpa [List.append_assoc] using hz, HB8.out.trans hb, HK8.out.trans hk⟩)
      clear hw8 hw8' hb8 hk8 hP8 HWR HBR HKR HXR HER HWS HLEN HAT HAV
      by_cases hve : voidB x.name = true ∧ x.kids = []
      · have HT := Lib.hid (show tailH l (htmlN l f) x = [] from if_pos hve)
        have hkl : x.kids.length = 0 := by rw [hve.2]; rfl
        rw [hkl] at g5
        rw [hve.1] at HVO
        clear hve
        go_wp2_with (go_at_call 131; refine HVO.out.mono ?_; rintro e' w9 ⟨rfl, rfl⟩)
        refine bodyPost_ret (results_none rfl _ _ _) rfl ?_
        exact HFIN.out _ (by rw [HT.out, List.append_nil]; exact HW8.out) (Below.refl _ _) (WKeep.refl _)
      have HT := Lib.hid (show tailH l (htmlN l f) x = (if nlB l x then [10] else []) ++ x.kids.flatMap (htmlN l f) ++ ([60, 47] ++ x.name.data.toList ++ [62]) from if_neg hve)
      go_cut [55] (fun v wy => v = .bool false ∧ w8 = wy)
      case first =>
        cases hv : voidB x.name with
        | true =>
          rw [hv] at HVO
          have hk0 : 0 < x.kids.length := List.length_pos_iff.2 (fun h => hve ⟨hv, h⟩)
          have hkb : ((x.kids.length : Int) == 0) = false := beq_eq_false_iff_ne.2 (by omega)
          clear hve hv
          go_wp2_with (go_at_call 131; refine HVO.out.mono ?_; rintro e' w9 ⟨rfl, rfl⟩)
          go_meet
          case rel => exact ⟨rfl, rfl⟩
        | false =>
          rw [hv] at HVO
          clear hve hv
          go_wp2_with (go_at_call 131; refine HVO.out.mono ?_; rintro e' w9 ⟨rfl, rfl⟩)
          go_meet
          case rel => exact ⟨rfl, rfl⟩
      case rest =>
        obtain ⟨rfl, rfl⟩ := hcut
        clear hve HVO
        have e2 := HW8.out.d0
        go_upto_region 9 with fail
        go_cut [99] (fun v wy => v = .bool (nlB l x) ∧ Below w8.heap.size w8 wy)
        case first =>
          cases h1 : x.name.toList == (⟨#[112, 114, 101]⟩ : ByteArray).data.toList with
          | true =>
            have HPR := Lib.hid (show isPre x.name = true from by unfold isPre; rw [h1]; rfl)
            cases hks : x.kids with
            | nil =>
              have HNL := Lib.hid (show nlB l x = false from by unfold nlB; rw [hks])
              have hkl : x.kids.length = 0 := by rw [hks]; rfl
              rw [hkl] at g5
              clear hks hkl
              go_quiet (fail)
              generalize hwv : w8.drewN _ = wv
              have HBV : Hid (Below w8.heap.size w8 wv) := by rw [← hwv]; exact below_dN (Below.refl _ _) _
              clear hwv
              go_wp2_with fail
              go_meet
              case rel => exact ⟨by rw [HNL.out], HBV.out⟩
            | cons z r =>
              obtain ⟨p, rfl, hpl, _⟩ := HKI.out z (by rw [hks]; exact List.mem_cons_self)
              obtain ⟨y, hy⟩ : ∃ y, l[p]? = some y := get_some hpl
              obtain ⟨bk, ok, rfl, _, hck, _⟩ := (HKS.out.below HB8.out (Nat.le_refl _)).int (i := 0) (x := (p : Int)) (by rw [hks]; rfl)
              obtain ⟨_, _, _, _, _, _, _, q0, _, _, q3, _⟩ := HE8.out.doc.at_ p y hy
              have hpn : p < N := by have := HE8.out.doc.hn; omega
              have HHP := Lib.hid (fun u => Tryd.strings_HasPrefix y.text ⟨#[10]⟩ u)
              have HTX : Hid (txS l p = y.text ∧ kdS l p = y.kind) := ⟨by unfold txS; rw [nodeAt_nat, hy], by unfold kdS; rw [nodeAt_nat, hy]⟩
              have hkl : 0 < x.kids.length := by rw [hks]; exact Nat.succ_pos _
              have p1 : (0 : Int) ≤ (p : Int) := by omega
              have p2 : (p : Int) < (N : Int) := by omega
              have p3 : (0 : Int) < (x.kids.length : Int) := by omega
              have p4 : decide (0 < x.kids.length) = true := decide_eq_true hkl
              have HK0 := Lib.hid (show nlB l x = (isPre x.name && Lib.hasPrefix (txS l p).data.toList [10] && (kdS l p == 3)) from by unfold nlB; rw [hks])
              rw [Nat.add_zero] at hck
              cases hhp : Lib.hasPrefix y.text.data.toList (ByteArray.mk #[10]).data.toList with
              | false =>
                have HNL := Lib.hid (show nlB l x = false from by rw [HK0.out, HTX.out.1, show Lib.hasPrefix y.text.data.toList [10] = false from hhp]; simp)
                rw [hhp] at HHP
                clear hhp hks hy hpl hpn hkl
                generalize x.kids.length = K at *
                go_quiet ((go_at_call 25; exact Calls.quiet_of_same (HHP.out _)))
                generalize hwv : w8.drewN _ = wv
                have HBV : Hid (Below w8.heap.size w8 wv) := by rw [← hwv]; exact below_dN (Below.refl _ _) _
                clear hwv
                go_wp2_with fail
                go_meet
                case rel => exact ⟨by rw [HNL.out], HBV.out⟩
              | true =>
                rw [hhp] at HHP
                by_cases hk3 : y.kind = 3
                · have HNL := Lib.hid (show nlB l x = true from by rw [HK0.out, HTX.out.1, HTX.out.2, HPR.out, show Lib.hasPrefix y.text.data.toList [10] = true from hhp, hk3]; rfl)
                  rw [hk3] at q0
                  clear hhp hks hy hpl hpn hkl hk3
                  generalize x.kids.length = K at *
                  go_quiet ((go_at_call 25; exact Calls.quiet_of_same (HHP.out _)))
                  generalize hwv : w8.drewN _ = wv
                  have HBV : Hid (Below w8.heap.size w8 wv) := by rw [← hwv]; exact below_dN (Below.refl _ _) _
                  clear hwv
                  go_wp2_with fail
                  go_meet
                  case rel => exact ⟨by rw [HNL.out], HBV.out⟩
                · have HNL := Lib.hid (show nlB l x = false from by rw [HK0.out, HTX.out.2, show (y.kind == 3) = false from beq_eq_false_iff_ne.2 hk3]; simp)
                  have hk3b : (y.kind == 3) = false := beq_eq_false_iff_ne.2 hk3
                  clear hhp hks hy hpl hpn hkl hk3
                  generalize x.kids.length = K at *
                  go_quiet ((go_at_call 25; exact Calls.quiet_of_same (HHP.out _)))
                  generalize hwv : w8.drewN _ = wv
                  have HBV : Hid (Below w8.heap.size w8 wv) := by rw [← hwv]; exact below_dN (Below.refl _ _) _
                  clear hwv
                  go_wp2_with fail
                  go_meet
                  case rel => exact ⟨by rw [HNL.out], HBV.out⟩
          | false =>
            cases h2 : x.name.toList == (⟨#[116, 101, 120, 116, 97, 114, 101, 97]⟩ : ByteArray).data.toList with
            | true =>
              have HPR := Lib.hid (show isPre x.name = true from by unfold isPre; rw [h1, h2]; rfl)
              cases hks : x.kids with
              | nil =>
                have HNL := Lib.hid (show nlB l x = false from by unfold nlB; rw [hks])
                have hkl : x.kids.length = 0 := by rw [hks]; rfl
                rw [hkl] at g5
                clear hks hkl
                go_quiet (fail)
                generalize hwv : w8.drewN _ = wv
                have HBV : Hid (Below w8.heap.size w8 wv) := by rw [← hwv]; exact below_dN (Below.refl _ _) _
                clear hwv
                go_wp2_with fail
                go_meet
                case rel => exact ⟨by rw [HNL.out], HBV.out⟩
              | cons z r =>
                obtain ⟨p, rfl, hpl, _⟩ := HKI.out z (by rw [hks]; exact List.mem_cons_self)
                obtain ⟨y, hy⟩ : ∃ y, l[p]? = some y := get_some hpl
                obtain ⟨bk, ok, rfl, _, hck, _⟩ := (HKS.out.below HB8.out (Nat.le_refl _)).int (i := 0) (x := (p : Int)) (by rw [hks]; rfl)
                obtain ⟨_, _, _, _, _, _, _, q0, _, _, q3, _⟩ := HE8.out.doc.at_ p y hy
                have hpn : p < N := by have := HE8.out.doc.hn; omega
                have HHP := Lib.hid (fun u => Tryd.strings_HasPrefix y.text ⟨#[10]⟩ u)
                have HTX : Hid (txS l p = y.text ∧ kdS l p = y.kind) := ⟨by unfold txS; rw [nodeAt_nat, hy], by unfold kdS; rw [nodeAt_nat, hy]⟩
                have hkl : 0 < x.kids.length := by rw [hks]; exact Nat.succ_pos _
                have p1 : (0 : Int) ≤ (p : Int) := by omega
                have p2 : (p : Int) < (N : Int) := by omega
                have p3 : (0 : Int) < (x.kids.length : Int) := by omega
                have p4 : decide (0 < x.kids.length) = true := decide_eq_true hkl
                have HK0 := Lib.hid (show nlB l x = (isPre x.name && Lib.hasPrefix (txS l p).data.toList [10] && (kdS l p == 3)) from by unfold nlB; rw [hks])
                rw [Nat.add_zero] at hck
                cases hhp : Lib.hasPrefix y.text.data.toList (ByteArray.mk #[10]).data.toList with
                | false =>
                  have HNL := Lib.hid (show nlB l x = false from by rw [HK0.out, HTX.out.1, show Lib.hasPrefix y.text.data.toList [10] = false from hhp]; simp)
                  rw [hhp] at HHP
                  clear hhp hks hy hpl hpn hkl
                  generalize x.kids.length = K at *
                  go_quiet ((go_at_call 25; exact Calls.quiet_of_same (HHP.out _)))
                  generalize hwv : w8.drewN _ = wv
                  have HBV : Hid (Below w8.heap.size w8 wv) := by rw [← hwv]; exact below_dN (Below.refl _ _) _
                  clear hwv
                  go_wp2_with fail
                  go_meet
                  case rel => exact ⟨by rw [HNL.out], HBV.out⟩
                | true =>
                  rw [hhp] at HHP
                  by_cases hk3 : y.kind = 3
                  · have HNL := Lib.hid (show nlB l x = true from by rw [HK0.out, HTX.out.1, HTX.out.2, HPR.out, show Lib.hasPrefix y.text.data.toList [10] = true from hhp, hk3]; rfl)
                    rw [hk3] at q0
                    clear hhp hks hy hpl hpn hkl hk3
                    generalize x.kids.length = K at *
                    go_quiet ((go_at_call 25; exact Calls.quiet_of_same (HHP.out _)))
                    generalize hwv : w8.drewN _ = wv
                    have HBV : Hid (Below w8.heap.size w8 wv) := by rw [← hwv]; exact below_dN (Below.refl _ _) _
                    clear hwv
                    go_wp2_with fail
                    go_meet
                    case rel => exact ⟨by rw [HNL.out], HBV.out⟩
                  · have HNL := Lib.hid (show nlB l x = false from by rw [HK0.out, HTX.out.2, show (y.kind == 3) = false from beq_eq_false_iff_ne.2 hk3]; simp)
                    have hk3b : (y.kind == 3) = false := beq_eq_false_iff_ne.2 hk3
                    clear hhp hks hy hpl hpn hkl hk3
                    generalize x.kids.length = K at *
                    go_quiet ((go_at_call 25; exact Calls.quiet_of_same (HHP.out _)))
                    generalize hwv : w8.drewN _ = wv
                    have HBV : Hid (Below w8.heap.size w8 wv) := by rw [← hwv]; exact below_dN (Below.refl _ _) _
                    clear hwv
                    go_wp2_with fail
                    go_meet
                    case rel => exact ⟨by rw [HNL.out], HBV.out⟩
            | false =>
              have HNL := Lib.hid (show nlB l x = false from by unfold nlB; cases x.kids with | nil => rfl | cons z r => show (isPre x.name && _ && _) = false; unfold isPre; rw [h1, h2]; rfl)
              go_quiet (fail)
              generalize hwv : w8.drewN _ = wv
              have HBV : Hid (Below w8.heap.size w8 wv) := by rw [← hwv]; exact below_dN (Below.refl _ _) _
              clear hwv
              go_wp2_with fail
              go_meet
              case rel => exact ⟨by rw [HNL.out], HBV.out⟩
        case rest =>
          obtain ⟨rfl, hbc⟩ := hcut
          have HB9 := Lib.hid hbc
          obtain ⟨w9, rfl⟩ : ∃ w9 : World, w9 = wc := ⟨_, rfl⟩
          have HW9 := Lib.hid (HW8.out.next hbc)
          have HK9 := Lib.hid (WKeep.below hbc)
          have HBB9 := Lib.hid (hbc.mono HE8.out.le)
          clear hbc g1 g5 e2
          have HX9 := Lib.hid (HX8.out.keep HK9.out)
          have HE9 := Lib.hid (HE8.out.next HBB9.out)
          cases hnl : nlB l x with
          | true =>
            have HNL := Lib.hid hnl
            have HTT := Lib.hid (show tailH l (htmlN l f) x = [10] ++ x.kids.flatMap (htmlN l f) ++ ([60, 47] ++ x.name.data.toList ++ [62]) from by rw [HT.out, hnl]; rfl)
            have HWS := Lib.hid (writeW E B (some ⟨b, o, none⟩) N c q P8 ⟨#[10]⟩ w9 HW9.out (by have h := HL8.out; rw [HTT.out] at h; simp only [List.length_append, List.length_cons, List.length_nil] at h; show _ + 1 ≤ _; omega) HE9.out.le)
            clear hnl
            go_upto_region 11 with (go_at_call 47; refine HWS.out.mono ?_; rintro e' w10 ⟨rfl, hw10, hb10, hk10⟩)
            have HWa := Lib.hid (show WrAt w10 E B (some ⟨b, o, none⟩) N c q (P8 ++ [10]) from hw10)
            have HBa := Lib.hid (HBB9.out.trans hb10)
            have HKa := Lib.hid (HK9.out.trans hk10)
            have HXa := Lib.hid (HX9.out.keep hk10)
            have HEa := Lib.hid (HE9.out.next hb10)
            clear hw10 hb10 hk10 HWS
            have HKI2 := Lib.hid (HKD.out (P8 ++ [10]) _ HEa.out HWa.out (by have h := HL8.out; rw [HTT.out] at h; simp only [List.length_append, List.length_cons, List.length_nil] at h ⊢; omega))
            go_upto_region 12 with (go_at_call 86; refine HKI2.out.mono ?_; rintro e' w11 ⟨rfl, hw11, hb11, hk11⟩)
            have HW11 := Lib.hid hw11
            have HB11 := Lib.hid (HBa.out.trans hb11)
            have HK11 := Lib.hid (HKa.out.trans hk11)
            have HX11 := Lib.hid (HXa.out.keep hk11)
            have HE11 := Lib.hid (HEa.out.next hb11)
            clear hw11 hb11 hk11 HKI2
            have g1 := cell_blk (i := 1) HX11.out rfl
            have HC12 := Lib.hid (fun (u : World) (hb : Below w11.heap.size w11 u) => writeW E B (some ⟨b, o, none⟩) N c q (P8 ++ [10] ++ x.kids.flatMap (htmlN l f)) (⟨#[60, 47]⟩ ++ x.name ++ ⟨#[62]⟩) u (HW11.out.next hb) (by have h := HL8.out; rw [HTT.out] at h; simp only [List.length_append, List.length_cons, List.length_nil, bytes_len, ByteArray.size_append] at h ⊢; show _ + (2 + x.name.size + 1) ≤ _; omega) (Nat.le_trans HE11.out.le hb.size))
            refine wp_region_G (S := fun w' : World => w'.cell? ⟨W.heap.size, 1, none⟩ = some (.string x.name)) (T := []) (by kernel_rfl) ?_
            have hS : (fun w' : World => w'.cell? ⟨W.heap.size, 1, none⟩ = some (.string x.name)) w11.drew := g1
            refine wpAnyG_pure (i := 0) (v := ?_) rfl (by kernel_rfl) (by kernel_rfl) (by kernel_rfl) (fun _ _ _ h => h) rfl ?_ ?_
            rotate_left
            · intro w'
              first | (go_simp; done) | (go_simp; with_reducible rfl)
            refine wpAnyG_pure (i := 1) (v := ?_) rfl (by kernel_rfl) (by kernel_rfl) (by kernel_rfl) (fun _ _ _ h => h) rfl ?_ ?_
            rotate_left
            · intro w'
              first | (go_simp; done) | (go_simp; with_reducible rfl)
            refine wpAnyG_pure (i := 2) (v := ?_) rfl (by kernel_rfl) (by kernel_rfl) (by kernel_rfl) (fun _ _ _ h => h) rfl ?_ ?_
            rotate_left
            · intro w'
              first | (go_simp; done) | (go_simp; with_reducible rfl)
            refine wpAnyG_pure (i := 3) (v := ?_) rfl (by kernel_rfl) (by kernel_rfl) (by kernel_rfl) (fun _ _ _ h => h) rfl ?_ ?_
            rotate_left
            · intro w'
              first | (go_simp; done) | (go_simp; with_reducible rfl)
            refine wpAnyG_take (i := 4) (v := ?_) rfl (by kernel_rfl) (by kernel_rfl) (by kernel_rfl) (by kernel_rfl) (fun _ _ _ h => h) hS rfl ?_ ?_
            rotate_left
            · intro w' hSw
              (try dsimp only at hSw)
              first | (go_simp; done) | (go_simp; with_reducible rfl)
            refine wpAnyG_pure (i := 5) (v := .string (⟨#[60, 47]⟩ ++ x.name)) rfl (by kernel_rfl) (by kernel_rfl) (by kernel_rfl) (fun _ _ _ h => h) rfl ?_ ?_
            · intro w'
              go_simp
              omega
            refine wpAnyG_pure (i := 6) (v := .string (⟨#[60, 47]⟩ ++ x.name ++ ⟨#[62]⟩)) rfl (by kernel_rfl) (by kernel_rfl) (by kernel_rfl) (fun _ _ _ h => h) rfl ?_ ?_
            · intro w'
              go_simp
              omega
            clear hS
            refine wpAnyG_one (i := 7) (by kernel_rfl) rfl rfl (fun K hK => ?_)
            go_simp
            go_at_call 47
            refine (HC12.out w11.drew (Below.refl _ w11).drew).mono ?_
            rintro e' w12 ⟨rfl, hw, hb, hk⟩
            have s0 := cell_blk (i := 1) (HX11.out.keep ((WKeep.below (Below.refl _ w11).drew).trans hk)) rfl
            have HW := Lib.hid hw
            have HB := Lib.hid (((Below.refl B w11).drew).trans hb)
            have HK := Lib.hid ((WKeep.below (Below.refl _ w11).drew).trans hk)
            clear hw hb hk
            go_wp2_with fail
            refine hK.out _ _ (fun _ _ => s0) ?_
            clear hK K s0
            refine wpAnyG_done (by kernel_rfl) ?_ _
            have HF := Lib.hid (HFIN.out w12 (by rw [HTT.out]; simpa [bytes_app, List.append_assoc] using HW.out) (HB11.out.trans HB.out) (HK11.out.trans HK.out))
            clear HW HB HK g1 HC12
            go_wp2_with fail
            go_end0
            exact HF.out
          | false =>
            have HTT := Lib.hid (show tailH l (htmlN l f) x = [] ++ x.kids.flatMap (htmlN l f) ++ ([60, 47] ++ x.name.data.toList ++ [62]) from by rw [HT.out, hnl]; rfl)
            have HWa := Lib.hid (show WrAt w9 E B (some ⟨b, o, none⟩) N c q (P8 ++ []) from by rw [List.append_nil]; exact HW9.out)
            have HBa := HBB9
            have HKa := HK9
            have HXa := HX9
            have HEa := HE9
            clear hnl
            go_upto_region 11 with fail
            have HKI2 := Lib.hid (HKD.out (P8 ++ []) _ HEa.out HWa.out (by have h := HL8.out; rw [HTT.out] at h; simp only [List.length_append, List.length_cons, List.length_nil] at h ⊢; omega))
            go_upto_region 12 with (go_at_call 86; refine HKI2.out.mono ?_; rintro e' w11 ⟨rfl, hw11, hb11, hk11⟩)
            have HW11 := Lib.hid hw11
            have HB11 := Lib.hid (HBa.out.trans hb11)
            have HK11 := Lib.hid (HKa.out.trans hk11)
            have HX11 := Lib.hid (HXa.out.keep hk11)
            have HE11 := Lib.hid (HEa.out.next hb11)
            clear hw11 hb11 hk11 HKI2
            have g1 := cell_blk (i := 1) HX11.out rfl
            have HC12 := Lib.hid (fun (u : World) (hb : Below w11.heap.size w11 u) => writeW E B (some ⟨b, o, none⟩) N c q (P8 ++ [] ++ x.kids.flatMap (htmlN l f)) (⟨#[60, 47]⟩ ++ x.name ++ ⟨#[62]⟩) u (HW11.out.next hb) (by have h := HL8.out; rw [HTT.out] at h; simp only [List.length_append, List.length_cons, List.length_nil, bytes_len, ByteArray.size_append] at h ⊢; show _ + (2 + x.name.size + 1) ≤ _; omega) (Nat.le_trans HE11.out.le hb.size))
            refine wp_region_G (S := fun w' : World => w'.cell? ⟨W.heap.size, 1, none⟩ = some (.string x.name)) (T := []) (by kernel_rfl) ?_
            have hS : (fun w' : World => w'.cell? ⟨W.heap.size, 1, none⟩ = some (.string x.name)) w11.drew := g1
            refine wpAnyG_pure (i := 0) (v := ?_) rfl (by kernel_rfl) (by kernel_rfl) (by kernel_rfl) (fun _ _ _ h => h) rfl ?_ ?_
            rotate_left
            · intro w'
              first | (go_simp; done) | (go_simp; with_reducible rfl)
            refine wpAnyG_pure (i := 1) (v := ?_) rfl (by kernel_rfl) (by kernel_rfl) (by kernel_rfl) (fun _ _ _ h => h) rfl ?_ ?_
            rotate_left
            · intro w'
              first | (go_simp; done) | (go_simp; with_reducible rfl)
            refine wpAnyG_pure (i := 2) (v := ?_) rfl (by kernel_rfl) (by kernel_rfl) (by kernel_rfl) (fun _ _ _ h => h) rfl ?_ ?_
            rotate_left
            · intro w'
              first | (go_simp; done) | (go_simp; with_reducible rfl)
            refine wpAnyG_pure (i := 3) (v := ?_) rfl (by kernel_rfl) (by kernel_rfl) (by kernel_rfl) (fun _ _ _ h => h) rfl ?_ ?_
            rotate_left
            · intro w'
              first | (go_simp; done) | (go_simp; with_reducible rfl)
            refine wpAnyG_take (i := 4) (v := ?_) rfl (by kernel_rfl) (by kernel_rfl) (by kernel_rfl) (by kernel_rfl) (fun _ _ _ h => h) hS rfl ?_ ?_
            rotate_left
            · intro w' hSw
              (try dsimp only at hSw)
              first | (go_simp; done) | (go_simp; with_reducible rfl)
            refine wpAnyG_pure (i := 5) (v := .string (⟨#[60, 47]⟩ ++ x.name)) rfl (by kernel_rfl) (by kernel_rfl) (by kernel_rfl) (fun _ _ _ h => h) rfl ?_ ?_
            · intro w'
              go_simp
              omega
            refine wpAnyG_pure (i := 6) (v := .string (⟨#[60, 47]⟩ ++ x.name ++ ⟨#[62]⟩)) rfl (by kernel_rfl) (by kernel_rfl) (by kernel_rfl) (fun _ _ _ h => h) rfl ?_ ?_
            · intro w'
              go_simp
              omega
            clear hS
            refine wpAnyG_one (i := 7) (by kernel_rfl) rfl rfl (fun K hK => ?_)
            go_simp
            go_at_call 47
            refine (HC12.out w11.drew (Below.refl _ w11).drew).mono ?_
            rintro e' w12 ⟨rfl, hw, hb, hk⟩
            have s0 := cell_blk (i := 1) (HX11.out.keep ((WKeep.below (Below.refl _ w11).drew).trans hk)) rfl
            have HW := Lib.hid hw
            have HB := Lib.hid (((Below.refl B w11).drew).trans hb)
            have HK := Lib.hid ((WKeep.below (Below.refl _ w11).drew).trans hk)
            clear hw hb hk
            go_wp2_with fail
            refine hK.out _ _ (fun _ _ => s0) ?_
            clear hK K s0
            refine wpAnyG_done (by kernel_rfl) ?_ _
            have HF := Lib.hid (HFIN.out w12 (by rw [HTT.out]; simpa [bytes_app, List.append_assoc] using HW.out) (HB11.out.trans HB.out) (HK11.out.trans HK.out))
            clear HW HB HK g1 HC12
            go_wp2_with fail
            go_end0
            exact HF.out
end
end Go.Proofs.YtfgmfmkibjfknaaDoor
