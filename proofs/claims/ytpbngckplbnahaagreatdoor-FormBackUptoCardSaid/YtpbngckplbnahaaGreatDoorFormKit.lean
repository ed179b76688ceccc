/-
Forms: the walks of has, attr, above, named.
-/
import Derived.Test.YtpbngckplbnahaaGreatDoorFormLaw
import Derived.Test.YtpbngckplbnahaaGreatDoorEdDocs
import Derived.Test.YtpbngckplbnahaaGreatDoorShelf2
import Derived.Deep.DeepCutAuto
import Derived.Deep.DeepMust
namespace Go.Proofs.YtpbngckplbnahaaGreatDoor
open Go.RowKit Go.Cl
attribute [local go_sem ↓] Go.wp_at_zero Go.wp_at_succ

theorem bst {a b c : World} (h1 : Below a.heap.size a b) (h2 : Below b.heap.size b c) : Below a.heap.size a c := h1.trans (h2.mono h1.size)
theorem balloc {a b : World} (h : Below a.heap.size a b) (o : Obj) : Below a.heap.size a (b.alloc o) := h.alloc h.size o
/-! ### dom.Has, dom.Of -/
theorem hasD_any (A : Option Addr) (n c : Nat) (l : List DAttr) (nm : ByteArray) (w : World) (B : Nat) (hl : Sl tDA w (lt B) A n c l) (hB : B ≤ w.heap.size) :
    Calls Tryz.prog 110 #[.slice A n c, .string nm] w fun e w' => e = .returned (.bool (hasA l nm)) ∧ Below w.heap.size w w' := by
  have HF := Lib.hid (find_dom A n c l nm w B hl hB)
  have hge : decide ((0 : Int) ≤ findA l nm) = hasA l nm := rfl
  go_enter Tryz.func110, Tryz.ntmps110
  go_wp2_with (go_at_call 56; refine HF.out.mono ?_; rintro e w1 ⟨rfl, hb1⟩)
  go_ret
  exact ⟨by rw [← hge]; rfl, hb1⟩
theorem da_get {w : World} {D : Nat → Prop} {A : Option Addr} {n c : Nat} {l : List DAttr} (h : Sl tDA w D A n c l) {i : Nat} {a : DAttr} (ha : l[i]? = some a) :
    ∃ g o, A = some ⟨g, o, none⟩ ∧ D g ∧ w.cell? ⟨g, o + i * 2, none⟩ = some (.string a.1) ∧ w.cell? ⟨g, o + i * 2 + 1, none⟩ = some (.string a.2) ∧ a.1.size ≤ 1152921504606846976 ∧ a.2.size ≤ 1152921504606846976 := by
  obtain ⟨g, o, cs, rfl, hD, hr, hc⟩ := h.get ha
  obtain ⟨_, _, rfl, ⟨rfl, h1⟩, rfl, h2⟩ := hr
  exact ⟨g, o, rfl, hD, hc 0 _ rfl, by rw [Nat.add_assoc]; exact hc 1 _ rfl, h1, h2⟩
set_option maxRecDepth 100000 in
theorem of_any (A : Option Addr) (n c : Nat) (l : List DAttr) (nm : ByteArray) (w : World) (B : Nat) (hl : Sl tDA w (lt B) A n c l) (hB : B ≤ w.heap.size) :
    Calls Tryz.prog 67 #[.slice A n c, .string nm] w fun e w' => e = .returned (.string (ofA l nm)) ∧ Below w.heap.size w w' := by
  have HF := Lib.hid (find_dom A n c l nm w B hl hB)
  have HL := Lib.hid hl.hn
  rcases findA_is l nm with h1 | ⟨i, a, h1, ha⟩
  · have HR := Lib.hid (show ofA l nm = ⟨#[]⟩ from if_pos (by omega))
    rw [h1] at HF
    clear h1 hl
    go_enter Tryz.func67, Tryz.ntmps67
    go_wp2_with (go_at_call 56; refine HF.out.mono ?_; rintro e w1 ⟨rfl, hb⟩)
    go_ret
    exact ⟨by rw [HR.out]; rfl, hb⟩
  · have HR := Lib.hid (show ofA l nm = a.2 from by unfold ofA; rw [if_neg (by omega), h1, Int.toNat_natCast, ha]; rfl)
    rw [h1] at HF
    obtain ⟨b, o, rfl, hD, _, c2, _, _⟩ := da_get hl ha
    have i1 : (0 : Int) ≤ (i : Int) := by omega
    have i2 : (i : Int) < (n : Int) := by have := HL.out; have := (List.getElem?_eq_some_iff.1 ha).1; omega
    have HC := Lib.hid (show ∀ W, Below w.heap.size w W → W.cell? ⟨b, o + i * 2 + 1, none⟩ = some (.string a.2) from fun W hW => cell_be c2 hW)
    clear h1 hl ha c2
    go_enter Tryz.func67, Tryz.ntmps67
    go_wp2_with (go_at_call 56; refine HF.out.mono ?_; rintro e w1 ⟨rfl, hb⟩; have c2 := HC.out w1 hb)
    go_ret
    exact ⟨by rw [HR.out]; rfl, hb⟩

/-! ### the forms of a document, in their box -/
/-- What the library's searching and mapping functions read. -/
structure Env (w : World) : Prop where
  tabs : Lib.Utf8Tabs (Tryz.lays230_ren.g 3) (Tryz.lays230_ren.g 4) w
  mx : ∃ m : Int, w.cell? ⟨0, 0, none⟩ = some (.int .i64 m)
theorem Env.below {w w' : World} (h : Env w) (hb : Below w.heap.size w w') : Env w' := ⟨Utf8Tabs_below h.tabs hb, by obtain ⟨m, hm⟩ := h.mx; exact ⟨m, cell_be hm hb⟩⟩
structure Fm (w : World) (B F : Nat) (A : Option Addr) (n c : Nat) (q : Bool) (O : Option Addr) (m k : Nat) (l : List Nd) (ord : List Int) : Prop where
  box : w.heap[F]? = some (.cells #[.slice A n c, .bool q, .slice O m k] 76 (0, 0))
  doc : Sl tNd w (lt B) A n c l
  ord : Sl (tInt .i64) w (lt B) O m k ord
  le : B ≤ w.heap.size
  env : Env w
section
variable {w w' : World} {B F : Nat} {A : Option Addr} {n c : Nat} {q : Bool} {O : Option Addr} {m k : Nat} {l : List Nd} {ord : List Int}
theorem Fm.lo (h : Fm w B F A n c q O m k l ord) : F < w.heap.size := (Array.getElem?_eq_some_iff.1 h.box).1
theorem Fm.below (h : Fm w B F A n c q O m k l ord) (hb : Below w.heap.size w w') : Fm w' B F A n c q O m k l ord :=
  ⟨(hb.block F h.lo).trans h.box, h.doc.below hb h.le, h.ord.below hb h.le, Nat.le_trans h.le hb.size, h.env.below hb⟩
theorem Fm.c0 (h : Fm w B F A n c q O m k l ord) : w.cell? ⟨F, 0, none⟩ = some (.slice A n c) := cell_blk h.box rfl
theorem Fm.c2 (h : Fm w B F A n c q O m k l ord) : w.cell? ⟨F, 2, none⟩ = some (.slice O m k) := cell_blk h.box rfl
theorem Fm.at_ (h : Fm w B F A n c q O m k l ord) {i : Nat} {x : Nd} (hx : l[i]? = some x) : ∃ b o, A = some ⟨b, o, none⟩ ∧ (i : Int) < (n : Int) ∧ ∃ Aa na ca Ak nk ck, NdAt w (lt B) x Aa na ca Ak nk ck ∧ w.cell? ⟨b, o + i * 6, none⟩ = some (.int .i64 x.kind) ∧ w.cell? ⟨b, o + i * 6 + 1, none⟩ = some (.string x.name) ∧ w.cell? ⟨b, o + i * 6 + 2, none⟩ = some (.slice Aa na ca) ∧ w.cell? ⟨b, o + i * 6 + 3, none⟩ = some (.string x.text) ∧ w.cell? ⟨b, o + i * 6 + 4, none⟩ = some (.int .i64 x.parent) ∧ w.cell? ⟨b, o + i * 6 + 5, none⟩ = some (.slice Ak nk ck) := by
  have hl := (List.getElem?_eq_some_iff.1 hx).1
  have hn := h.doc.hn
  obtain ⟨b, o, rfl, hD⟩ := doc_at h.doc (by omega)
  obtain ⟨Aa, na, ca, Ak, nk, ck, r⟩ := hD.at_ i x hx
  exact ⟨b, o, rfl, by omega, Aa, na, ca, Ak, nk, ck, r⟩
set_option maxRecDepth 100000 in
theorem has_f (h : Fm w B F A n c q O m k l ord) {i : Nat} (hi : i < l.length) (nm : ByteArray) :
    Calls Tryz.prog 61 #[.pointer (some ⟨F, 0, none⟩), .int .i64 (i : Int), .string nm] w fun e w' => e = .returned (.bool (hasF l i nm)) ∧ Below w.heap.size w w' := by
  obtain ⟨x, hx⟩ := get_some hi
  obtain ⟨b, o, rfl, i2, Aa, na, ca, Ak, nk, ck, hnd, p0, p1, p2, p3, p4, p5⟩ := h.at_ hx
  have HH := Lib.hid (hasD_any Aa na ca x.attrs nm w B hnd.attrs h.le)
  have HR := Lib.hid (show hasF l i nm = hasA x.attrs nm from by unfold hasF; rw [atD_at hx])
  have c0 := h.c0
  have i1 : (0 : Int) ≤ (i : Int) := by omega
  clear h hx hi hnd p0 p1 p3 p4 p5
  go_enter Tryz.func61, Tryz.ntmps61
  go_wp2_with (go_at_call 110; refine HH.out.mono ?_; rintro e w1 ⟨rfl, hb⟩)
  go_ret
  exact ⟨by rw [HR.out]; rfl, hb⟩
set_option maxRecDepth 100000 in
theorem attr_f (h : Fm w B F A n c q O m k l ord) {i : Nat} (hi : i < l.length) (nm : ByteArray) :
    Calls Tryz.prog 31 #[.pointer (some ⟨F, 0, none⟩), .int .i64 (i : Int), .string nm] w fun e w' => e = .returned (.string (attrF l i nm)) ∧ Below w.heap.size w w' := by
  obtain ⟨x, hx⟩ := get_some hi
  obtain ⟨b, o, rfl, i2, Aa, na, ca, Ak, nk, ck, hnd, p0, p1, p2, p3, p4, p5⟩ := h.at_ hx
  have HH := Lib.hid (of_any Aa na ca x.attrs nm w B hnd.attrs h.le)
  have HR := Lib.hid (show attrF l i nm = ofA x.attrs nm from by unfold attrF; rw [atD_at hx])
  have c0 := h.c0
  have i1 : (0 : Int) ≤ (i : Int) := by omega
  clear h hx hi hnd p0 p1 p3 p4 p5
  go_enter Tryz.func31, Tryz.ntmps31
  go_wp2_with (go_at_call 67; refine HH.out.mono ?_; rintro e w1 ⟨rfl, hb⟩)
  go_ret
  exact ⟨by rw [HR.out]; rfl, hb⟩
/-- Ask a function value of each node. -/
def Asks (g : Nat) (lb : Array Value) (p : Int → Bool) (l : List Nd) (w : World) : Prop :=
  ∀ (W : World) (i : Nat), i < l.length → Below w.heap.size w W → Calls Tryz.prog g (#[.int .i64 (i : Int)] ++ lb) W fun e w' => e = .returned (.bool (p i)) ∧ Below W.heap.size W w'
set_option maxRecDepth 100000 in
set_option maxHeartbeats 4000000 in
theorem above_f (T : Tree l) (h : Fm w B F A n c q O m k l ord) {i : Nat} (hi : i < l.length) (g : Nat) (lb : Array Value) (eg : ∀ args w, (callFunc g args).run Tryz.prog w = .ok (.enter g args) w) (p : Int → Bool) (hp : Asks g lb p l w) :
    Calls Tryz.prog 62 #[.pointer (some ⟨F, 0, none⟩), .int .i64 (i : Int), .func (.func g) #[] lb] w fun e w' => e = .returned (.int .i64 (aboveF l p i)) ∧ Below w.heap.size w w' := by
  obtain ⟨x, hx⟩ := get_some hi
  obtain ⟨b, o, rfl, i2, Aa, na, ca, Ak, nk, ck, hnd, p0, p1, p2, p3, p4, p5⟩ := h.at_ hx
  have i1 : (0 : Int) ≤ (i : Int) := by omega
  have c0 := h.c0
  have HF := Lib.hid h
  have HP := Lib.hid hp
  have hz : (x.parent = -1 ∨ ∃ j : Nat, x.parent = (j : Int) ∧ j < l.length) ∧ ((chainR l x.parent).find? p).getD (-1) = aboveF l p i := by
    rw [← parD_at hx]
    refine ⟨?_, rfl⟩
    rcases T.par hi with e | ⟨j, e, hj, _⟩
    · exact .inl e
    · exact .inr ⟨j, e, hj⟩
  have HZ := Lib.hid hz
  have HT := Lib.hid T
  clear h hx hi hnd p0 p1 p2 p3 p5 hp hz T
  go_enter Tryz.func62, Tryz.ntmps62
  go_upto_region 2 with fail
  go_loopw [1] (fun s wr => ∃ z : Int, s = .int .i64 z ∧ Hid ((z = -1 ∨ ∃ j : Nat, z = (j : Int) ∧ j < l.length) ∧ ((chainR l z).find? p).getD (-1) = aboveF l p i) ∧ Hid (Below w.heap.size w wr)) (fun s _ => (chainR l (intOf s)).length)
  case atStart => exact ⟨x.parent, rfl, HZ, Lib.hid (Below.refl _ _)⟩
  case round =>
    obtain ⟨z, rfl, HA, HB⟩ := hrel
    rcases HA.out.1 with h1 | ⟨j, h1, hj⟩
    · subst h1
      go_wp2_with fail
      go_ret
      exact ⟨by rw [← HA.out.2, chain_end]; rfl, HB.out⟩
    · subst h1
      obtain ⟨y, hy⟩ := get_some hj
      have HC := Lib.hid (HP.out wr j hj HB.out)
      have HFR := Lib.hid (fun W (hW : Below wr.heap.size wr W) => ((HF.out.below HB.out).below hW))
      have HY := Lib.hid hy
      have HCS := Lib.hid (HT.out.chain_step hj)
      have i3 : (0 : Int) ≤ (j : Int) := by omega
      have i4 : (j : Int) < (n : Int) := by have := HF.out.doc.hn; omega
      have HJ : Hid (j < l.length) := hj
      clear hj hy
      obtain ⟨pb, hpb⟩ : ∃ pb, p (j : Int) = pb := ⟨_, rfl⟩
      have HPB := Lib.hid hpb
      rw [hpb] at HC
      clear hpb
      cases pb with
      | true =>
        go_wp2_with (go_at_fn g; go_must (refine HC.out.mono ?_; rintro e w1 ⟨rfl, hb⟩))
        go_ret
        refine ⟨?_, HB.out.trans (hb.mono HB.out.size)⟩
        rw [← HA.out.2, HCS.out, List.find?_cons_of_pos HPB.out]
        rfl
      | false =>
        go_upto_region 3 with (go_at_fn g; go_must (refine HC.out.mono ?_; rintro e w1 ⟨rfl, hb⟩))
        obtain ⟨b', o', e', _, Aa', na', ca', Ak', nk', ck', _, _, _, _, _, d4, _⟩ := (HFR.out w1 hb).at_ HY.out
        injection e' with e'
        injection e' with e1 e2 _
        subst e1 e2
        have d0 := (HFR.out w1 hb).c0
        have HB1 := Lib.hid (HB.out.trans (hb.mono HB.out.size))
        clear hb
        go_wp2_with fail
        go_roundw
        case rel =>
          refine ⟨y.parent, rfl, Lib.hid ?_, HB1⟩
          rw [← parD_at HY.out]
          refine ⟨?_, ?_⟩
          · rcases HT.out.par HJ.out with e | ⟨j2, e, hj2, _⟩
            · exact .inl e
            · exact .inr ⟨j2, e, hj2⟩
          · rw [← HA.out.2, HCS.out, List.find?_cons_of_neg (by rw [HPB.out]; simp)]
        case measure =>
          simp only [intOf]
          rw [HCS.out, parD_at HY.out]
          simp
end
end Go.Proofs.YtpbngckplbnahaaGreatDoor
