/-
The words of a node, list by list.
-/
import Derived.Test.YtomleengbnfikaaGreatDoorIdxWords
namespace Go.Proofs.YtomleengbnfikaaGreatDoor
open Go.RowKit Go.Cl
attribute [local go_sem ↓] Go.wp_at_zero Go.wp_at_succ

def idB : ByteArray := (⟨#[105, 100]⟩ : ByteArray)
def classB : ByteArray := (⟨#[99, 108, 97, 115, 115]⟩ : ByteArray)
def nameB : ByteArray := (⟨#[110, 97, 109, 101]⟩ : ByteArray)
/-- A node's words, for each list. -/
def wordsP (x : Nd) : List (List ByteArray) := if x.kind = 2 then [oneW (ofA x.attrs idB), wordsL (ofA x.attrs classB), [x.name], oneW (ofA x.attrs nameB)] else [[], [], [], []]
def WWPost (w : World) (ws : List (List ByteArray)) (e : Ending) (w' : World) : Prop :=
  Below w.heap.size w w' ∧ ∃ A c, e = .returned (.slice A ws.length c) ∧ Sl (tSlice tStr) w' (frD w.heap.size w'.heap.size) A ws.length c ws
theorem bstep {a b c : World} (h1 : Below a.heap.size a b) (h2 : Below b.heap.size b c) : Below a.heap.size a c := h1.trans (h2.mono h1.size)
theorem balloc {a b : World} (h : Below a.heap.size a b) (o : Obj) : Below a.heap.size a (b.alloc o) := h.alloc h.size o
theorem bdrew {a b : World} (h : Below a.heap.size a b) : Below a.heap.size a b.drew := h.drew

theorem Sl.upW {α : Type} {T : Ty α} {w p wi W : World} {A : Option Addr} {n c : Nat} {xs : List α} (h : Sl T wi (frD p.heap.size wi.heap.size) A n c xs) (h1 : Below w.heap.size w p) (h2 : Below wi.heap.size wi W) : Sl T W (frD w.heap.size W.heap.size) A n c xs :=
  Sl.fr h h2 (Nat.le_refl _) h1.size h2.size
/-- A fresh row of cells. -/
theorem Sl.row_new {α : Type} {T : Ty α} {w : World} {lo : Nat} {xs : List α} {cells : List Value} (e : TypeId) (hr : Row T w (frD lo w.heap.size) xs cells) (hlo : lo ≤ w.heap.size) (n : Nat) (hn : n = xs.length) (hb : n * T.bytes ≤ 140737488355328) :
    Sl T (w.alloc (.cells cells.toArray e)) (frD lo (w.alloc (.cells cells.toArray e)).heap.size) (some ⟨w.heap.size, 0, none⟩) n n xs :=
  ⟨hn, Nat.le_refl _, hb, by have := Nat.mul_le_mul_left n T.pos; unfold maxLen; omega, by simp, fun _ => ⟨w.heap.size, 0, cells, rfl, ⟨hlo, by rw [World.size_alloc]; exact Nat.lt_succ_self _⟩,
    (hr.keep fun p hp => World.cell?_alloc_lt w _ p hp.2).more fun b hb => ⟨hb.1, by rw [World.size_alloc]; exact Nat.lt_succ_of_lt hb.2⟩,
    fun j u hu => by
      rw [cell_of_row _ w.heap.size _ cells.toArray e (0, 0) (heap_alloc_new w _)]
      simpa using hu⟩⟩
theorem one_new_fr (w : World) (s : ByteArray) (hs : s.size ≤ 1152921504606846976) : Sl tStr (w.alloc (.cells #[.string s] 9)) (frD w.heap.size (w.alloc (.cells #[.string s] 9)).heap.size) (some ⟨w.heap.size, 0, none⟩) 1 1 [s] :=
  Sl.row_new (T := tStr) (w := w) (lo := w.heap.size) (xs := [s]) (cells := [.string s]) 9 ⟨[.string s], [], rfl, ⟨rfl, hs⟩, rfl⟩ (Nat.le_refl _) 1 rfl (by decide)
theorem ww_close {w W : World} {ws : List (List ByteArray)} {a b d e : List ByteArray} (hws : ws = [a, b, d, e]) {A1 A2 A3 A4 : Option Addr} {n1 n2 n3 n4 c1 c2 c3 c4 : Nat} (hb : Below w.heap.size w W)
    (h1 : Sl tStr W (frD w.heap.size W.heap.size) A1 n1 c1 a) (h2 : Sl tStr W (frD w.heap.size W.heap.size) A2 n2 c2 b) (h3 : Sl tStr W (frD w.heap.size W.heap.size) A3 n3 c3 d) (h4 : Sl tStr W (frD w.heap.size W.heap.size) A4 n4 c4 e) {en : Ending} (hen : en = .returned (.slice (some ⟨W.heap.size, 0, none⟩) 4 4)) :
    WWPost w ws en (W.alloc (.cells #[.slice A1 n1 c1, .slice A2 n2 c2, .slice A3 n3 c3, .slice A4 n4 c4] 81)) := by
  subst hws hen
  refine ⟨hb.alloc hb.size _, some ⟨W.heap.size, 0, none⟩, 4, rfl, ?_⟩
  exact Sl.row_new (T := tSlice tStr) (w := W) (lo := w.heap.size) (xs := [a, b, d, e]) (cells := [.slice A1 n1 c1, .slice A2 n2 c2, .slice A3 n3 c3, .slice A4 n4 c4]) 81 ⟨[_], _, rfl, ⟨_, _, _, rfl, h1⟩, [_], _, rfl, ⟨_, _, _, rfl, h2⟩, [_], _, rfl, ⟨_, _, _, rfl, h3⟩, [_], _, rfl, ⟨_, _, _, rfl, h4⟩, rfl⟩ hb.size 4 rfl (by decide)
set_option maxRecDepth 100000 in
set_option maxHeartbeats 8000000 in
theorem wordsN_any (x : Nd) (Aa : Option Addr) (na ca : Nat) (Ak : Option Addr) (nk ck : Nat) (w : World) (B : Nat) (hx : NdAt w (lt B) x Aa na ca Ak nk ck) (hB : B ≤ w.heap.size) (hs : ∀ a ∈ x.attrs, a.2.size ≤ 1000000) :
    Calls Tryz.prog 31 #[.agg #[.int .i64 x.kind, .string x.name, .slice Aa na ca, .string x.text, .int .i64 x.parent, .slice Ak nk ck]] w (WWPost w (wordsP x)) := by
  obtain ⟨w0, hw0⟩ : ∃ w0, w0 = w.alloc (.cells #[.int .i64 x.kind, .string x.name, .slice Aa na ca, .string x.text, .int .i64 x.parent, .slice Ak nk ck] 39) := ⟨_, rfl⟩
  have hbx : w0.heap[w.heap.size]? = some (.cells #[.int .i64 x.kind, .string x.name, .slice Aa na ca, .string x.text, .int .i64 x.parent, .slice Ak nk ck] 39 (0, 0)) := by rw [hw0]; exact heap_alloc_new w _
  have hb0 : Below w.heap.size w w0 := by rw [hw0]; exact (Below.refl _ _).alloc (Nat.le_refl _) _
  have c0 : w0.cell? ⟨w.heap.size, 0, none⟩ = some (.int .i64 x.kind) := cell_blk hbx rfl
  have c1 : w0.cell? ⟨w.heap.size, 1, none⟩ = some (.string x.name) := cell_blk hbx rfl
  have c2 : w0.cell? ⟨w.heap.size, 2, none⟩ = some (.slice Aa na ca) := cell_blk hbx rfl
  have HB0 := Lib.hid hb0
  have HNM := Lib.hid hx.name
  have hat := hx.attrs
  have HAT := Lib.hid (fun (W : World) (hW : Below w0.heap.size w0 W) => (hat.below hb0 hB).below hW (Nat.le_trans hB hb0.size))
  have HBW : Hid (B ≤ w0.heap.size) := Nat.le_trans hB hb0.size
  have HO := Lib.hid (fun (W : World) (hW : Below w0.heap.size w0 W) (nm : ByteArray) => of_any Aa na ca x.attrs nm W B (HAT.out W hW) (Nat.le_trans HBW.out hW.size))
  have HW1 := Lib.hid (fun (W : World) (nm : ByteArray) => one_any (ofA x.attrs nm) W (by have := ofA_small hs nm; omega))
  have HWS := Lib.hid (fun (W : World) => words_any (ofA x.attrs classB) W (ofA_small hs _))
  by_cases hk : x.kind = 2
  · have hk2 : (x.kind != 2) = false := by rw [hk]; decide
    have HP := Lib.hid (show wordsP x = [oneW (ofA x.attrs idB), wordsL (ofA x.attrs classB), [x.name], oneW (ofA x.attrs nameB)] from if_pos hk)
    generalize wordsP x = ws at *
    clear hk hb0 hbx hx hat hs
    go_enter Tryz.func31, Tryz.ntmps31
    go_upto_region 1 with fail
    rw [← hw0]
    clear hw0
    go_upto_region 4 with fail
    go_region_held3 (fun w' => w'.cell? ⟨w.heap.size, 1, none⟩ = some (.string x.name) ∧ w'.cell? ⟨w.heap.size, 2, none⟩ = some (.slice Aa na ca)) (first | go_keep | exact ⟨k1, k2⟩)
      (first
        | (go_at_call 48; refine (HO.out _ (by (repeat (first | exact Below.refl _ _ | (refine balloc ?_ _) | (refine bdrew ?_) | (refine bstep ?_ (by assumption))))) _).mono ?_; rintro e w1 ⟨rfl, hb⟩; have hbk : Below w0.heap.size w0 w1 := (by (repeat (first | exact Below.refl _ _ | (refine balloc ?_ _) | (refine bdrew ?_) | (refine bstep ?_ (by assumption))))); have k1 := cell_be c1 hbk; have k2 := cell_be c2 hbk; clear hbk)
        | (go_at_call 47; refine (HW1.out _ _).mono ?_; rintro e w1 ⟨hb, A1, d1, rfl, hs1⟩; have hbk : Below w0.heap.size w0 w1 := (by (repeat (first | exact Below.refl _ _ | (refine balloc ?_ _) | (refine bdrew ?_) | (refine bstep ?_ (by assumption))))); have k1 := cell_be c1 hbk; have k2 := cell_be c2 hbk; clear hbk)
        | (go_at_call 49; refine (HWS.out _).mono ?_; rintro e w1 ⟨hb, A1, d1, rfl, hs1⟩; have hbk : Below w0.heap.size w0 w1 := (by (repeat (first | exact Below.refl _ _ | (refine balloc ?_ _) | (refine bdrew ?_) | (refine bstep ?_ (by assumption))))); have k1 := cell_be c1 hbk; have k2 := cell_be c2 hbk; clear hbk))
    all_goals
      have hbw : Below w.heap.size w w0 := HB0.out
      have hnm := HNM.out
      go_wp2_with fail
      go_ret
      refine ww_close HP.out ?_ ?_ ?_ ?_ ?_ ?_
      · (repeat (first | exact Below.refl _ _ | (refine balloc ?_ _) | (refine bdrew ?_) | (refine bstep ?_ (by assumption))))
      · refine Sl.upW (by assumption) ?_ ?_ <;> (repeat (first | exact Below.refl _ _ | (refine balloc ?_ _) | (refine bdrew ?_) | (refine bstep ?_ (by assumption))))
      · refine Sl.upW (by assumption) ?_ ?_ <;> (repeat (first | exact Below.refl _ _ | (refine balloc ?_ _) | (refine bdrew ?_) | (refine bstep ?_ (by assumption))))
      · refine Sl.upW (one_new_fr _ x.name hnm) ?_ ?_ <;> (repeat (first | exact Below.refl _ _ | (refine balloc ?_ _) | (refine bdrew ?_) | (refine bstep ?_ (by assumption))))
      · refine Sl.upW (by assumption) ?_ ?_ <;> (repeat (first | exact Below.refl _ _ | (refine balloc ?_ _) | (refine bdrew ?_) | (refine bstep ?_ (by assumption))))
      · first | rfl | (rw [World.size_alloc]; rfl) | (simp only [World.size_alloc]; rfl)
  · have hk2 : (x.kind != 2) = true := by simpa using hk
    have HP := Lib.hid (show wordsP x = [[], [], [], []] from if_neg hk)
    generalize wordsP x = ws at *
    clear hk hb0 hbx hx hat hs
    go_enter Tryz.func31, Tryz.ntmps31
    go_upto_region 1 with fail
    rw [← hw0]
    clear hw0
    have hmk : ∀ W : World, (Instr.makeSlice 79 (.int .i64 4) (.int .i64 4)).run Tryz.prog W = .ok (.slice (some ⟨W.heap.size, 0, none⟩) 4 4) (W.alloc (.cells #[.slice none 0 0, .slice none 0 0, .slice none 0 0, .slice none 0 0] 81)) := fun W => by kernel_rfl
    go_wp2_with fail
    go_ret
    exact ww_close HP.out HB0.out Sl.nil Sl.nil Sl.nil Sl.nil rfl
end Go.Proofs.YtomleengbnfikaaGreatDoor
