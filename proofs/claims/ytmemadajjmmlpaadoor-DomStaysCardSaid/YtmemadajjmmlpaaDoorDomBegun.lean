/-
The walks of dom.New and of the laws' helper domBegun.
-/
import Derived.Test.YtmemadajjmmlpaaDoorEdAll
namespace Go.Proofs.YtmemadajjmmlpaaDoor
open Go.RowKit Go.Cl
attribute [local go_sem ↓] Go.wp_at_zero Go.wp_at_succ

def rootNd : Nd := ⟨1, ⟨#[]⟩, [], ⟨#[]⟩, -1, []⟩
def pNd : Nd := ⟨2, (⟨#[112]⟩ : ByteArray), [], ⟨#[]⟩, 0, []⟩
def begunE : List Edt := [⟨4, 0, 0, 0, ⟨#[]⟩, ⟨#[]⟩, pNd⟩, ⟨5, 0, 1, -1, ⟨#[]⟩, ⟨#[]⟩, ⟨0, ⟨#[]⟩, [], ⟨#[]⟩, 0, []⟩⟩]
def begunD : List Nd := [⟨1, ⟨#[]⟩, [], ⟨#[]⟩, -1, [1]⟩, ⟨2, (⟨#[112]⟩ : ByteArray), [], ⟨#[]⟩, 0, []⟩]
theorem begun_all : (alR [rootNd] begunE).1.length = 2 ∧ (alR [rootNd] begunE).2.1 = 0 ∧ (alR [rootNd] begunE).2.2 = 0 ∧ ((alR [rootNd] begunE).1.map Nd.parent)[1]? = some 0 ∧ checkD (alR [rootNd] begunE).1 = 0 := by decide +kernel

set_option maxRecDepth 100000 in
set_option maxHeartbeats 1000000 in
theorem new_any (w : World) : Calls Tryd.prog 52 #[] w fun e w' => ∃ b, e = .returned (.agg #[.slice (some ⟨b, 0, none⟩) 1 1, .bool false]) ∧ Below w.heap.size w w' ∧ Sl tNd w' (lt w'.heap.size) (some ⟨b, 0, none⟩) 1 1 [rootNd] := by
  go_enter Tryd.func52, Tryd.ntmps52
  go_wp2_with fail
  obtain ⟨w1, hw1⟩ : ∃ w1, w1 = w.alloc (.cells #[.slice (some ⟨w.heap.size + 1, 0, none⟩) 1 1, .bool false] 24) := ⟨_, rfl⟩
  have hz1 : w1.heap.size = w.heap.size + 1 := by rw [hw1]; exact World.size_alloc w _
  have hb1 : Below w.heap.size w w1 := by rw [hw1]; exact (Below.refl _ _).alloc (Nat.le_refl _) _
  have hs := Sl.fresh (n := 1) (w := w1) (B := w1.heap.size) 35 (T := tNd) (xs := [rootNd]) ⟨ndCells rootNd none 0 0 none 0 0, [], rfl, nd_rep ⟨Sl.nil, Sl.nil, by decide, by decide, by decide, by decide⟩, rfl⟩ (Nat.le_refl _) rfl (by decide)
  refine bodyPost_ret (v := .agg #[.slice (some ⟨w.heap.size + 1, 0, none⟩) 1 1, .bool false]) (by simp [results, Tryd.results52, go_sem]) rfl ⟨w.heap.size + 1, rfl, ?_, ?_⟩
  · rw [← hw1]
    exact hb1.alloc (by omega) _
  · rw [← hw1, World.size_alloc, ← hz1]
    exact hs
theorem begun_row {w : World} {D : Nat → Prop} : Row tEdt w D begunE [.int .i64 4, .int .i64 0, .int .i64 0, .int .i64 0, .string ⟨#[]⟩, .string ⟨#[]⟩, .int .i64 2, .string (⟨#[112]⟩ : ByteArray), .slice none 0 0, .string ⟨#[]⟩, .int .i64 0, .slice none 0 0, .int .i64 5, .int .i64 0, .int .i64 1, .int .i64 (-1), .string ⟨#[]⟩, .string ⟨#[]⟩, .int .i64 0, .string ⟨#[]⟩, .slice none 0 0, .string ⟨#[]⟩, .int .i64 0, .slice none 0 0] :=
  ⟨(edtCells ⟨4, 0, 0, 0, ⟨#[]⟩, ⟨#[]⟩, pNd⟩ none 0 0 none 0 0).toList, _, rfl, edt_rep ⟨⟨Sl.nil, Sl.nil, by decide, by decide, by decide, by decide⟩, by decide, by decide, by decide, by decide, by decide⟩ (by decide),
    (edtCells ⟨5, 0, 1, -1, ⟨#[]⟩, ⟨#[]⟩, ⟨0, ⟨#[]⟩, [], ⟨#[]⟩, 0, []⟩⟩ none 0 0 none 0 0).toList, [], rfl, edt_rep ⟨⟨Sl.nil, Sl.nil, by decide, by decide, by decide, by decide⟩, by decide, by decide, by decide, by decide, by decide⟩ (by decide), rfl⟩
set_option maxRecDepth 100000 in
set_option maxHeartbeats 4000000 in
theorem domBegun_any (w : World) : Calls Tryd.prog 22 #[] w fun e w' => e = .returned (.bool true) ∧ Below w.heap.size w w' := by
  have HNW := Lib.hid (new_any w)
  have HAL := Lib.hid (fun A n c m w1 B hl hes hB => all_any A n c [rootNd] false m 2 2 begunE w1 B hl hes hB)
  have HBR := Lib.hid (fun (w : World) (D : Nat → Prop) => @begun_row w D)
  go_enter Tryd.func22, Tryd.ntmps22
  go_upto_region 1 with fail
  go_wp2_with (go_at_call 52; refine HNW.out.mono ?_; rintro e' w1 ⟨b, rfl, hb1, hs1⟩)
  obtain ⟨w2, hw2⟩ : ∃ w2, w2 = w1.alloc (.cells #[.int .i64 4, .int .i64 0, .int .i64 0, .int .i64 0, .string ⟨#[]⟩, .string ⟨#[]⟩, .int .i64 2, .string (⟨#[112]⟩ : ByteArray), .slice none 0 0, .string ⟨#[]⟩, .int .i64 0, .slice none 0 0, .int .i64 5, .int .i64 0, .int .i64 1, .int .i64 (-1), .string ⟨#[]⟩, .string ⟨#[]⟩, .int .i64 0, .string ⟨#[]⟩, .slice none 0 0, .string ⟨#[]⟩, .int .i64 0, .slice none 0 0] 59) := ⟨_, rfl⟩
  rw [← hw2]
  have hes := Sl.fresh (n := 2) (w := w1) (B := w1.heap.size) 59 (HBR.out w1 (lt w1.heap.size)) (Nat.le_refl _) rfl (by decide)
  have hb12 : Below w1.heap.size w1 w2 := by rw [hw2]; exact (Below.refl _ _).alloc (Nat.le_refl _) _
  have hz2 : w2.heap.size = w1.heap.size + 1 := by rw [hw2]; exact World.size_alloc w1 _
  have hes2 : Sl tEdt w2 (lt (w1.heap.size + 1)) (some ⟨w1.heap.size, 0, none⟩) 2 2 begunE := by rw [hw2]; exact hes
  have hs2 := (hs1.below hb12 (Nat.le_refl _)).up (B' := w1.heap.size + 1) (by omega)
  have hb2 := hb1.trans (hb12.mono hb1.size)
  refine (HAL.out _ 1 1 (some ⟨w1.heap.size, 0, none⟩) w2 (w1.heap.size + 1) hs2 hes2 (by omega)).mono ?_
  have HBG := Lib.hid begun_all
  rintro e' w3 ⟨hb23, hp⟩
  rcases hp with ⟨h, _⟩ | ⟨_, A', c', rfl, hs3⟩
  · exact absurd HBG.out.2.2.1 h
  have hs3 := Sl.ltr hs3
  generalize (alR [rootNd] begunE).1 = l' at *
  generalize (alR [rootNd] begunE).2.1 = z1 at *
  generalize (alR [rootNd] begunE).2.2 = z2 at *
  obtain ⟨hl2, _, _, hpar, hck⟩ := HBG.out
  have HB3 := Lib.hid (hb2.trans (hb23.mono hb2.size))
  obtain ⟨x, hx⟩ := get_some (l := l') (k := 1) (by omega)
  have hx0 : x.parent = 0 := by rw [List.getElem?_map, hx] at hpar; simpa using hpar
  obtain ⟨g, o, Aa, na, ca, Ak, nk, ck, rfl, hgl, _, hc⟩ := Sl.nd hs3 hx
  have k4 : w3.cell? ⟨g, o + 1 * 6 + 4, none⟩ = some (.int .i64 0) := by have := hc 4 _ rfl; rw [hx0] at this; rw [Nat.add_assoc]; exact this
  rw [hl2] at hs3
  have HS3 := Lib.hid hs3
  have hcap := hs3.hc
  have HCK := Lib.hid hck
  rw [hl2]
  clear hw2 hes hb12 hz2 hes2 hs2 hb2 hb23 hs3 hb1 hs1 hx hx0 hc hl2 hpar HBG HAL HNW HBR hck
  go_upto_region 2 with fail
  obtain ⟨w4, hw4⟩ : ∃ w4, w4 = w3.alloc (.cells #[.slice (some ⟨g, o, none⟩) 2 c', .bool false] 24) := ⟨_, rfl⟩
  rw [← hw4]
  have hbx : w4.heap[w3.heap.size]? = some (.cells #[.slice (some ⟨g, o, none⟩) 2 c', .bool false] 24 (0, 0)) := by rw [hw4]; exact heap_alloc_new w3 _
  have hb34 : Below w3.heap.size w3 w4 := by rw [hw4]; exact (Below.refl _ _).alloc (Nat.le_refl _) _
  have HC := Lib.hid (check_dom (some ⟨g, o, none⟩) 2 c' l' false w4 w3.heap.size (HS3.out.below hb34 (Nat.le_refl _)) hb34.size)
  rw [HCK.out] at HC
  have x0 := cell_blk (i := 0) hbx rfl
  have x1 := cell_blk (i := 1) hbx rfl
  have k4' : w4.cell? ⟨g, o + 1 * 6 + 4, none⟩ = some (.int .i64 0) := (hb34.cell (p := ⟨g, o + 1 * 6 + 4, none⟩) hgl).trans k4
  have HB4 := Lib.hid (HB3.out.trans (hb34.mono HB3.out.size))
  clear hw4 hbx hb34 k4
  go_wp2_with (go_at_call 24; refine HC.out.mono ?_; rintro e' w5 ⟨rfl, hb5⟩)
  refine bodyPost_ret (v := .bool true) (by simp [results, Tryd.results22, go_sem]) rfl ⟨rfl, ?_⟩
  exact HB4.out.trans (hb5.mono HB4.out.size)
end Go.Proofs.YtmemadajjmmlpaaDoor
