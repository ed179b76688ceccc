/-
The walks of package entity: names, named, Find, read, Text, Value.
-/
import Derived.Test.YtbddnohbkafagaaGreatDoorEntNum
import Derived.Deep.QuietTactic
import Derived.BigQuiet
import Derived.Great.BuildSlice
namespace Go.Proofs.YtbddnohbkafagaaGreatDoor
open Go.RowKit Go.Cl

/-- A name of the table: its word, its sign, and whether it needs no semicolon. -/
abbrev Nam := ByteArray × Int × Bool
def tNam : Ty Nam := tPair tStr (tPair (tInt .i32) tBool)
def namesL : List Nam := [((⟨#[97, 109, 112]⟩ : ByteArray), 38, true), ((⟨#[108, 116]⟩ : ByteArray), 60, true), ((⟨#[103, 116]⟩ : ByteArray), 62, true), ((⟨#[113, 117, 111, 116]⟩ : ByteArray), 34, true), ((⟨#[110, 98, 115, 112]⟩ : ByteArray), 160, true), ((⟨#[99, 111, 112, 121]⟩ : ByteArray), 169, true), ((⟨#[114, 101, 103]⟩ : ByteArray), 174, true), ((⟨#[116, 105, 109, 101, 115]⟩ : ByteArray), 215, true), ((⟨#[100, 105, 118, 105, 100, 101]⟩ : ByteArray), 247, true), ((⟨#[101, 97, 99, 117, 116, 101]⟩ : ByteArray), 233, true), ((⟨#[97, 117, 109, 108]⟩ : ByteArray), 228, true), ((⟨#[111, 117, 109, 108]⟩ : ByteArray), 246, true), ((⟨#[117, 117, 109, 108]⟩ : ByteArray), 252, true), ((⟨#[115, 122, 108, 105, 103]⟩ : ByteArray), 223, true), ((⟨#[121, 101, 110]⟩ : ByteArray), 165, true), ((⟨#[99, 101, 110, 116]⟩ : ByteArray), 162, true), ((⟨#[112, 111, 117, 110, 100]⟩ : ByteArray), 163, true), ((⟨#[115, 101, 99, 116]⟩ : ByteArray), 167, true), ((⟨#[112, 97, 114, 97]⟩ : ByteArray), 182, true), ((⟨#[109, 105, 100, 100, 111, 116]⟩ : ByteArray), 183, true), ((⟨#[110, 111, 116]⟩ : ByteArray), 172, true), ((⟨#[100, 101, 103]⟩ : ByteArray), 176, true), ((⟨#[102, 114, 97, 99, 49, 50]⟩ : ByteArray), 189, true), ((⟨#[102, 114, 97, 99, 49, 52]⟩ : ByteArray), 188, true), ((⟨#[97, 112, 111, 115]⟩ : ByteArray), 39, false), ((⟨#[104, 101, 108, 108, 105, 112]⟩ : ByteArray), 8230, false), ((⟨#[109, 100, 97, 115, 104]⟩ : ByteArray), 8212, false), ((⟨#[110, 100, 97, 115, 104]⟩ : ByteArray), 8211, false), ((⟨#[108, 115, 113, 117, 111]⟩ : ByteArray), 8216, false), ((⟨#[114, 115, 113, 117, 111]⟩ : ByteArray), 8217, false), ((⟨#[108, 100, 113, 117, 111]⟩ : ByteArray), 8220, false), ((⟨#[114, 100, 113, 117, 111]⟩ : ByteArray), 8221, false), ((⟨#[98, 117, 108, 108]⟩ : ByteArray), 8226, false), ((⟨#[101, 117, 114, 111]⟩ : ByteArray), 8364, false), ((⟨#[116, 114, 97, 100, 101]⟩ : ByteArray), 8482, false), ((⟨#[108, 97, 114, 114]⟩ : ByteArray), 8592, false), ((⟨#[114, 97, 114, 114]⟩ : ByteArray), 8594, false), ((⟨#[105, 110, 102, 105, 110]⟩ : ByteArray), 8734, false), ((⟨#[110, 101]⟩ : ByteArray), 8800, false), ((⟨#[108, 101]⟩ : ByteArray), 8804, false), ((⟨#[103, 101]⟩ : ByteArray), 8805, false), ((⟨#[110, 111, 116, 105, 110]⟩ : ByteArray), 8713, false), ((⟨#[97, 108, 112, 104, 97]⟩ : ByteArray), 945, false), ((⟨#[98, 101, 116, 97]⟩ : ByteArray), 946, false), ((⟨#[112, 105]⟩ : ByteArray), 960, false), ((⟨#[115, 117, 109]⟩ : ByteArray), 8721, false), ((⟨#[109, 105, 110, 117, 115]⟩ : ByteArray), 8722, false), ((⟨#[108, 97, 110, 103]⟩ : ByteArray), 10216, false)]
def namCells (x : Nam) : List Value := [.string x.1, .int .i32 x.2.1, .bool x.2.2]
def namesC : List Value := namesL.flatMap namCells
theorem nam_row (w : World) (D : Nat → Prop) (l : List Nam) (h : ∀ x ∈ l, x.1.size ≤ 1152921504606846976 ∧ (Lit.int .i32 x.2.1).wf = true) : Row tNam w D l (l.flatMap namCells) := by
  induction l with
  | nil => rfl
  | cons x l ih =>
    have hx := h x (List.mem_cons_self ..)
    exact ⟨namCells x, l.flatMap namCells, rfl, ⟨[.string x.1], [.int .i32 x.2.1, .bool x.2.2], rfl, ⟨rfl, hx.1⟩, [.int .i32 x.2.1], [.bool x.2.2], rfl, ⟨rfl, hx.2⟩, rfl⟩, ih (fun y hy => h y (List.mem_cons_of_mem _ hy))⟩
theorem nam_good : ∀ x ∈ namesL, x.1.size ≤ 1152921504606846976 ∧ (Lit.int .i32 x.2.1).wf = true ∧ 0 ≤ x.2.1 ∧ x.2.1 ≤ 2097152 := by decide +kernel
theorem nam_len : namesL.length = 48 := by decide +kernel

set_option maxHeartbeats 4000000 in
set_option maxRecDepth 100000 in
theorem names_any (w : World) :
    Calls Tryz.prog 103 #[] w fun e w' => e = .returned (.slice (some ⟨w.heap.size, 0, none⟩) 48 48) ∧ w' = w.alloc (.cells namesC.toArray 143) := by
  have hI : ((Tryz.prog).info? 143).map (fun i => (i.zero, i.size, i.bytes)) = some (some (.agg #[.string ⟨#[]⟩, .int .i32 0, .bool false]), 3, 24) := by kernel_rfl
  obtain ⟨i0, hi, hz0, hz1, hz2⟩ := info_parts hI
  go_enter Tryz.func103, Tryz.ntmps103
  go_wp2_with (refine wpList_buildSlice rfl 140 143 48 _ rfl namesC.toArray i0 _ Tryz.underlying140 hi hz0 (by rw [hz1]; decide) (by rw [hz1]; decide) (by rw [hz1]; kernel_rfl) ?_)
  go_ret
  exact ⟨rfl, rfl⟩
end Go.Proofs.YtbddnohbkafagaaGreatDoor
