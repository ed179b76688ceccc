/-
What a bounded size says of a slice of entries.
-/
import Derived.Test.YtpbngckplbnahaaGreatDoorRows
import Derived.Test.YtpbngckplbnahaaGreatDoorFormKit
import Derived.Deep.SlicePairs
namespace Go.Proofs.YtpbngckplbnahaaGreatDoor
open Go.RowKit Go.Cl
/-! ### the bound -/
theorem bulk_part {H : Type} {d : DataW H} {l : List (DataW H)} (h : d ∈ l) : Rows.uptoBulk d ≤ Rows.uptoBulkAll l := by
  induction l with
  | nil => cases h
  | cons x r ih =>
    simp only [Rows.uptoBulkAll]
    cases List.mem_cons.1 h with
    | inl e => subst e; omega
    | inr e => have := ih e; omega
theorem bulk_one {H : Type} {d : DataW H} {l : List (DataW H)} (hk : Rows.uptoSmall H (d :: l) = true) : Rows.uptoBulk d ≤ 1048576 := by
  have h : Rows.uptoBulkAll (d :: l) ≤ 1048576 := of_decide_eq_true hk
  simp only [Rows.uptoBulkAll] at h
  omega
theorem bulk_slice {H : Type} {E F : List (DataW H)} (h : Rows.uptoBulk (.slice E F) ≤ 1048576) : Rows.uptoBulkAll E ≤ 1048576 := by
  have e : Rows.uptoBulk (.slice E F) = Rows.uptoBulkAll E + Rows.uptoBulkAll F + 1 := by simp only [Rows.uptoBulk]
  omega
theorem bulk_two {H : Type} {a b : List UInt8} {n : Nat} (h : Rows.uptoBulk (DataW.agg (H := H) [.lit (.string a), .lit (.string b)]) ≤ n) : a.length + b.length ≤ n := by
  have e : Rows.uptoBulk (DataW.agg (H := H) [.lit (.string a), .lit (.string b)]) = a.length + 1 + (b.length + 1 + 0) + 1 := by simp only [Rows.uptoBulk, Rows.uptoBulkAll]
  omega
theorem da_small {H : Type} {enc : TypeId × Value → H} {W : World} {A : Option Addr} {n c : Nat} {l : List DAttr} {d : DataW H} {p : List MemPlace} {held : Bool} (hl : Sl tDA W (lt W.heap.size) A n c l)
    (h : DataW.Trod enc Tryz.prog W 0 (fun _ => true) held 32 (.slice A n c) d p) (hk : Rows.uptoBulk d ≤ 1048576) : ∀ x ∈ l, x.1.size ≤ 1048576 ∧ x.2.size ≤ 1048576 := by
  obtain ⟨fuel, hf⟩ := h
  intro x hx
  obtain ⟨i, hi, rfl⟩ := List.mem_iff_getElem.1 hx
  obtain ⟨g, o, rfl, _, c1, c2, _, _⟩ := da_get hl (i := i) (a := l[i]) (List.getElem?_eq_getElem hi)
  have hn := hl.hn
  rcases Go.Deep.open_slice_pairs (f0 := _) (f1 := _) Tryz.underlying32 Tryz.underlying38 (by kernel_rfl) rfl rfl (by kernel_rfl) (by kernel_rfl) hf with ⟨h0, _⟩ | ⟨a, len, cap, m, n', V0, V1, D0, D1, P0, P1, e, _, hlc, hcm, hm, rfl', hi'⟩
  · simp [Value.cells] at h0
  · simp only [Value.cells, List.cons.injEq, Value.slice.injEq, Option.some.injEq, and_true] at e
    obtain ⟨rfl, rfl, rfl⟩ := e
    obtain ⟨v0, v1, t0, t1⟩ := hi' i (by simp at hm; omega)
    have e0 : (⟨g, o, none⟩ : Addr).add (i * 2) = ⟨g, o + i * 2, none⟩ := by unfold Addr.add; split <;> simp_all
    have e1 : (⟨g, o, none⟩ : Addr).add (i * 2 + 1) = ⟨g, o + i * 2 + 1, none⟩ := by unfold Addr.add; split <;> simp_all <;> omega
    rw [e0, c1] at v0
    rw [e1, c2] at v1
    rw [← Option.some.inj v0] at t0
    rw [← Option.some.inj v1] at t1
    obtain ⟨s0, q0, f0, _⟩ := DataW.trod_string Tryz.underlying9 t0
    obtain ⟨s1, q1, f1, _⟩ := DataW.trod_string Tryz.underlying9 t1
    have hd : d = .slice ((List.range n).map fun i => .agg [D0 i, D1 i]) ((List.range (m - n)).map fun j => .agg [D0 (n + j), D1 (n + j)]) := (Prod.mk.inj rfl').1
    have hmem : DataW.agg [D0 i, D1 i] ∈ (List.range n).map fun i => DataW.agg [D0 i, D1 i] := List.mem_map.2 ⟨i, List.mem_range.2 (by omega), rfl⟩
    have hb := bulk_part hmem
    rw [hd] at hk
    have z0 : D0 i = .lit (.string s0.data.toList) := (Prod.mk.inj f0).1
    have z1 : D1 i = .lit (.string s1.data.toList) := (Prod.mk.inj f1).1
    rw [z0, z1] at hb
    generalize (List.range n).map (fun i => DataW.agg [D0 i, D1 i]) = E at hb hk
    generalize (List.range (m - n)).map (fun j => DataW.agg [D0 (n + j), D1 (n + j)]) = F at hk
    have hk2 := bulk_slice hk
    have hb2 := bulk_two hb
    clear hk hb hd rfl' hf hi' t0 t1 z0 z1 f0 f1
    have y0 : l[i].1 = s0 := by injection q0 with q0; injection q0
    have y1 : l[i].2 = s1 := by injection q1 with q1; injection q1
    rw [y0, y1]
    have x0 : s0.data.toList.length = s0.size := by simp
    have x1 : s1.data.toList.length = s1.size := by simp
    omega
end Go.Proofs.YtpbngckplbnahaaGreatDoor
