/-
One member of a slice of nodes, as a slice.
-/
import Derived.Test.YtpbngckplbnahaaGreatDoorDomB
namespace Go.Proofs.YtpbngckplbnahaaGreatDoor
open Go.RowKit Go.Cl
/-- One member of a slice, as a slice. -/
theorem sl_one {w : World} {D : Nat → Prop} {b o n c k : Nat} {l : List Nd} {x : Nd} (h : Sl tNd w D (some ⟨b, o, none⟩) n c l) (hx : l[k]? = some x) : Sl tNd w D (some ⟨b, o + k * 6, none⟩) 1 (c - k) [x] := by
  have hkl := (List.getElem?_eq_some_iff.1 hx).1
  have hn := h.hn
  have hc := h.hc
  have hm := h.hm
  refine ⟨rfl, by omega, by show 1 * 96 ≤ _; omega, by omega, (fun e => by cases e), fun _ => ?_⟩
  obtain ⟨b', o', cells, e, hD, hr, hcell⟩ := h.at_ (by omega)
  simp only [Option.some.injEq, Addr.mk.injEq, and_true] at e
  obtain ⟨rfl, rfl⟩ := e
  obtain ⟨cs, hrep, hj⟩ := hr.at_ hx
  refine ⟨b, o + k * 6, cs, rfl, hD, ⟨cs, [], by simp, hrep, rfl⟩, fun j u hu => ?_⟩
  rw [Nat.add_assoc]
  exact hcell _ _ (hj j u hu)
end Go.Proofs.YtpbngckplbnahaaGreatDoor
