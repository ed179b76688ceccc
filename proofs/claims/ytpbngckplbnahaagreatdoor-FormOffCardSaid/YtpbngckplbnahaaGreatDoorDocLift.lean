/-
Documents as arguments: how api.Doc is read off.
-/
import Derived.Test.YtpbngckplbnahaaGreatDoorDomB
import Derived.Test.YtpbngckplbnahaaGreatDoorBase
namespace Go.Proofs.YtpbngckplbnahaaGreatDoor
open Go.RowKit Go.Cl

/-- A struct with padding: more bytes than its fields have. -/
theorem lifts_padded {α : Type} {T : Ty α} {P : Program} {t : TypeId} {fs : List Field} (b : Nat) (hb1 : 1 ≤ b) (ht : P.underlying t = some (.struct fs.toArray)) (hc : P.cellsOf t = T.size) (hb : P.bytesOf t = b) (hT : LiftsF P fs 0 T) : Lifts P t (tMap T (fun x => x) b hb1) where
  size := hc
  bytes := hb
  read enc w base held fuel cs x h hw := by
    obtain ⟨ys, n, _, rfl, hl, hyl, hf⟩ := DataW.trod_struct ht h
    have hw' : ∀ n ∈ DataW.weightsEach P (fs.map (·.type)) (ys.map (·.1)), n ≤ reachBytes := fun n hn => hw n (by simpa [DataW.weights, ht] using hn)
    obtain ⟨d, hd⟩ := hT.read enc w base held n cs ys (by rw [hl, hc]; simp) (by simpa using hyl) (fun i f hi => hf i f (by simpa using hi)) hw'
    exact ⟨d, show T.rep _ _ d _ from by simpa using hd⟩
def tDoc : Ty (List Nd × Bool) := tMap (tPair (tSlice tNd) tBool) (fun x => x) 32
theorem doc_open {w : World} {D : Nat → Prop} {x : List Nd × Bool} {cs : List Value} (h : tDoc.rep w D x cs) : ∃ A n c q, cs = [.slice A n c, .bool q] ∧ Sl tNd w D A n c x.1 := by
  obtain ⟨c1, c2, rfl, ⟨A, n, c, rfl, hs⟩, h2⟩ := h
  obtain rfl := h2
  exact ⟨A, n, c, _, rfl, hs⟩
theorem doc_arg {w : World} {D : Nat → Prop} {x : List Nd × Bool} {a : Array Value} (h : tDoc.rep w D x (Value.agg a).cells.toList) : ∃ A n c q, a = #[.slice A n c, .bool q] ∧ Sl tNd w D A n c x.1 := by
  obtain ⟨A, n, c, q, e, hs⟩ := doc_open h
  refine ⟨A, n, c, q, ?_, hs⟩
  have e' : a.toList = [.slice A n c, .bool q] := e
  cases a
  simpa using e'
theorem lifts_nd : Lifts Tryz.prog 26 tNd :=
  lifts_map (fun a => (⟨a.1, a.2.1, a.2.2.1, a.2.2.2.1, a.2.2.2.2.1, a.2.2.2.2.2⟩ : Nd)) (fun _ => rfl)
    (lifts_struct (fs := [_, _, _, _, _, _]) Tryz.underlying26 (by kernel_rfl) (by kernel_rfl)
      (liftsF_cons rfl (lifts_int Tryz.underlying3 (by kernel_rfl) (by kernel_rfl))
        (liftsF_cons rfl (lifts_str Tryz.underlying9 (by kernel_rfl) (by kernel_rfl))
          (liftsF_cons rfl (lifts_slice Tryz.underlying24 (by kernel_rfl) (by kernel_rfl)
              (lifts_struct (fs := [_, _]) Tryz.underlying31 (by kernel_rfl) (by kernel_rfl) (liftsF_cons rfl (lifts_str Tryz.underlying9 (by kernel_rfl) (by kernel_rfl)) (liftsF_one rfl (lifts_str Tryz.underlying9 (by kernel_rfl) (by kernel_rfl))))) (by decide))
            (liftsF_cons rfl (lifts_str Tryz.underlying9 (by kernel_rfl) (by kernel_rfl))
              (liftsF_cons rfl (lifts_int Tryz.underlying3 (by kernel_rfl) (by kernel_rfl))
                (liftsF_one rfl (lifts_slice Tryz.underlying23 (by kernel_rfl) (by kernel_rfl) (lifts_int Tryz.underlying3 (by kernel_rfl) (by kernel_rfl)) (by decide)))))))))
theorem lifts_doc : Lifts Tryz.prog 29 tDoc :=
  lifts_padded (fs := [_, _]) 32 (by decide) Tryz.underlying29 (by kernel_rfl) (by kernel_rfl)
    (liftsF_cons rfl (lifts_slice Tryz.underlying27 (by kernel_rfl) (by kernel_rfl) lifts_nd (by decide)) (liftsF_one rfl (lifts_bool Tryz.underlying4 (by kernel_rfl) (by kernel_rfl))))
end Go.Proofs.YtpbngckplbnahaaGreatDoor
