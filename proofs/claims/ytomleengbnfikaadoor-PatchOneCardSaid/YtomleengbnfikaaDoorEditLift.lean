/-
Edits as arguments: how api.Edit is read off.
-/
import Derived.Test.YtomleengbnfikaaDoorEdDocs
import Derived.Test.YtomleengbnfikaaDoorDocLift
namespace Go.Proofs.YtomleengbnfikaaDoor
open Go.RowKit Go.Cl

theorem lifts_edt : Lifts Tryd.prog 30 tEdt :=
  lifts_map (fun a => (⟨a.1, a.2.1, a.2.2.1, a.2.2.2.1, a.2.2.2.2.1, a.2.2.2.2.2.1, a.2.2.2.2.2.2⟩ : Edt)) (fun _ => rfl)
    (lifts_struct (fs := [_, _, _, _, _, _, _]) Tryd.underlying30 (by kernel_rfl) (by kernel_rfl)
      (liftsF_cons rfl (lifts_int Tryd.underlying3 (by kernel_rfl) (by kernel_rfl))
        (liftsF_cons rfl (lifts_int Tryd.underlying3 (by kernel_rfl) (by kernel_rfl))
          (liftsF_cons rfl (lifts_int Tryd.underlying3 (by kernel_rfl) (by kernel_rfl))
            (liftsF_cons rfl (lifts_int Tryd.underlying3 (by kernel_rfl) (by kernel_rfl))
              (liftsF_cons rfl (lifts_str Tryd.underlying9 (by kernel_rfl) (by kernel_rfl))
                (liftsF_cons rfl (lifts_str Tryd.underlying9 (by kernel_rfl) (by kernel_rfl))
                  (liftsF_one rfl lifts_nd))))))))
theorem edt_arg {w : World} {D : Nat → Prop} {x : Edt} {a : Array Value} (h : tEdt.rep w D x (Value.agg a).cells.toList) : ∃ Aa na ca Ak nk ck, a = edtCells x Aa na ca Ak nk ck ∧ EdtOk w D x Aa na ca Ak nk ck ∧ (Lit.int .i64 x.do_).wf = true := by
  obtain ⟨d1, d2, _, ⟨_, hd⟩, _⟩ := id h
  obtain ⟨Aa, na, ca, Ak, nk, ck, e, hok⟩ := edt_cells h
  have e' : a.toList = (edtCells x Aa na ca Ak nk ck).toList := e
  exact ⟨Aa, na, ca, Ak, nk, ck, Array.ext' e', hok, hd⟩
end Go.Proofs.YtomleengbnfikaaDoor
