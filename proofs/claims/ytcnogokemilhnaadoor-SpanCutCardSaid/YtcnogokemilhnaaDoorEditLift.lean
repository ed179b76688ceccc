/-
Edits as arguments: how api.Edit is read off.
-/
import Derived.Test.YtcnogokemilhnaaDoorEdDocs
import Derived.Test.YtcnogokemilhnaaDoorDocLift
namespace Go.Proofs.YtcnogokemilhnaaDoor
open Go.RowKit Go.Cl

theorem lifts_edt : Lifts Tryd.prog 53 tEdt :=
  lifts_map (fun a => (⟨a.1, a.2.1, a.2.2.1, a.2.2.2.1, a.2.2.2.2.1, a.2.2.2.2.2.1, a.2.2.2.2.2.2⟩ : Edt)) (fun _ => rfl)
    (lifts_struct (fs := [_, _, _, _, _, _, _]) Tryd.underlying53 (by kernel_rfl) (by kernel_rfl)
      (liftsF_cons rfl (lifts_int Tryd.underlying3 (by kernel_rfl) (by kernel_rfl))
        (liftsF_cons rfl (lifts_int Tryd.underlying3 (by kernel_rfl) (by kernel_rfl))
          (liftsF_cons rfl (lifts_int Tryd.underlying3 (by kernel_rfl) (by kernel_rfl))
            (liftsF_cons rfl (lifts_int Tryd.underlying3 (by kernel_rfl) (by kernel_rfl))
              (liftsF_cons rfl (lifts_str Tryd.underlying9 (by kernel_rfl) (by kernel_rfl))
                (liftsF_cons rfl (lifts_str Tryd.underlying9 (by kernel_rfl) (by kernel_rfl))
                  (liftsF_one rfl lifts_nd))))))))
end Go.Proofs.YtcnogokemilhnaaDoor
