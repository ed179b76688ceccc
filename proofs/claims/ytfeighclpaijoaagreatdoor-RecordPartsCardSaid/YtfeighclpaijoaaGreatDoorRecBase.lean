/-
Steps in memory.
-/
import Derived.Test.YtfeighclpaijoaaGreatDoorRecLaw
import Derived.Test.YtfeighclpaijoaaGreatDoorEdDocs
import Derived.Test.YtfeighclpaijoaaGreatDoorBothLaw
namespace Go.Proofs.YtfeighclpaijoaaGreatDoor
open Go.RowKit Go.Cl

def stpCells (s : Stp) (Aa : Option Addr) (na ca : Nat) (Ak : Option Addr) (nk ck : Nat) : Array Value :=
  #[.int .i64 s.edit.do_, .int .i64 s.edit.at_, .int .i64 s.edit.to_, .int .i64 s.edit.before, .string s.edit.name, .string s.edit.value, .int .i64 s.edit.node.kind, .string s.edit.node.name, .slice Aa na ca, .string s.edit.node.text, .int .i64 s.edit.node.parent, .slice Ak nk ck, .bool s.had, .string s.was, .int .i64 s.parent, .int .i64 s.place]
/-- What is known of a step. -/
structure StpOk (w : World) (D : Nat → Prop) (s : Stp) (Aa : Option Addr) (na ca : Nat) (Ak : Option Addr) (nk ck : Nat) : Prop where
  edit : EdtOk w D s.edit Aa na ca Ak nk ck
  do_ : (Lit.int .i64 s.edit.do_).wf = true
  was : s.was.size ≤ 1152921504606846976
  parent : (Lit.int .i64 s.parent).wf = true
  place : (Lit.int .i64 s.place).wf = true
def tStp : Ty Stp := tMap (tPair tEdt (tPair tBool (tPair tStr (tPair (tInt .i64) (tInt .i64))))) (fun s => (s.edit, s.had, s.was, s.parent, s.place)) 200
theorem stp_cells {w : World} {D : Nat → Prop} {s : Stp} {cs : List Value} (h : tStp.rep w D s cs) : ∃ Aa na ca Ak nk ck, cs = (stpCells s Aa na ca Ak nk ck).toList ∧ StpOk w D s Aa na ca Ak nk ck := by
  obtain ⟨c1, c2, rfl, h1, c3, c4, rfl, h2, c5, c6, rfl, ⟨rfl, h3⟩, c7, c8, rfl, ⟨rfl, h4⟩, rfl, h5⟩ := h
  obtain rfl := h2
  obtain ⟨_, _, _, ⟨_, hd⟩, _⟩ := id h1
  obtain ⟨Aa, na, ca, Ak, nk, ck, rfl, hn⟩ := edt_cells h1
  exact ⟨Aa, na, ca, Ak, nk, ck, rfl, hn, hd, h3, h4, h5⟩
theorem stp_rep {w : World} {D : Nat → Prop} {s : Stp} {Aa : Option Addr} {na ca : Nat} {Ak : Option Addr} {nk ck : Nat} (h : StpOk w D s Aa na ca Ak nk ck) : tStp.rep w D s (stpCells s Aa na ca Ak nk ck).toList :=
  ⟨(edtCells s.edit Aa na ca Ak nk ck).toList, _, rfl, edt_rep h.edit h.do_, [_], _, rfl, rfl, [_], _, rfl, ⟨rfl, h.was⟩, [_], [_], rfl, ⟨rfl, h.parent⟩, rfl, h.place⟩
/-- One step of a slice of them. -/
theorem stp_get {w : World} {D : Nat → Prop} {A : Option Addr} {n c : Nat} {ss : List Stp} (h : Sl tStp w D A n c ss) {i : Nat} {s : Stp} (hs : ss[i]? = some s) :
    ∃ b o Aa na ca Ak nk ck, A = some ⟨b, o, none⟩ ∧ D b ∧ StpOk w D s Aa na ca Ak nk ck ∧ ∀ (j : Nat) u, (stpCells s Aa na ca Ak nk ck)[j]? = some u → w.cell? ⟨b, o + (i * 16 + j), none⟩ = some u := by
  obtain ⟨b, o, cs, e', hD, hr, hc⟩ := h.get hs
  obtain ⟨Aa, na, ca, Ak, nk, ck, rfl, hn⟩ := stp_cells hr
  exact ⟨b, o, Aa, na, ca, Ak, nk, ck, e', hD, hn, fun j u hu => hc j u (by simpa using hu)⟩
theorem elemStp : ElemOf Tryz.prog 27 48 tStp.size 200 := mkElem Tryz.underlying27 (by kernel_rfl) (z := .agg (stpCells ⟨⟨0, 0, 0, 0, ⟨#[]⟩, ⟨#[]⟩, ⟨0, ⟨#[]⟩, [], ⟨#[]⟩, 0, []⟩⟩, false, ⟨#[]⟩, 0, 0⟩ none 0 0 none 0 0)) rfl (by decide)
theorem StpOk.below {w w' : World} {B B' : Nat} {s : Stp} {Aa : Option Addr} {na ca : Nat} {Ak : Option Addr} {nk ck : Nat} (h : StpOk w (lt B) s Aa na ca Ak nk ck) (hb : Below B' w w') (hB : B ≤ B') : StpOk w' (lt B) s Aa na ca Ak nk ck :=
  ⟨h.edit.below hb hB, h.do_, h.was, h.parent, h.place⟩
end Go.Proofs.YtfeighclpaijoaaGreatDoor
