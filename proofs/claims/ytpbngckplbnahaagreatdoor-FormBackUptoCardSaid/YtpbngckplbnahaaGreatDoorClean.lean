/-
The walks of package chars: signs, Clean.
-/
import Derived.Test.YtpbngckplbnahaaGreatDoorSigns
namespace Go.Proofs.YtpbngckplbnahaaGreatDoor
open Go.RowKit Go.Cl Go.Shelf
attribute [local go_sem] Oper.semAt_some

theorem signs_any (s : ByteArray) (w : World) :
    Calls Tryz.prog 70 #[.string s] w fun e w' => e = .returned (.func (.func 115) #[] #[.pointer (some ⟨w.heap.size, 0, none⟩)]) ∧ w' = w.alloc (.cells #[.string s] 9) := by
  go_enter Tryz.func70, Tryz.ntmps70
  go_wp2_with fail
  go_ret
  exact ⟨rfl, rfl⟩

theorem signs_stops (n : Nat) (hn : 1 ≤ n) (Bs : Nat) (s : ByteArray) (hs : s.size ≤ 1000000000) (w : World) (hBs : Bs < w.heap.size) (hc : w.cell? ⟨Bs, 0, none⟩ = some (.string s)) :
    SeqStopsK Fence.wide n Tryz.prog 115 #[.pointer (some ⟨Bs, 0, none⟩)] (fun x : Sg => #[Value.int .i64 x.1.1, Value.int .i32 x.1.2]) (Kept Bs) (fun ys => ys = signsL 0 s.data.toList) (fun pre => pre <+: signsL 0 s.data.toList) s.size w :=
  fun l J Jx W hW hJ _ hY h0 => signs1_in n hn l Bs s hs J Jx W hJ hY ((hW.cell (p := ⟨Bs, 0, none⟩) hBs).trans hc) h0

theorem kept_t {Bs : Nat} {A B C : World} (h : Kept Bs A B) (k : Kept Bs B C) : Kept Bs A C := Eq.trans k h
theorem kept_b {Bs : Nat} {w : World} (hB : Bs < w.heap.size) (W : World) (l : Nat) (o o' : Obj) (hl : w.heap.size ≤ l) (_ : W.heap[l]? = some o) (_ : o.isCells = false) (_ : o.isWalk = false) : Kept Bs W (W.putObj l o') := by
  have hg := grownBy_putObj' W l o'
  show (W.putObj l o').cell? ⟨Bs, 0, none⟩ = W.cell? ⟨Bs, 0, none⟩
  exact World.cell?_of_block (a := ⟨Bs, 0, none⟩) (World.putObj_heap_other (by show Bs ≠ l; omega))

/-- What Clean writes for a sign, behind what was last. -/
def cleanB (last r : Int) : List UInt8 := if r = 0 then Lib.encodeRune 65533 else if r = 13 ∨ (r = 10 ∧ last ≠ 13) then [10] else if r ≠ 10 then Lib.encodeRune r else []
def cleanS (a : List UInt8 × Int) (x : Sg) : List UInt8 × Int := (a.1 ++ cleanB a.2 x.1.2, x.1.2)
def cleanL (l : List Sg) : List UInt8 × Int := l.foldl cleanS ([], 0)
theorem clean_snoc (l : List Sg) (x : Sg) : cleanL (l ++ [x]) = ((cleanL l).1 ++ cleanB (cleanL l).2 x.1.2, x.1.2) := by
  unfold cleanL
  rw [List.foldl_append]
  rfl
theorem cleanB_le (a b : Int) : (cleanB a b).length ≤ 4 := by
  unfold cleanB
  split
  · exact enc_rune_le _
  · split
    · show 1 ≤ 4; omega
    · split
      · exact enc_rune_le _
      · exact Nat.zero_le _
theorem clean_le (l : List Sg) : (cleanL l).1.length ≤ 4 * l.length := by
  have h : ∀ (l : List Sg) (a : List UInt8 × Int), (l.foldl cleanS a).1.length ≤ a.1.length + 4 * l.length := by
    intro l
    induction l with
    | nil => intro a; exact Nat.le_refl _
    | cons x l ih =>
      intro a
      have h1 := ih (cleanS a x)
      have h2 : (cleanS a x).1.length ≤ a.1.length + 4 := by
        show (a.1 ++ cleanB a.2 x.1.2).length ≤ _
        rw [List.length_append]
        have := cleanB_le a.2 x.1.2
        omega
      simp only [List.foldl_cons, List.length_cons]
      omega
  have := h l ([], 0)
  unfold cleanL
  simpa using this

theorem keeps_of {W W' : World} (h : Spares W W') : KeepsOthers W W' := ⟨h.size, fun k o hk ho => h.same k o hk (fun cs t fr e => by subst e; cases ho)⟩
theorem bld_grown {B b : Nat} {l : List Value} {w w' : World} {row : Option Nat} (h : Bld B b l w) (hg : w.grownBy w' row) (hr : ∀ r, row = some r → ∃ o : Obj, w.heap[r]? = some o ∧ o.isCells = false) : Bld B b l w' := by
  have hne : ∀ (k : Nat) (cs : Array Value) (t : TypeId) (fr : Nat × Nat), w.heap[k]? = some (.cells cs t fr) → some k ≠ row := fun k cs t fr hk e => by
    obtain ⟨o, ho, hc⟩ := hr k e.symm
    rw [hk] at ho
    obtain rfl := Option.some.inj ho
    cases hc
  have hn : ∀ v : Value, ∀ n xs, w.ownsRow B 5 1 v n xs → v.ownBlock = none ∨ v.ownBlock ≠ row := fun v n xs ho => by
    rcases ho.2 with ⟨rfl, _⟩ | ⟨g, cap, cur, rfl, _, hgc, _⟩
    · exact Or.inl rfl
    · exact Or.inr (hne g _ _ _ hgc)
  rcases h with ⟨hB, v, hbk, hown, hv⟩ | ⟨hB, v, hbk, hown, hv⟩
  · exact Or.inl ⟨hB, v, (hg.block b (Lib.BuilderAt.lt ⟨hB, v, hbk, hown, hv⟩) (hne b _ _ _ hbk)).trans hbk, hown.kept hg (hn v _ _ hown), hv⟩
  · exact Or.inr ⟨hB, v, (hg.block b (Lib.BuilderAt.lt ⟨hB, v, hbk, hown, hv⟩) (hne b _ _ _ hbk)).trans hbk, hown.kept hg (hn v _ _ hown), hv⟩
theorem cells_grown {w w' : World} {row : Option Nat} {k : Nat} {cs : Array Value} {t : TypeId} {fr : Nat × Nat} (h : w.heap[k]? = some (.cells cs t fr)) (hg : w.grownBy w' row) (hr : ∀ r, row = some r → ∃ o : Obj, w.heap[r]? = some o ∧ o.isCells = false) : w'.heap[k]? = some (.cells cs t fr) := by
  refine (hg.block k (Array.getElem?_eq_some_iff.1 h).1 fun e => ?_).trans h
  obtain ⟨o, ho, hc⟩ := hr k e.symm
  rw [h] at ho
  obtain rfl := Option.some.inj ho
  cases hc
end Go.Proofs.YtpbngckplbnahaaGreatDoor
