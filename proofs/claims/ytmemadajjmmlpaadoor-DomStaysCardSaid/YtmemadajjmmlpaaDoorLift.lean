/-
What an argument reads as, for the claim's form, is what it reads as for the walks: by the type's shape. No program in sight.
-/
import Derived.Test.YtmemadajjmmlpaaDoorKit
import Derived.ProofKit
import Derived.SizedLaws
import Derived.Deep.Slices
import Derived.ChangeSame
namespace Go.Cl
open Go.RowKit Go.ChangeShapes Go.WideShapes Go.Deep

/-- The type t of the program P lies in memory as T says. -/
structure Lifts {α : Type} (P : Program) (t : TypeId) (T : Ty α) : Prop where
  size : P.cellsOf t = T.size
  bytes : P.bytesOf t = T.bytes
  read : ∀ {H : Type} (enc : TypeId × Value → H) (w : World) (base : Nat) (held : Bool) (fuel : Nat) (cs : List Value) (x : DataW H × List MemPlace),
    DataW.trod enc P w base (fun _ => true) held fuel t cs = some x → (∀ n ∈ x.1.weights P t, n ≤ reachBytes) → ∃ d, T.rep w (lt w.heap.size) d cs

theorem reach_le : reachBytes ≤ 140737488355328 := by decide

theorem lifts_int {P : Program} {t : TypeId} {k : IntKind} (ht : P.underlying t = some (.int k)) (hc : P.cellsOf t = 1) (hb : P.bytesOf t = kindBytes k) : Lifts P t (tInt k) where
  size := hc
  bytes := hb
  read enc w base held fuel cs x h _ := by
    obtain ⟨n, rfl, _, hw⟩ := DataW.trod_int ht h
    exact ⟨n, rfl, hw⟩
theorem lifts_bool {P : Program} {t : TypeId} (ht : P.underlying t = some .bool) (hc : P.cellsOf t = 1) (hb : P.bytesOf t = 1) : Lifts P t tBool where
  size := hc
  bytes := hb
  read enc w base held fuel cs x h _ := by
    obtain ⟨n, rfl, _⟩ := DataW.trod_bool ht h
    exact ⟨n, rfl⟩
theorem lifts_str {P : Program} {t : TypeId} (ht : P.underlying t = some .string) (hc : P.cellsOf t = 1) (hb : P.bytesOf t = 16) : Lifts P t tStr where
  size := hc
  bytes := hb
  read enc w base held fuel cs x h hw := by
    obtain ⟨s, rfl, rfl, _⟩ := DataW.trod_string ht h
    refine ⟨s, rfl, ?_⟩
    have h1 := hw s.data.toList.length (by rw [DataW.weights]; exact List.mem_singleton.2 rfl)
    have e : s.data.toList.length = s.size := by rw [ByteArray.size, Array.length_toList]
    have h2 := reach_le
    omega

theorem weightsAll_mem {H : Type} {P : Program} {e : TypeId} {l : List (DataW H)} {d : DataW H} (hd : d ∈ l) {n : Nat} (hn : n ∈ d.weights P e) : n ∈ DataW.weightsAll P e l := by
  induction l with
  | nil => cases hd
  | cons x l ih =>
    rcases List.mem_cons.1 hd with rfl | hd
    · simp [DataW.weightsAll, hn]
    · simp [DataW.weightsAll, ih hd]

theorem row_up {α : Type} {T : Ty α} {w : World} {D : Nat → Prop} {a : Addr} (len : Nat)
    (h : ∀ i, i < len → ∃ d cs, T.rep w D d cs ∧ ∀ j, j < T.size → w.cell? ((a.add (i * T.size)).add j) = cs[j]?) :
    ∃ xs cells, xs.length = len ∧ Row T w D xs cells ∧ ∀ j u, cells[j]? = some u → w.cell? (a.add j) = some u := by
  induction len with
  | zero => exact ⟨[], [], rfl, Row.nil, by simp⟩
  | succ n ih =>
    obtain ⟨xs, cells, hl, hr, hc⟩ := ih fun i hi => h i (by omega)
    obtain ⟨d, cs, hd, hj⟩ := h n (by omega)
    refine ⟨xs ++ [d], cells ++ cs, by simp [hl], hr.append (Row.one hd), fun j u hu => ?_⟩
    have hlen := hr.len
    rw [hl] at hlen
    rcases Nat.lt_or_ge j cells.length with hlt | hge
    · rw [List.getElem?_append_left hlt] at hu
      exact hc j u hu
    · rw [List.getElem?_append_right hge] at hu
      have hlt : j - cells.length < cs.length := (List.getElem?_eq_some_iff.1 hu).1
      rw [T.len hd] at hlt
      have := hj (j - cells.length) hlt
      rw [Go.Deep.add_add, hu] at this
      rw [← this]
      congr 2
      omega

theorem addr_form {w : World} {a : Addr} {v : Value} (h : w.cell? a = some v) : a = ⟨a.block, a.off, none⟩ := by
  have := World.cell?_spot h
  cases a
  simp_all

theorem lifts_slice {α : Type} {T : Ty α} {P : Program} {t e : TypeId} (ht : P.underlying t = some (.slice e)) (hc : P.cellsOf t = 1) (hb : P.bytesOf t = 24) (hT : Lifts P e T) (hpos : 0 < T.size) : Lifts P t (tSlice T) where
  size := hc
  bytes := hb
  read enc w base held fuel cs x h hw := by
    rcases open_slice ht h with ⟨rfl, rfl⟩ | ⟨a, len, cap, m, n, D, Pl, rfl, hb, hl, hm, hmm, rfl, hi⟩
    · exact ⟨[], none, 0, 0, rfl, Sl.nil⟩
    · have hmc : m = cap := by simpa using hmm
      subst hmc
      simp only [DataW.weights, ht] at hw
      have hcap : m * T.bytes ≤ 140737488355328 := by
        have h1 := hw _ List.mem_cons_self
        simp at h1
        rw [hT.bytes, show len + (m - len) = m from by omega] at h1
        exact Nat.le_trans h1 reach_le
      have hel : ∀ i, i < len → ∃ d cs, T.rep w (lt w.heap.size) d cs ∧ ∀ j, j < T.size → w.cell? ((a.add (i * T.size)).add j) = cs[j]? := by
        intro i hil
        obtain ⟨cs', h1, h2⟩ := hi i (by omega)
        rw [hT.size] at h1
        obtain ⟨_, h3, h4⟩ := World.cells?_some h1
        obtain ⟨d, hd⟩ := hT.read enc w base held n cs' _ h2 (fun k hk => hw k (List.mem_cons_of_mem _ (List.mem_append_left _ (weightsAll_mem (List.mem_map.2 ⟨i, List.mem_range.2 hil, rfl⟩) hk))))
        exact ⟨d, cs', hd, h4⟩
      obtain ⟨xs, cells, hxl, hr, hcell⟩ := row_up (a := a) len hel
      refine ⟨xs, some a, len, m, rfl, hxl.symm, hl, Nat.le_trans (Nat.mul_le_mul_right _ hl) hcap, hm, by simp, fun h0 => ?_⟩
      have hlen := hr.len
      have h00 : 0 < cells.length := by rw [hlen, hxl]; exact Nat.mul_pos h0 hpos
      have hc0 := hcell 0 cells[0] (List.getElem?_eq_getElem h00)
      have ha : a.add 0 = a := rfl
      rw [ha] at hc0
      have hf := addr_form hc0
      refine ⟨a.block, a.off, cells, by rw [← hf], World.block_lt_of_cell? w a hc0, hr, fun j u hu => ?_⟩
      rw [← hcell j u hu]
      congr 1
      rw [hf]
      unfold Addr.add
      split
      · rename_i h; subst h; rfl
      · rfl

/-- The fields from one offset on. -/
structure LiftsF {α : Type} (P : Program) (fs : List Field) (off : Nat) (T : Ty α) : Prop where
  size : (fs.map fun f => P.cellsOf f.type).sum = T.size
  read : ∀ {H : Type} (enc : TypeId × Value → H) (w : World) (base : Nat) (held : Bool) (fuel : Nat) (cs : List Value) (ys : List (DataW H × List MemPlace)),
    cs.length = off + T.size → ys.length = fs.length →
    (∀ (i : Nat) (f : Field), fs[i]? = some f → DataW.trod enc P w base (fun _ => true) held fuel f.type ((cs.drop f.offset).take (P.cellsOf f.type)) = ys[i]?) →
    (∀ n ∈ DataW.weightsEach P (fs.map (·.type)) (ys.map (·.1)), n ≤ reachBytes) → ∃ d, T.rep w (lt w.heap.size) d (cs.drop off)

theorem liftsF_one {α : Type} {T : Ty α} {P : Program} {f : Field} {off : Nat} (ho : f.offset = off) (hT : Lifts P f.type T) : LiftsF P [f] off T where
  size := by simp [hT.size]
  read enc w base held fuel cs ys hl hy h hw := by
    match ys, hy with
    | [y], _ =>
      have h0 := h 0 f rfl
      rw [ho, hT.size, List.take_of_length_le (by simp [hl])] at h0
      exact hT.read enc w base held fuel _ y h0 (fun n hn => hw n (by simp [DataW.weightsEach, hn]))

theorem liftsF_cons {α β : Type} {S : Ty α} {T : Ty β} {P : Program} {f : Field} {fs : List Field} {off : Nat} (ho : f.offset = off) (hS : Lifts P f.type S) (hT : LiftsF P fs (off + S.size) T) :
    LiftsF P (f :: fs) off (tPair S T) where
  size := by simp [hS.size, hT.size, tPair]
  read enc w base held fuel cs ys hl hy h hw := by
    match ys, hy with
    | y :: ys, hy =>
      have h0 := h 0 f rfl
      have hl' : cs.length = off + (S.size + T.size) := hl
      obtain ⟨d2, hd2⟩ := hT.read enc w base held fuel cs ys (by omega) (by simpa using hy) (fun i g hg => by simpa using h (i + 1) g (by simpa using hg))
        (fun n hn => hw n (by simp [DataW.weightsEach, hn]))
      rw [ho, hS.size] at h0
      obtain ⟨d1, hd1⟩ := hS.read enc w base held fuel _ y h0 (fun n hn => hw n (by simp [DataW.weightsEach, hn]))
      refine ⟨(d1, d2), _, _, ?_, hd1, hd2⟩
      rw [← List.drop_drop, List.take_append_drop]

theorem lifts_struct {α : Type} {T : Ty α} {P : Program} {t : TypeId} {fs : List Field} (ht : P.underlying t = some (.struct fs.toArray)) (hc : P.cellsOf t = T.size) (hb : P.bytesOf t = T.bytes) (hT : LiftsF P fs 0 T) : Lifts P t T where
  size := hc
  bytes := hb
  read enc w base held fuel cs x h hw := by
    obtain ⟨ys, n, _, rfl, hl, hyl, hf⟩ := DataW.trod_struct ht h
    have hw' : ∀ n ∈ DataW.weightsEach P (fs.map (·.type)) (ys.map (·.1)), n ≤ reachBytes := fun n hn => hw n (by simpa [DataW.weights, ht] using hn)
    obtain ⟨d, hd⟩ := hT.read enc w base held n cs ys (by rw [hl, hc]; simp) (by simpa using hyl) (fun i f hi => hf i f (by simpa using hi)) hw'
    exact ⟨d, by simpa using hd⟩

theorem lifts_map {α β : Type} {T : Ty α} {P : Program} {t : TypeId} {f : β → α} (g : α → β) (hg : ∀ a, f (g a) = a) (hT : Lifts P t T) : Lifts P t (tMap T f T.bytes T.pos) where
  size := hT.size
  bytes := hT.bytes
  read enc w base held fuel cs x h hw := by
    obtain ⟨d, hd⟩ := hT.read enc w base held fuel cs x h hw
    exact ⟨g d, by show T.rep _ _ (f (g d)) _; rw [hg]; exact hd⟩

/-- An argument of a law. -/
theorem Lifts.arg {α : Type} {T : Ty α} {P : Program} {ts : List TypeId} {t : TypeId} (hT : Lifts P t T) {H : Type} {enc : TypeId × Value → H} {w : World} {base : Nat} {held : Bool} {v : Value} {ds : List (DataW H)} {d : DataW H} {p : List MemPlace}
    (h : DataW.Trod enc P w base (fun _ => true) held t v d p) (hw : (DataW.weightsEach P ts ds).all (· ≤ reachBytes) = true) {j : Nat} (htj : ts[j]? = some t) (hdj : ds[j]? = some d) :
    ∃ x, T.rep w (lt w.heap.size) x v.cells.toList := by
  obtain ⟨fuel, hf⟩ := h
  exact hT.read enc w base held fuel _ _ hf fun n hn => by
    have := List.all_eq_true.1 hw _ (DataW.weights_mem_each htj hdj n hn)
    simpa using this

end Go.Cl
