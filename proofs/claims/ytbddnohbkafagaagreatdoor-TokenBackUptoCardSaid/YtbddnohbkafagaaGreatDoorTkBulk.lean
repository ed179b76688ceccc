/-
What a bounded size says of a slice of tokens.
-/
import Derived.Test.YtbddnohbkafagaaGreatDoorRows
import Derived.Test.YtbddnohbkafagaaGreatDoorTkS3
namespace Go.Proofs.YtbddnohbkafagaaGreatDoor
open Go.RowKit Go.Cl
set_option maxRecDepth 100000
theorem bulk_at {H : Type} {d : DataW H} {l : List (DataW H)} {i : Nat} (h : l[i]? = some d) : Rows.uptoBulk d ≤ Rows.uptoBulkAll l := by
  induction l generalizing i with
  | nil => cases h
  | cons x r ih =>
    simp only [Rows.uptoBulkAll]
    cases i with
    | zero =>
      have e : x = d := by simpa using h
      subst e
      omega
    | succ i =>
      have := ih (i := i) (by simpa using h)
      omega
theorem bulk_one {H : Type} {d : DataW H} {l : List (DataW H)} (hk : Rows.uptoSmall H (d :: l) = true) : Rows.uptoBulk d ≤ 1048576 := by
  have h : Rows.uptoBulkAll (d :: l) ≤ 1048576 := of_decide_eq_true hk
  simp only [Rows.uptoBulkAll] at h
  omega
theorem bulk_attrs {H : Type} : ∀ (l : List DAttr) (E : List (DataW H)), l.length = E.length → (∀ (i : Nat) (a : DAttr) (d : DataW H), l[i]? = some a → E[i]? = some d → a.1.size + a.2.size + 1 ≤ Rows.uptoBulk d) → attW l ≤ Rows.uptoBulkAll E
  | [], _, _, _ => Nat.zero_le _
  | a :: l, [], h, _ => by cases h
  | a :: l, d :: E, h, hh => by
    have h1 := hh 0 a d rfl rfl
    have h2 := bulk_attrs l E (by simpa using h) (fun i a d ha hd => hh (i + 1) a d (by simpa using ha) (by simpa using hd))
    simp only [Rows.uptoBulkAll]
    show (a.1.size + a.2.size + 1) + attW l ≤ _
    omega
theorem tok_get' {w : World} {D : Nat → Prop} {A : Option Addr} {n c : Nat} {xs : List TkP} (h : Sl tTok w D A n c xs) {j : Nat} {x : TkP} (hx : xs[j]? = some x) :
    ∃ b o A2 n2 c2, A = some ⟨b, o, none⟩ ∧ w.cell? ⟨b, o + j * 7, none⟩ = some (.int .i64 x.1.kind) ∧ w.cell? ⟨b, o + j * 7 + 1, none⟩ = some (.string x.1.name) ∧ w.cell? ⟨b, o + j * 7 + 2, none⟩ = some (.slice A2 n2 c2) ∧ w.cell? ⟨b, o + j * 7 + 3, none⟩ = some (.string x.1.text) ∧ w.cell? ⟨b, o + j * 7 + 4, none⟩ = some (.bool x.1.self) ∧ w.cell? ⟨b, o + j * 7 + 5, none⟩ = some (.int .i64 x.2.1) ∧ w.cell? ⟨b, o + j * 7 + 6, none⟩ = some (.int .i64 x.2.2) ∧ Sl tDA w D A2 n2 c2 x.1.attrs := by
  obtain ⟨b, o, cs, e, hD, hrep, hc⟩ := h.get hx
  obtain ⟨A2, n2, c2, rfl, hat⟩ := tok_cells hrep
  exact ⟨b, o, A2, n2, c2, e, hc 0 _ rfl, hc 1 _ rfl, hc 2 _ rfl, hc 3 _ rfl, hc 4 _ rfl, hc 5 _ rfl, hc 6 _ rfl, hat.attrs⟩
section
variable {H : Type} {enc : TypeId × Value → H} {W : World} {sp : Nat → Bool} {held : Bool}
theorem one_take {cs : List Value} {k : Nat} {v : Value} (h : (cs.drop k).take 1 = [v]) : cs[k]? = some v := by
  have := congrArg (·[0]?) h
  simpa [List.getElem?_take, List.getElem?_drop] using this
theorem attr_bulk {D : Nat → Prop} {A : Option Addr} {n c fuel : Nat} {l : List DAttr} {d : DataW H} {p : List MemPlace} (hl : Sl tDA W D A n c l) (h : DataW.trod enc Tryz.prog W 0 sp held fuel 30 [.slice A n c] = some (d, p)) : attW l ≤ Rows.uptoBulk d := by
  have c1 : Tryz.prog.cellsOf 9 = 1 := by kernel_rfl
  have c2 : Tryz.prog.cellsOf 55 = 2 := by kernel_rfl
  rcases DataW.trod_slice Tryz.underlying30 h with ⟨hcs, _⟩ | ⟨a, len, cap, el, rs, m, rfl, hcs, hx, _, _, _, hel, helem, _, _⟩
  · have hn := hl.hn
    injection hcs with hcs
    injection hcs with _ hn0 _
    have : l = [] := List.length_eq_zero_iff.1 (by omega)
    subst this
    exact Nat.zero_le _
  · injection hcs with hcs
    injection hcs with hA hn0 _
    subst hA hn0
    have hd : d = .slice (el.map (·.1)) (rs.map (·.1)) := (Prod.mk.inj hx).1
    have hb : Rows.uptoBulkAll (el.map (·.1)) ≤ Rows.uptoBulk d := by
      rw [hd]
      simp only [Rows.uptoBulk]
      omega
    refine Nat.le_trans (bulk_attrs l (el.map (·.1)) (by rw [List.length_map, hel]; exact hl.hn.symm) fun i x e hxi he => ?_) hb
    obtain ⟨b, o, ha, _, g0, g1, _, _⟩ := da_cells hl hxi
    injection ha with ha
    subst ha
    have hi : i < n := by have := (List.getElem?_eq_some_iff.1 hxi).1; have := hl.hn; omega
    have h1 := helem i hi
    rw [c2] at h1
    rw [List.getElem?_map] at he
    obtain ⟨⟨e', q⟩, hq, rfl⟩ := Option.map_eq_some_iff.1 he
    rw [hq] at h1
    obtain ⟨ce, hce, hte⟩ := Option.bind_eq_some_iff.1 h1
    obtain ⟨_, _, hcc⟩ := World.cells?_some hce
    have e0 : ((⟨b, o, none⟩ : Addr).add (i * 2)).add 0 = ⟨b, o + i * 2, none⟩ := by rw [Addr.add_lit, Addr.add_lit]; rfl
    have e1 : ((⟨b, o, none⟩ : Addr).add (i * 2)).add 1 = ⟨b, o + i * 2 + 1, none⟩ := by rw [Addr.add_lit, Addr.add_lit]
    have k0 := hcc 0 (by decide)
    have k1 := hcc 1 (by decide)
    rw [e0, g0] at k0
    rw [e1, g1] at k1
    obtain ⟨xs, k, _, hxs, _, hxl, hall⟩ := DataW.trod_struct Tryz.underlying55 hte
    obtain ⟨z0, z1, rfl⟩ : ∃ z0 z1, xs = [z0, z1] := by
      match xs, hxl with
      | [z0, z1], _ => exact ⟨z0, z1, rfl⟩
    have f0 := hall 0 _ rfl
    have f1 := hall 1 _ rfl
    change DataW.trod _ _ _ _ _ _ _ 9 ((ce.drop 0).take (Tryz.prog.cellsOf 9)) = some z0 at f0
    change DataW.trod _ _ _ _ _ _ _ 9 ((ce.drop 1).take (Tryz.prog.cellsOf 9)) = some z1 at f1
    rw [c1] at f0 f1
    obtain ⟨s0, q0, rfl, _⟩ := DataW.trod_string Tryz.underlying9 f0
    obtain ⟨s1, q1, rfl, _⟩ := DataW.trod_string Tryz.underlying9 f1
    rw [one_take q0] at k0
    rw [one_take q1] at k1
    have y0 : x.1 = s0 := by injection k0 with k0; injection k0
    have y1 : x.2 = s1 := by injection k1 with k1; injection k1
    have hd2 : e' = .agg [.lit (.string s0.data.toList), .lit (.string s1.data.toList)] := (Prod.mk.inj hxs).1
    have l0 := Lib.size_eq s0
    have l1 := Lib.size_eq s1
    rw [hd2, y0, y1]
    simp only [Rows.uptoBulk, Rows.uptoBulkAll]
    omega
theorem tok_bulk {D : Nat → Prop} {A : Option Addr} {n c fuel : Nat} {l : List TkP} {d : DataW H} {p : List MemPlace} (hl : Sl tTok W D A n c l) (h : DataW.trod enc Tryz.prog W 0 sp held fuel 22 [.slice A n c] = some (d, p)) (hk : Rows.uptoBulk d ≤ 1048576) : ∀ x ∈ l, TkSmall x.1 := by
  have c1 : Tryz.prog.cellsOf 9 = 1 := by kernel_rfl
  have c3 : Tryz.prog.cellsOf 30 = 1 := by kernel_rfl
  have c7 : Tryz.prog.cellsOf 32 = 7 := by kernel_rfl
  intro x hxm
  obtain ⟨i, hi0, hxi0⟩ := List.mem_iff_getElem.1 hxm
  have hxi : l[i]? = some x := by rw [List.getElem?_eq_getElem hi0, hxi0]
  rcases DataW.trod_slice Tryz.underlying22 h with ⟨hcs, _⟩ | ⟨a, len, cap, el, rs, m, rfl, hcs, hx, _, _, _, hel, helem, _, _⟩
  · have hn := hl.hn
    injection hcs with hcs
    injection hcs with _ hn0 _
    omega
  · injection hcs with hcs
    injection hcs with hA hn0 _
    subst hA hn0
    have hd : d = .slice (el.map (·.1)) (rs.map (·.1)) := (Prod.mk.inj hx).1
    have hb : Rows.uptoBulkAll (el.map (·.1)) ≤ 1048576 := by
      rw [hd] at hk
      simp only [Rows.uptoBulk] at hk
      omega
    obtain ⟨b, o, A2, n2, c2, ha, _, g1, g2, g3, _, _, _, hat⟩ := tok_get' hl hxi
    injection ha with ha
    subst ha
    have hi : i < n := by have := hl.hn; omega
    have h1 := helem i hi
    rw [c7] at h1
    obtain ⟨⟨e', q⟩, hq⟩ : ∃ z, el[i]? = some z := ⟨el[i]'(by omega), List.getElem?_eq_getElem (by omega)⟩
    have hbe : Rows.uptoBulk e' ≤ 1048576 := Nat.le_trans (bulk_at (i := i) (by rw [List.getElem?_map, hq]; rfl)) hb
    rw [hq] at h1
    obtain ⟨ce, hce, hte⟩ := Option.bind_eq_some_iff.1 h1
    obtain ⟨_, _, hcc⟩ := World.cells?_some hce
    have e1 : ((⟨b, o, none⟩ : Addr).add (i * 7)).add 1 = ⟨b, o + i * 7 + 1, none⟩ := by rw [Addr.add_lit, Addr.add_lit]
    have e2 : ((⟨b, o, none⟩ : Addr).add (i * 7)).add 2 = ⟨b, o + i * 7 + 2, none⟩ := by rw [Addr.add_lit, Addr.add_lit]
    have e3 : ((⟨b, o, none⟩ : Addr).add (i * 7)).add 3 = ⟨b, o + i * 7 + 3, none⟩ := by rw [Addr.add_lit, Addr.add_lit]
    have k1 := hcc 1 (by decide)
    have k2 := hcc 2 (by decide)
    have k3 := hcc 3 (by decide)
    rw [e1, g1] at k1
    rw [e2, g2] at k2
    rw [e3, g3] at k3
    obtain ⟨xs, k, _, hxs, _, hxl, hall⟩ := DataW.trod_struct Tryz.underlying32 hte
    obtain ⟨z0, z1, z2, z3, z4, z5, z6, rfl⟩ : ∃ z0 z1 z2 z3 z4 z5 z6, xs = [z0, z1, z2, z3, z4, z5, z6] := by
      match xs, hxl with
      | [z0, z1, z2, z3, z4, z5, z6], _ => exact ⟨z0, z1, z2, z3, z4, z5, z6, rfl⟩
    have f1 := hall 1 _ rfl
    have f2 := hall 2 _ rfl
    have f3 := hall 3 _ rfl
    change DataW.trod _ _ _ _ _ _ _ 9 ((ce.drop 1).take (Tryz.prog.cellsOf 9)) = some z1 at f1
    change DataW.trod _ _ _ _ _ _ _ 30 ((ce.drop 2).take (Tryz.prog.cellsOf 30)) = some z2 at f2
    change DataW.trod _ _ _ _ _ _ _ 9 ((ce.drop 3).take (Tryz.prog.cellsOf 9)) = some z3 at f3
    rw [c1] at f1 f3
    rw [c3] at f2
    obtain ⟨s1, q1, rfl, _⟩ := DataW.trod_string Tryz.underlying9 f1
    obtain ⟨s3, q3, rfl, _⟩ := DataW.trod_string Tryz.underlying9 f3
    rw [one_take q1] at k1
    rw [one_take q3] at k3
    have y1 : x.1.name = s1 := by injection k1 with k1; injection k1
    have y3 : x.1.text = s3 := by injection k3 with k3; injection k3
    have hsing : (ce.drop 2).take 1 = [.slice A2 n2 c2] := by
      have h0 : 2 < ce.length := (List.getElem?_eq_some_iff.1 k2.symm).1
      rw [List.drop_eq_getElem_cons h0, List.take_succ_cons, List.take_zero]
      have := (List.getElem?_eq_some_iff.1 k2.symm).2
      rw [this]
    rw [hsing] at f2
    have hw := attr_bulk hat (d := z2.1) (p := z2.2) f2
    have hd2 : e' = .agg [z0.1, .lit (.string s1.data.toList), z2.1, .lit (.string s3.data.toList), z4.1, z5.1, z6.1] := (Prod.mk.inj hxs).1
    have l1 := Lib.size_eq s1
    have l3 := Lib.size_eq s3
    rw [hd2] at hbe
    simp only [Rows.uptoBulk, Rows.uptoBulkAll] at hbe
    refine ⟨by omega, by rw [y1]; omega, by rw [y3]; omega⟩
theorem tok_small {A : Option Addr} {n c : Nat} {l : List TkP} {d : DataW H} {p : List MemPlace} (hl : Sl tTok W (lt W.heap.size) A n c l)
    (h : DataW.Trod enc Tryz.prog W 0 sp held 22 (.slice A n c) d p) (hk : Rows.uptoBulk d ≤ 1048576) : ∀ x ∈ l, TkSmall x.1 := by
  obtain ⟨fuel, hf⟩ := h
  exact tok_bulk hl hf hk
end
end Go.Proofs.YtbddnohbkafagaaGreatDoor
