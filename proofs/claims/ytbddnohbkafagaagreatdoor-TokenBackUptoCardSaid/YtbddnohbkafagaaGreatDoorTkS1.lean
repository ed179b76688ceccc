/-
The shower's bare.
-/
import Derived.Test.YtbddnohbkafagaaGreatDoorTkR3
import Derived.Test.YtbddnohbkafagaaGreatDoorTokShowLaw
import Derived.Test.YtbddnohbkafagaaGreatDoorStrSet
import Derived.Deep.RegionWith
namespace Go.Proofs.YtbddnohbkafagaaGreatDoor
open Go.RowKit Go.Cl
attribute [local go_sem ↓] Go.wp_at_zero Go.wp_at_succ
theorem emp_list (b : ByteArray) : b.toList.isEmpty = b.data.toList.isEmpty := by rw [Lib.toList_data]
set_option maxRecDepth 100000 in
set_option maxHeartbeats 4000000 in
theorem tkBare_any (x : TkP) (A : Option Addr) (n c : Nat) (hn : n = x.1.attrs.length) (bn ba bx : Bool) (hb : bn = true ∧ ba = true ∧ bx = false ∨ bn = true ∧ ba = false ∧ bx = false ∨ bn = false ∧ ba = false ∧ bx = true) (w : World) :
    Calls Tryz.prog 20 #[.agg (tokC x.1.kind x.1.name (.slice A n c) x.1.text x.1.self x.2.1 x.2.2), .bool bn, .bool ba, .bool bx] w fun e w' => e = .returned (.bool (bareF x.1 bn ba bx)) ∧ Below w.heap.size w w' := by
  obtain ⟨⟨k, nm, at_, tx, sf⟩, f, t⟩ := x
  dsimp only
  have h2 : ((n : Int) == 0) = at_.isEmpty := by
    rw [hn]
    cases at_ <;> simp
    omega
  have e1 := emp_list nm
  have e3 := emp_list tx
  obtain ⟨b1, hb1⟩ : ∃ b1, nm.data.toList.isEmpty = b1 := ⟨_, rfl⟩
  obtain ⟨b2, hb2⟩ : ∃ b2, at_.isEmpty = b2 := ⟨_, rfl⟩
  obtain ⟨b3, hb3⟩ : ∃ b3, tx.data.toList.isEmpty = b3 := ⟨_, rfl⟩
  have HR := Lib.hid (show bareF ⟨k, nm, at_, tx, sf⟩ bn ba bx = ((bn || b1) && (ba || (b2 && !sf)) && (bx || b3)) by unfold bareF; rw [hb1, hb2, hb3])
  rw [hb1] at e1
  rw [hb2] at h2
  rw [hb3] at e3
  clear hb1 hb2 hb3 hn
  rcases hb with ⟨rfl, rfl, rfl⟩ | ⟨rfl, rfl, rfl⟩ | ⟨rfl, rfl, rfl⟩
  · cases b3
    all_goals
      go_enter Tryz.func20, Tryz.ntmps20
      go_wp2_with fail
      go_ret
      exact ⟨by rw [HR.out]; rfl, tal (Below.refl _ _) _⟩
  · cases b2 <;> cases sf <;> cases b3
    all_goals
      go_enter Tryz.func20, Tryz.ntmps20
      go_wp2_with fail
      go_ret
      exact ⟨by rw [HR.out]; rfl, tal (Below.refl _ _) _⟩
  · cases b1 <;> cases b2 <;> cases sf
    all_goals
      go_enter Tryz.func20, Tryz.ntmps20
      go_wp2_with fail
      go_ret
      exact ⟨by rw [HR.out]; rfl, tal (Below.refl _ _) _⟩
end Go.Proofs.YtbddnohbkafagaaGreatDoor

/-
The shower's tagged.
-/
namespace Go.Proofs.YtbddnohbkafagaaGreatDoor
open Go.RowKit Go.Cl
attribute [local go_sem ↓] Go.wp_at_zero Go.wp_at_succ
open Go.WideMaps (keyOf_string_mk)
open Go.Maps (setOf_snoc)
theorem SetAt.look2 {w : World} {b : Nat} {seen : List ByteArray} (h : SetAt w b seen) {x : ByteArray} (hx : x.size ≤ 4000000) :
    (Instr.lookup 73 (.map (some b)) (.string x) true).run Tryz.prog w = .ok (.tuple #[.agg #[], .bool (seen.any (fun z => z.toList == x.toList))]) w := by
  obtain ⟨n, _, h⟩ := h
  obtain ⟨v, ps, hrun, hv⟩ := h.look_ok lawS Tryz.underlying73 (zeroU w) (unitElem_mk (H := Unit)) (keyOf_string_mk Tryz.underlying9 (s := x) (by unfold maxLen; omega))
  rw [← seen_has]
  rw [(unitElem_inv hv).1] at hrun
  exact hrun
theorem SetAt.put2 {w : World} {b : Nat} {seen : List ByteArray} (h : SetAt w b seen) (hs : seen.length ≤ 4000000) {x : ByteArray} (hx : x.size ≤ 4000000) :
    ∃ w', (Instr.mapUpdate 73 (.map (some b)) (.string x) (.agg #[])).run Tryz.prog w = .ok () w' ∧ SetAt w' b (seen ++ [x]) ∧ w.grownBy w' (some b) := by
  obtain ⟨n, hn, h⟩ := h
  obtain ⟨w', h1, h2, h3⟩ := h.update lawS Tryz.underlying73 (by unfold maxLen; omega) (val := .agg #[]) (keyOf_string_mk Tryz.underlying9 (s := x) (by unfold maxLen; omega)) (unitElem_mk (H := Unit))
  exact ⟨w', h1, ⟨n + 1, by rw [List.length_append, List.length_singleton]; omega, by rw [List.map_append, List.map_cons, List.map_nil, setOf_snoc]; exact h2⟩, h3⟩
/-- The name is a tag's. -/
def nmOk (l : List UInt8) : Bool := (match l with | [] => false | b :: _ => letterB b) && (nameL l == l)
set_option maxRecDepth 100000 in
set_option maxHeartbeats 4000000 in
theorem tkTagged_any (x : TkP) (A : Option Addr) (n c : Nat) (w : World) (B : Nat) (hB : B ≤ w.heap.size) (hx : Sl tDA w (lt B) A n c x.1.attrs) (hsz : ∀ a ∈ x.1.attrs, a.1.size ≤ 4000000) (hl : x.1.attrs.length ≤ 4000000) :
    Calls Tryz.prog 21 #[.agg (tokC x.1.kind x.1.name (.slice A n c) x.1.text x.1.self x.2.1 x.2.2)] w fun e w' => e = .returned (.bool (tagOk x.1)) ∧ Below w.heap.size w w' := by
  obtain ⟨⟨k, nm, at_, tx, sf⟩, f, t⟩ := x
  dsimp only at hx hsz hl ⊢
  have HX := Lib.hid hx
  have HSZ := Lib.hid hsz
  have HR := Lib.hid (show tagOk ⟨k, nm, at_, tx, sf⟩ = (nmOk nm.data.toList && attrsOk [] at_) from rfl)
  obtain ⟨v, hv⟩ : ∃ v, nmOk nm.data.toList = v := ⟨_, rfl⟩
  have HV := Lib.hid hv
  rw [hv] at HR
  obtain ⟨w1, hw1⟩ : ∃ w1, w1 = w.alloc (.cells (tokC k nm (.slice A n c) tx sf f t) 32) := ⟨_, rfl⟩
  have HX1 := Lib.hid (show w1.heap[w.heap.size]? = some (.cells (tokC k nm (.slice A n c) tx sf f t) 32 (0, 0)) from by rw [hw1]; exact heap_alloc_new w _)
  have HB1 := Lib.hid (show Below w.heap.size w w1 from by rw [hw1]; exact tal (Below.refl _ _) _)
  have HNM := Lib.hid (fun W : World => tkName_any nm W)
  have HLE := Lib.hid (fun (b : UInt8) (W : World) => letter_any b W)
  clear hx hsz hv
  go_enter Tryz.func21, Tryz.ntmps21
  go_upto_region 1 with fail
  rw [← hw1]
  clear hw1
  go_cut [25] from 8 to 25 (fun s25 wx => s25 = .bool (!v) ∧ Below w1.heap.size w1 wx)
  case first =>
    have x0 := cell_blk (i := 0) HX1.out rfl
    have x1 := cell_blk (i := 1) HX1.out rfl
    have x2 := cell_blk (i := 2) HX1.out rfl
    have e1 := emp_list nm
    cases hnm : nm.data.toList with
    | nil =>
      have hv0 : v = false := by have := HV.out; rw [hnm] at this; rw [← this]; rfl
      subst hv0
      rw [hnm] at e1
      have e1' : nm.toList.isEmpty = true := e1
      clear e1 hnm
      go_quiet (fail)
      go_wp2_with fail
      go_meet
      exact ⟨rfl, tdrewN _ _⟩
    | cons b l =>
      have hnl : 0 < nm.size := by rw [Lib.size_eq, hnm]; simp
      have hb0 : nm[0]'hnl = b := by
        have h1 := Lib.data_getElem? nm 0 hnl
        rw [hnm] at h1
        injection h1.symm
      rw [hnm] at e1
      have e1' : nm.toList.isEmpty = false := e1
      have j1 : (0 : Int) < (nm.size : Int) := by omega
      clear e1
      cases hlb : letterB b with
      | false =>
        have hv0 : v = false := by have := HV.out; rw [hnm] at this; rw [← this]; show (letterB b && _) = false; rw [hlb]; rfl
        subst hv0
        have HL2 := Lib.hid (fun W : World => hlb ▸ HLE.out b W)
        clear hnm hlb
        go_quiet ((go_at_call 35; exact Calls.quiet_of_same (HL2.out _)))
        go_wp2_with fail
        go_meet
        exact ⟨rfl, tdrewN _ _⟩
      | true =>
        have HL2 := Lib.hid (fun W : World => hlb ▸ HLE.out b W)
        obtain ⟨nS, hnS⟩ : ∃ nS : ByteArray, (⟨(nameL nm.data.toList).toArray⟩ : ByteArray) = nS := ⟨_, rfl⟩
        have HN2 := Lib.hid (fun W : World => hnS ▸ HNM.out W)
        have q1 : (nS.toList == nm.toList) = v := by
          rw [← HV.out, ← hnS, ByteArray.toList_eq, ByteArray.toList_eq]
          show (nameL nm.data.toList == nm.data.toList) = nmOk nm.data.toList
          unfold nmOk
          rw [hnm]
          dsimp only
          rw [hlb]
          rfl
        clear hnm hlb hnS
        go_region_with (first | (go_at_call 35; refine (HL2.out _).mono ?_; rintro e w9 ⟨rfl, hw9⟩; rw [hw9]; clear hw9) | (go_at_call 24; refine (HN2.out _).mono ?_; rintro e w9 ⟨rfl, hb9⟩; have hb8 : Below w1.heap.size w1 w9 := (by first | exact hb9 | exact tst (tdrew _) hb9 | exact tst (tst (tdrew _) (tdrew _)) hb9 | exact tst (tst (tst (tdrew _) (tdrew _)) (tdrew _)) hb9); have x1 := cell_be (cell_blk (i := 1) HX1.out rfl) hb8; have HB9 := Lib.hid hb8; clear hb8 hb9))
        all_goals
          go_wp2_with fail
          go_meet
          exact ⟨by first | rfl | trivial | (cases v <;> rfl), by first | exact HB9.out | exact tst HB9.out (tdrew _) | exact tst HB9.out (tst (tdrew _) (tdrew _))⟩
  case rest =>
    obtain ⟨rfl, hbc⟩ := hcut
    have HBC := Lib.hid hbc
    clear hbc
    have HZ : Hid (wc.heap[w.heap.size]? = some (.cells (tokC k nm (.slice A n c) tx sf f t) 32 (0, 0))) := (HBC.out.block w.heap.size (Array.getElem?_eq_some_iff.1 HX1.out).1).trans HX1.out
    have HBW : Hid (Below w.heap.size w wc) := HB1.out.trans (HBC.out.mono HB1.out.size)
    cases v with
    | false =>
      go_wp2_with fail
      go_ret
      exact ⟨by rw [HR.out]; rfl, HBW.out⟩
    | true =>
      have x2 := cell_blk (i := 2) HZ.out rfl
      have hn : n = at_.length := HX.out.hn
      have HN := Lib.hid hn
      have hn4 : n ≤ 4000000 := by omega
      clear hn
      have x3 := cell_be x2 (tal (Below.refl _ wc) (.map #[] 0))
      have hmm := @run_makeMap Tryz.prog
      go_wp2_with fail
      clear hmm
      obtain ⟨w3, hw3⟩ : ∃ w3, w3 = wc.alloc (.map #[] 0) := ⟨_, rfl⟩
      have hset : SetAt w3 wc.heap.size [] := by rw [hw3]; exact SetAt.made wc
      have hb3 : Below w.heap.size w w3 := by rw [hw3]; exact tal HBW.out _
      rw [← hw3]
      clear hw3
      have HMB := Lib.hid (show w.heap.size ≤ wc.heap.size from HBW.out.size)
      obtain ⟨mb, hmb⟩ : ∃ mb, wc.heap.size = mb := ⟨_, rfl⟩
      rw [hmb] at hset HMB
      rw [hmb]
      clear hmb x2 x3
      go_loopw [30] (fun i wr => ∃ (j : Nat) (seen : List ByteArray), j ≤ n ∧ i = .int .i64 (j : Int) ∧ Below w.heap.size w wr ∧ SetAt wr mb seen ∧ Hid (seen.length = j) ∧ Hid (attrsOk (seen.map fun z => z.data.toList) (at_.drop j) = attrsOk [] at_)) (fun i _ => n - (intOf i).toNat)
      case atStart => exact ⟨0, [], Nat.zero_le _, rfl, hb3, hset, rfl, rfl⟩
      case round =>
        obtain ⟨j, seen, hj, rfl, hb, hS, HSL, HA⟩ := hrel
        by_cases hlt : j < n
        · obtain ⟨a, ha⟩ : ∃ a, at_[j]? = some a := get_some (by have := HN.out; omega)
          obtain ⟨b, o, rfl, hD, c1, c2, z1, z2⟩ := da_cells (HX.out.below hb hB) ha
          have hsa := HSZ.out a (List.mem_of_getElem? ha)
          have hdrop : at_.drop j = a :: at_.drop (j + 1) := by
            have h1 := (List.getElem?_eq_some_iff.1 ha)
            rw [List.drop_eq_getElem_cons h1.1, h1.2]
          have HAA := HA.out
          rw [hdrop] at HAA
          obtain ⟨a1, a2⟩ := a
          have HA2 := Lib.hid HAA
          have HS := Lib.hid hS
          have HB := Lib.hid hb
          have HLK : ∀ o : Obj, (Instr.lookup 73 (.map (some mb)) (.string a1) true).run Tryz.prog (wr.alloc o) = .ok (.tuple #[.agg #[], .bool (seen.any (fun z => z.toList == a1.toList))]) (wr.alloc o) := fun o => (HS.out.next (Lib.alloc_old _ _ _ HS.out.lt)).look2 hsa
          clear HAA hdrop ha hS hb hD z1 z2
          obtain ⟨q1, hq1⟩ : ∃ q1, seen.any (fun z => z.toList == a1.toList) = q1 := ⟨_, rfl⟩
          have hq1b : (seen.map fun z => z.data.toList).any (fun z => z == a1.data.toList) = q1 := by
            rw [List.any_map, ← hq1]
            apply congrArg (fun p => seen.any p)
            funext z
            show (z.data.toList == a1.data.toList) = _
            rw [ByteArray.toList_eq, ByteArray.toList_eq]
          obtain ⟨v2, hv2⟩ : ∃ v2, (!q1 && !(a1.data.toList.isEmpty) && (attrL a1.data.toList == a1.data.toList)) = v2 := ⟨_, rfl⟩
          have HV2 := Lib.hid hv2
          have HA3 : Hid ((v2 && attrsOk ((seen ++ [a1]).map fun z => z.data.toList) (at_.drop (j + 1))) = attrsOk [] at_) := by
            show _ = _
            rw [← HA2.out, ← hv2, ← hq1b, List.map_append]
            rfl
          rw [hq1] at HLK
          clear hv2 hq1b hq1 HA2
          have HAN := Lib.hid (fun W : World => tkAttrName_any a1 W)
          go_upto_region 8 with fail
          clear HLK
          obtain ⟨w5, hw5⟩ : ∃ w5, w5 = (wr.alloc (.cells #[.string a1, .string a2] 55)).alloc (.cells #[] 74) := ⟨_, rfl⟩
          have HX5 := Lib.hid (show w5.heap[wr.heap.size]? = some (.cells #[.string a1, .string a2] 55 (0, 0)) from by rw [hw5, Lib.alloc_old _ _ _ (by rw [World.size_alloc]; omega)]; exact heap_alloc_new wr _)
          have HB5 := Lib.hid (show Below wr.heap.size wr w5 from by rw [hw5]; exact tal (tal (Below.refl _ _) _) _)
          rw [← hw5]
          clear hw5 c1 c2
          go_cut [54] from 41 to 54 (fun s54 wx => s54 = .bool (!v2) ∧ Below w5.heap.size w5 wx)
          case first =>
            have y0 := cell_blk (i := 0) HX5.out rfl
            have e1 := emp_list a1
            cases q1 with
            | true =>
              obtain rfl : v2 = false := HV2.out.symm
              go_quiet (fail)
              go_wp2_with fail
              go_meet
              exact ⟨rfl, tdrewN _ _⟩
            | false =>
              cases he : a1.data.toList.isEmpty with
              | true =>
                obtain rfl : v2 = false := by have := HV2.out; rw [he] at this; exact this.symm
                rw [he] at e1
                clear he
                go_quiet (fail)
                go_wp2_with fail
                go_meet
                exact ⟨rfl, tdrewN _ _⟩
              | false =>
                obtain ⟨nS, hnS⟩ : ∃ nS : ByteArray, (⟨(attrL a1.data.toList).toArray⟩ : ByteArray) = nS := ⟨_, rfl⟩
                have HN2 := Lib.hid (fun W : World => hnS ▸ HAN.out W)
                have q2 : (nS.toList == a1.toList) = v2 := by
                  rw [← HV2.out, ← hnS, ByteArray.toList_eq, ByteArray.toList_eq, he]
                  rfl
                rw [he] at e1
                clear he hnS
                go_region_with ((go_at_call 36; refine (HN2.out _).mono ?_; rintro e w9 ⟨rfl, hb9⟩; have hb8 : Below w5.heap.size w5 w9 := (by first | exact hb9 | exact tst (tdrew _) hb9 | exact tst (tst (tdrew _) (tdrew _)) hb9 | exact tst (tst (tst (tdrew _) (tdrew _)) (tdrew _)) hb9); have y0 := cell_be (cell_blk (i := 0) HX5.out rfl) hb8; have HB9 := Lib.hid hb8; clear hb8 hb9))
                all_goals
                  go_wp2_with fail
                  go_meet
                  exact ⟨by first | rfl | trivial | (cases v2 <;> rfl), by first | exact HB9.out | exact tst HB9.out (tdrew _) | exact tst HB9.out (tst (tdrew _) (tdrew _))⟩
          case rest =>
            obtain ⟨rfl, hbc2⟩ := hcut
            have hbw : Below wr.heap.size wr wc := tst HB5.out hbc2
            have HZ5 := Lib.hid ((hbc2.block wr.heap.size (Array.getElem?_eq_some_iff.1 HX5.out).1).trans HX5.out)
            have HBW2 := Lib.hid (HB.out.trans (hbw.mono HB.out.size))
            have HS2 := Lib.hid (HS.out.next (hbw.block mb HS.out.lt))
            clear hbc2 hbw
            cases v2 with
            | false =>
              go_wp2_with fail
              go_ret
              exact ⟨by rw [HR.out, ← HA3.out]; rfl, HBW2.out⟩
            | true =>
              have y0 := cell_blk (i := 0) HZ5.out rfl
              obtain ⟨V2, hrun, hset2, hg2⟩ := HS2.out.put2 (by have := HSL.out; omega) hsa
              have HB9 := Lib.hid (HBW2.out.grown hg2 HBW2.out.size (fun k e => by cases e; exact HMB.out))
              have HS9 := Lib.hid hset2
              clear hset2 hg2
              go_wp2_with fail
              go_roundw
              case rel => exact ⟨j + 1, seen ++ [a1], by omega, rfl, HB9.out, HS9.out, Lib.hid (by rw [List.length_append, HSL.out]; rfl), Lib.hid HA3.out⟩
              case measure => simp [intOf]; omega
        · obtain rfl : j = n := by omega
          have HE : Hid (attrsOk [] at_ = true) := by
            show _ = _
            rw [← HA.out, HN.out, List.drop_length]
            rfl
          go_wp2_with fail
          go_ret
          exact ⟨by rw [HR.out, HE.out]; rfl, hb⟩
end Go.Proofs.YtbddnohbkafagaaGreatDoor

/-
The shower's right.
-/
namespace Go.Proofs.YtbddnohbkafagaaGreatDoor
open Go.RowKit Go.Cl
attribute [local go_sem ↓] Go.wp_at_zero Go.wp_at_succ
/-- Which fault a token has by itself. -/
def rightE (t : Tk) : Int := if rightB t then 0 else if 1 ≤ t.kind ∧ t.kind ≤ 5 then 3 else 7
set_option maxRecDepth 100000 in
set_option maxHeartbeats 4000000 in
theorem tkRight_any (x : TkP) (A : Option Addr) (n c : Nat) (w : World) (B : Nat) (hB : B ≤ w.heap.size) (hx : Sl tDA w (lt B) A n c x.1.attrs) (hsz : ∀ a ∈ x.1.attrs, a.1.size ≤ 4000000) (hl : x.1.attrs.length ≤ 4000000) (htx : x.1.text.size ≤ 4000000) (m : Int) (hm : w.cell? ⟨0, 0, none⟩ = some (.int .i64 m)) :
    Calls Tryz.prog 13 #[.agg (tokC x.1.kind x.1.name (.slice A n c) x.1.text x.1.self x.2.1 x.2.2)] w fun e w' => e = .returned (.int .i64 (rightE x.1)) ∧ Below w.heap.size w w' := by
  have HT := Lib.hid (fun (W : World) (hW : Below w.heap.size w W) => tkTagged_any x A n c W B (Nat.le_trans hB hW.size) (hx.below hW hB) hsz hl)
  have HBR := Lib.hid (fun (bn ba bx : Bool) (hb : bn = true ∧ ba = true ∧ bx = false ∨ bn = true ∧ ba = false ∧ bx = false ∨ bn = false ∧ ba = false ∧ bx = true) (W : World) => tkBare_any x A n c hx.hn bn ba bx hb W)
  obtain ⟨⟨k, nm, at_, tx, sf⟩, f, t⟩ := x
  dsimp only at htx ⊢
  obtain ⟨r, hr⟩ : ∃ r, rightE ⟨k, nm, at_, tx, sf⟩ = r := ⟨_, rfl⟩
  rw [hr]
  obtain ⟨w1, hw1⟩ : ∃ w1, w1 = w.alloc (.cells (tokC k nm (.slice A n c) tx sf f t) 32) := ⟨_, rfl⟩
  have HX1 := Lib.hid (show w1.heap[w.heap.size]? = some (.cells (tokC k nm (.slice A n c) tx sf f t) 32 (0, 0)) from by rw [hw1]; exact heap_alloc_new w _)
  have HB1 := Lib.hid (show Below w.heap.size w w1 from by rw [hw1]; exact tal (Below.refl _ _) _)
  have HNX : Hid (∀ W, Below w1.heap.size w1 W → W.heap[w.heap.size]? = some (.cells (tokC k nm (.slice A n c) tx sf f t) 32 (0, 0))) := fun W hb => (hb.block w.heap.size (Array.getElem?_eq_some_iff.1 HX1.out).1).trans HX1.out
  have HM1 := Lib.hid (cell_be hm HB1.out)
  have HNM := Lib.hid (fun W : World => tkName_any nm W)
  have HPF := Lib.hid (fun (p : ByteArray) (W : World) => Tryz.strings_HasPrefix tx p W)
  have HCN := Lib.hid (fun (W : World) (h : W.cell? ⟨0, 0, none⟩ = some (.int .i64 m)) => Tryz.strings_Contains tx ⟨#[45, 45, 62]⟩ m W (by omega) h)
  have hq1 : rightE ⟨k, nm, at_, tx, sf⟩ = if rightB ⟨k, nm, at_, tx, sf⟩ then 0 else if 1 ≤ k ∧ k ≤ 5 then 3 else 7 := rfl
  rw [hr] at hq1
  have HQ := Lib.hid hq1
  clear hx hsz hl hm hq1 hr
  by_cases k1 : k = 1
  · subst k1
    obtain ⟨v1, hv1⟩ : ∃ v1, bareF ⟨1, nm, at_, tx, sf⟩ true true false = v1 := ⟨_, rfl⟩
    have HBA := Lib.hid (fun W : World => hv1 ▸ HBR.out true true false (by decide) W)
    obtain ⟨v2, hv2⟩ : ∃ v2, tagOk ⟨1, nm, at_, tx, sf⟩ = v2 := ⟨_, rfl⟩
    have HTA := Lib.hid (fun (W : World) (hW : Below w.heap.size w W) => hv2 ▸ HT.out W hW)
    have HR : Hid (r = if v1 && v2 then 0 else 3) := by
      show r = _
      rw [HQ.out, ← hv1, ← hv2]
      rfl
    clear hv1 hv2
    cases v1 with
    | false =>
      go_enter Tryz.func13, Tryz.ntmps13
      go_upto_region 2 with fail
      rw [← hw1]
      clear hw1
      have x0 := cell_blk (i := 0) HX1.out rfl; have x1 := cell_blk (i := 1) HX1.out rfl; have x2 := cell_blk (i := 2) HX1.out rfl; have x3 := cell_blk (i := 3) HX1.out rfl; have x4 := cell_blk (i := 4) HX1.out rfl; have x5 := cell_blk (i := 5) HX1.out rfl; have x6 := cell_blk (i := 6) HX1.out rfl;
      go_wp2_with (go_at_call 20; refine (HBA.out _).mono ?_; rintro e w2 ⟨rfl, hb2⟩; have HB2 := Lib.hid hb2; clear hb2)
      go_ret
      exact ⟨by rw [HR.out]; rfl, tst HB1.out HB2.out⟩
    | true =>
      cases v2
      all_goals
        go_enter Tryz.func13, Tryz.ntmps13
        go_upto_region 2 with fail
        rw [← hw1]
        clear hw1
        have x0 := cell_blk (i := 0) HX1.out rfl; have x1 := cell_blk (i := 1) HX1.out rfl; have x2 := cell_blk (i := 2) HX1.out rfl; have x3 := cell_blk (i := 3) HX1.out rfl; have x4 := cell_blk (i := 4) HX1.out rfl; have x5 := cell_blk (i := 5) HX1.out rfl; have x6 := cell_blk (i := 6) HX1.out rfl;
        go_wp2_with (first | (go_at_call 20; refine (HBA.out _).mono ?_; rintro e w2 ⟨rfl, hb2⟩; have HB2 := Lib.hid (tst HB1.out hb2); have y0 := cell_blk (i := 0) (HNX.out w2 hb2) rfl; have y1 := cell_blk (i := 1) (HNX.out w2 hb2) rfl; have y2 := cell_blk (i := 2) (HNX.out w2 hb2) rfl; have y3 := cell_blk (i := 3) (HNX.out w2 hb2) rfl; have y4 := cell_blk (i := 4) (HNX.out w2 hb2) rfl; have y5 := cell_blk (i := 5) (HNX.out w2 hb2) rfl; have y6 := cell_blk (i := 6) (HNX.out w2 hb2) rfl; clear hb2) | (go_at_call 21; refine (HTA.out _ HB2.out).mono ?_; rintro e w3 ⟨rfl, hb3⟩; have HB3 := Lib.hid (tst HB2.out hb3); clear hb3))
        go_ret
        exact ⟨by rw [HR.out]; rfl, HB3.out⟩
  by_cases k2 : k = 2
  · subst k2
    obtain ⟨v1, hv1⟩ : ∃ v1, bareF ⟨2, nm, at_, tx, sf⟩ true false false = v1 := ⟨_, rfl⟩
    have HBA := Lib.hid (fun W : World => hv1 ▸ HBR.out true false false (by decide) W)
    obtain ⟨v2, hv2⟩ : ∃ v2, tagOk ⟨2, nm, at_, tx, sf⟩ = v2 := ⟨_, rfl⟩
    have HTA := Lib.hid (fun (W : World) (hW : Below w.heap.size w W) => hv2 ▸ HT.out W hW)
    have HR : Hid (r = if v1 && v2 then 0 else 3) := by
      show r = _
      rw [HQ.out, ← hv1, ← hv2]
      rfl
    clear hv1 hv2
    cases v1 with
    | false =>
      go_enter Tryz.func13, Tryz.ntmps13
      go_upto_region 2 with fail
      rw [← hw1]
      clear hw1
      have x0 := cell_blk (i := 0) HX1.out rfl; have x1 := cell_blk (i := 1) HX1.out rfl; have x2 := cell_blk (i := 2) HX1.out rfl; have x3 := cell_blk (i := 3) HX1.out rfl; have x4 := cell_blk (i := 4) HX1.out rfl; have x5 := cell_blk (i := 5) HX1.out rfl; have x6 := cell_blk (i := 6) HX1.out rfl;
      go_wp2_with (go_at_call 20; refine (HBA.out _).mono ?_; rintro e w2 ⟨rfl, hb2⟩; have HB2 := Lib.hid hb2; clear hb2)
      go_ret
      exact ⟨by rw [HR.out]; rfl, tst HB1.out HB2.out⟩
    | true =>
      cases v2
      all_goals
        go_enter Tryz.func13, Tryz.ntmps13
        go_upto_region 2 with fail
        rw [← hw1]
        clear hw1
        have x0 := cell_blk (i := 0) HX1.out rfl; have x1 := cell_blk (i := 1) HX1.out rfl; have x2 := cell_blk (i := 2) HX1.out rfl; have x3 := cell_blk (i := 3) HX1.out rfl; have x4 := cell_blk (i := 4) HX1.out rfl; have x5 := cell_blk (i := 5) HX1.out rfl; have x6 := cell_blk (i := 6) HX1.out rfl;
        go_wp2_with (first | (go_at_call 20; refine (HBA.out _).mono ?_; rintro e w2 ⟨rfl, hb2⟩; have HB2 := Lib.hid (tst HB1.out hb2); have y0 := cell_blk (i := 0) (HNX.out w2 hb2) rfl; have y1 := cell_blk (i := 1) (HNX.out w2 hb2) rfl; have y2 := cell_blk (i := 2) (HNX.out w2 hb2) rfl; have y3 := cell_blk (i := 3) (HNX.out w2 hb2) rfl; have y4 := cell_blk (i := 4) (HNX.out w2 hb2) rfl; have y5 := cell_blk (i := 5) (HNX.out w2 hb2) rfl; have y6 := cell_blk (i := 6) (HNX.out w2 hb2) rfl; clear hb2) | (go_at_call 21; refine (HTA.out _ HB2.out).mono ?_; rintro e w3 ⟨rfl, hb3⟩; have HB3 := Lib.hid (tst HB2.out hb3); clear hb3))
        go_ret
        exact ⟨by rw [HR.out]; rfl, HB3.out⟩
  by_cases k3 : k = 3
  · subst k3
    obtain ⟨v1, hv1⟩ : ∃ v1, bareF ⟨3, nm, at_, tx, sf⟩ false false true = v1 := ⟨_, rfl⟩
    have HBA := Lib.hid (fun W : World => hv1 ▸ HBR.out false false true (by decide) W)
    obtain ⟨v2, hv2⟩ : ∃ v2, tx.data.toList.isEmpty = v2 := ⟨_, rfl⟩
    have HR : Hid (r = if v1 && !v2 then 0 else 3) := by
      show r = _
      rw [HQ.out, ← hv1, ← hv2]
      rfl
    have e2 := emp_list tx
    rw [hv2] at e2
    clear hv1 hv2
    cases v1 <;> cases v2
    all_goals
      go_enter Tryz.func13, Tryz.ntmps13
      go_upto_region 2 with fail
      rw [← hw1]
      clear hw1
      have x0 := cell_blk (i := 0) HX1.out rfl; have x1 := cell_blk (i := 1) HX1.out rfl; have x2 := cell_blk (i := 2) HX1.out rfl; have x3 := cell_blk (i := 3) HX1.out rfl; have x4 := cell_blk (i := 4) HX1.out rfl; have x5 := cell_blk (i := 5) HX1.out rfl; have x6 := cell_blk (i := 6) HX1.out rfl;
      go_wp2_with (go_at_call 20; refine (HBA.out _).mono ?_; rintro e w2 ⟨rfl, hb2⟩; have HB2 := Lib.hid (tst HB1.out hb2); have y0 := cell_blk (i := 0) (HNX.out w2 hb2) rfl; have y1 := cell_blk (i := 1) (HNX.out w2 hb2) rfl; have y2 := cell_blk (i := 2) (HNX.out w2 hb2) rfl; have y3 := cell_blk (i := 3) (HNX.out w2 hb2) rfl; have y4 := cell_blk (i := 4) (HNX.out w2 hb2) rfl; have y5 := cell_blk (i := 5) (HNX.out w2 hb2) rfl; have y6 := cell_blk (i := 6) (HNX.out w2 hb2) rfl; clear hb2)
      go_ret
      exact ⟨by rw [HR.out]; rfl, HB2.out⟩
  by_cases k4 : k = 4
  · subst k4
    obtain ⟨v1, hv1⟩ : ∃ v1, bareF ⟨4, nm, at_, tx, sf⟩ false false true = v1 := ⟨_, rfl⟩
    have HBA := Lib.hid (fun W : World => hv1 ▸ HBR.out false false true (by decide) W)
    obtain ⟨v2, hv2⟩ : ∃ v2, Lib.hasPrefix tx.data.toList [62] = v2 := ⟨_, rfl⟩
    have HP2 := Lib.hid (fun W : World => (show Calls Tryz.prog 22 #[.string tx, .string ⟨#[62]⟩] W fun e w' => e = .returned (.bool v2) ∧ w' = W from hv2 ▸ HPF.out ⟨#[62]⟩ W))
    obtain ⟨v3, hv3⟩ : ∃ v3, Lib.hasPrefix tx.data.toList [45, 62] = v3 := ⟨_, rfl⟩
    have HP3 := Lib.hid (fun W : World => (show Calls Tryz.prog 22 #[.string tx, .string ⟨#[45, 62]⟩] W fun e w' => e = .returned (.bool v3) ∧ w' = W from hv3 ▸ HPF.out ⟨#[45, 62]⟩ W))
    obtain ⟨v4, hv4⟩ : ∃ v4, Lib.contains tx.data.toList [45, 45, 62] = v4 := ⟨_, rfl⟩
    have HC4 := Lib.hid (fun (W : World) (h : W.cell? ⟨0, 0, none⟩ = some (.int .i64 m)) => (show Calls Tryz.prog 23 #[.string tx, .string ⟨#[45, 45, 62]⟩] W fun e w' => e = .returned (.bool v4) ∧ w' = W from hv4 ▸ HCN.out W h))
    have HR : Hid (r = if v1 && (!v2 && !v3 && !v4) then 0 else 3) := by
      show r = _
      rw [HQ.out, ← hv1, ← hv2, ← hv3, ← hv4]
      rfl
    clear hv1 hv2 hv3 hv4
    have HE : ∀ W : World, ∀ e : Ending, True := fun _ _ => trivial
    clear HE
    cases v1 with
    | false =>
      go_enter Tryz.func13, Tryz.ntmps13
      go_upto_region 2 with fail
      rw [← hw1]
      clear hw1
      have x0 := cell_blk (i := 0) HX1.out rfl; have x1 := cell_blk (i := 1) HX1.out rfl; have x2 := cell_blk (i := 2) HX1.out rfl; have x3 := cell_blk (i := 3) HX1.out rfl; have x4 := cell_blk (i := 4) HX1.out rfl; have x5 := cell_blk (i := 5) HX1.out rfl; have x6 := cell_blk (i := 6) HX1.out rfl;
      go_wp2_with (go_at_call 20; refine (HBA.out _).mono ?_; rintro e w2 ⟨rfl, hb2⟩; have HB2 := Lib.hid (tst HB1.out hb2); clear hb2)
      go_ret
      exact ⟨by rw [HR.out]; rfl, HB2.out⟩
    | true =>
      cases v2 <;> cases v3 <;> cases v4
      all_goals
        go_enter Tryz.func13, Tryz.ntmps13
        go_upto_region 2 with fail
        rw [← hw1]
        clear hw1
        have x0 := cell_blk (i := 0) HX1.out rfl; have x1 := cell_blk (i := 1) HX1.out rfl; have x2 := cell_blk (i := 2) HX1.out rfl; have x3 := cell_blk (i := 3) HX1.out rfl; have x4 := cell_blk (i := 4) HX1.out rfl; have x5 := cell_blk (i := 5) HX1.out rfl; have x6 := cell_blk (i := 6) HX1.out rfl;
        go_wp2_with (first | (go_at_call 20; refine (HBA.out _).mono ?_; rintro e w2 ⟨rfl, hb2⟩; have HB2 := Lib.hid (tst HB1.out hb2); have HM2 := Lib.hid (cell_be HM1.out hb2); have y0 := cell_blk (i := 0) (HNX.out w2 hb2) rfl; have y1 := cell_blk (i := 1) (HNX.out w2 hb2) rfl; have y2 := cell_blk (i := 2) (HNX.out w2 hb2) rfl; have y3 := cell_blk (i := 3) (HNX.out w2 hb2) rfl; have y4 := cell_blk (i := 4) (HNX.out w2 hb2) rfl; have y5 := cell_blk (i := 5) (HNX.out w2 hb2) rfl; have y6 := cell_blk (i := 6) (HNX.out w2 hb2) rfl; clear hb2) | (go_at_call 22; refine (HP2.out _).mono ?_; rintro e w3 ⟨rfl, hw3⟩; rw [hw3]; clear hw3) | (go_at_call 22; refine (HP3.out _).mono ?_; rintro e w3 ⟨rfl, hw3⟩; rw [hw3]; clear hw3) | (go_at_call 23; refine (HC4.out _ HM2.out).mono ?_; rintro e w3 ⟨rfl, hw3⟩; rw [hw3]; clear hw3))
        go_ret
        exact ⟨by rw [HR.out]; rfl, HB2.out⟩
  by_cases k5 : k = 5
  · subst k5
    obtain ⟨v1, hv1⟩ : ∃ v1, bareF ⟨5, nm, at_, tx, sf⟩ true false false = v1 := ⟨_, rfl⟩
    have HBA := Lib.hid (fun W : World => hv1 ▸ HBR.out true false false (by decide) W)
    obtain ⟨nS, hnS⟩ : ∃ nS : ByteArray, (⟨(nameL nm.data.toList).toArray⟩ : ByteArray) = nS := ⟨_, rfl⟩
    have HN2 := Lib.hid (fun W : World => hnS ▸ HNM.out W)
    obtain ⟨v2, hv2⟩ : ∃ v2, (nS.toList == nm.toList) = v2 := ⟨_, rfl⟩
    have HR : Hid (r = if v1 && v2 then 0 else 3) := by
      show r = _
      rw [HQ.out, ← hv1, ← hv2, ← hnS, ByteArray.toList_eq, ByteArray.toList_eq]
      rfl
    clear hv1 hnS
    cases v1 with
    | false =>
      clear hv2
      go_enter Tryz.func13, Tryz.ntmps13
      go_upto_region 2 with fail
      rw [← hw1]
      clear hw1
      have x0 := cell_blk (i := 0) HX1.out rfl; have x1 := cell_blk (i := 1) HX1.out rfl; have x2 := cell_blk (i := 2) HX1.out rfl; have x3 := cell_blk (i := 3) HX1.out rfl; have x4 := cell_blk (i := 4) HX1.out rfl; have x5 := cell_blk (i := 5) HX1.out rfl; have x6 := cell_blk (i := 6) HX1.out rfl;
      go_upto_region 13 with fail
      refine wp_region_G (S := fun _ => True) (T := []) (by kernel_rfl) ?_
      have hS : (fun _ : World => True) w1.drew := trivial
      refine wpAnyG_oneW (i := 0) (by kernel_rfl) rfl (by kernel_rfl) (fun K hK => ?_)
      go_simp
      refine hK.out _ _ (fun _ _ => trivial) ?_
      clear hK K
      refine wpAnyG_oneW (i := 1) (by kernel_rfl) rfl (by kernel_rfl) (fun K hK => ?_)
      go_simp
      go_at_call 20
      refine (HBA.out _).mono ?_
      rintro e w2 ⟨rfl, hb2⟩
      have HB2 := Lib.hid (tst HB1.out (tst (tdrew _) hb2))
      clear hb2
      go_wp2_with fail
      refine hK.out _ _ (fun _ _ => trivial) ?_
      clear hK K
      refine wpAnyG_pureW (i := 2) (v := ?_) rfl (by kernel_rfl) (by kernel_rfl) (by kernel_rfl) (fun _ _ _ h => h) (by kernel_rfl) ?_ ?_
      rotate_left
      · intro w'
        first | (go_simp; done) | (go_simp; with_reducible rfl)
      refine wpAnyG_skipW (i := 3) rfl (by kernel_rfl) (by kernel_rfl) (by kernel_rfl) (fun _ _ _ h => h) (by kernel_rfl) ?_
      refine wpAnyG_skipW (i := 4) rfl (by kernel_rfl) (by kernel_rfl) (by kernel_rfl) (fun _ _ _ h => h) (by kernel_rfl) ?_
      refine wpAnyG_skipW (i := 5) rfl (by kernel_rfl) (by kernel_rfl) (by kernel_rfl) (fun _ _ _ h => h) (by kernel_rfl) ?_
      refine wpAnyG_skipW (i := 6) rfl (by kernel_rfl) (by kernel_rfl) (by kernel_rfl) (fun _ _ _ h => h) (by kernel_rfl) ?_
      refine wpAnyG_skipW (i := 7) rfl (by kernel_rfl) (by kernel_rfl) (by kernel_rfl) (fun _ _ _ h => h) (by kernel_rfl) ?_
      refine wpAnyG_skipW (i := 8) rfl (by kernel_rfl) (by kernel_rfl) (by kernel_rfl) (fun _ _ _ h => h) (by kernel_rfl) ?_
      refine wpAnyG_pureW (i := 9) (v := ?_) rfl (by kernel_rfl) (by kernel_rfl) (by kernel_rfl) (fun _ _ _ h => h) (by kernel_rfl) ?_ ?_
      rotate_left
      · intro w'
        first | (go_simp; done) | (go_simp; with_reducible rfl)
      refine wpAnyG_pureW (i := 10) (v := ?_) rfl (by kernel_rfl) (by kernel_rfl) (by kernel_rfl) (fun _ _ _ h => h) (by kernel_rfl) ?_ ?_
      rotate_left
      · intro w'
        first | (go_simp; done) | (go_simp; with_reducible rfl)
      refine wpAnyG_done (by kernel_rfl) ?_ _
      go_simp
      go_wp2_with fail
      go_ret
      exact ⟨by rw [HR.out]; rfl, HB2.out⟩
    | true =>
      cases v2
      all_goals
        go_enter Tryz.func13, Tryz.ntmps13
        go_upto_region 2 with fail
        rw [← hw1]
        clear hw1
        have x0 := cell_blk (i := 0) HX1.out rfl; have x1 := cell_blk (i := 1) HX1.out rfl; have x2 := cell_blk (i := 2) HX1.out rfl; have x3 := cell_blk (i := 3) HX1.out rfl; have x4 := cell_blk (i := 4) HX1.out rfl; have x5 := cell_blk (i := 5) HX1.out rfl; have x6 := cell_blk (i := 6) HX1.out rfl;
        go_wp2_with fail
        go_region_with (first | (go_at_call 20; refine (HBA.out _).mono ?_; rintro e w2 ⟨rfl, hb2⟩; have hb3 : Below w1.heap.size w1 w2 := (by first | exact hb2 | exact tst (tdrew _) hb2); have HB2 := Lib.hid (tst HB1.out hb3); have HB12 := Lib.hid hb3; have y0 := cell_blk (i := 0) (HNX.out w2 hb3) rfl; have y1 := cell_blk (i := 1) (HNX.out w2 hb3) rfl; have y2 := cell_blk (i := 2) (HNX.out w2 hb3) rfl; have y3 := cell_blk (i := 3) (HNX.out w2 hb3) rfl; have y4 := cell_blk (i := 4) (HNX.out w2 hb3) rfl; have y5 := cell_blk (i := 5) (HNX.out w2 hb3) rfl; have y6 := cell_blk (i := 6) (HNX.out w2 hb3) rfl; clear hb2 hb3) | (go_at_call 24; refine (HN2.out _).mono ?_; rintro e w9 ⟨rfl, hb9⟩; have hb8 : Below w1.heap.size w1 w9 := (by first | exact tst HB12.out hb9 | exact tst (tst HB12.out (tdrew _)) hb9 | exact tst (tst (tst HB12.out (tdrew _)) (tdrew _)) hb9); have HB9 := Lib.hid (tst HB1.out hb8); have z0 := cell_blk (i := 0) (HNX.out w9 hb8) rfl; have z1 := cell_blk (i := 1) (HNX.out w9 hb8) rfl; have z2 := cell_blk (i := 2) (HNX.out w9 hb8) rfl; have z3 := cell_blk (i := 3) (HNX.out w9 hb8) rfl; have z4 := cell_blk (i := 4) (HNX.out w9 hb8) rfl; have z5 := cell_blk (i := 5) (HNX.out w9 hb8) rfl; have z6 := cell_blk (i := 6) (HNX.out w9 hb8) rfl; clear hb8 hb9))
        all_goals
          go_wp2_with fail
          go_ret
          exact ⟨by rw [HR.out]; rfl, by first | exact HB9.out | exact tst HB9.out (tdrew _) | exact tst (tst HB9.out (tdrew _)) (tdrew _)⟩
  have HR : Hid (r = 7) := by
    show r = _
    rw [HQ.out]
    have hb : rightB ⟨k, nm, at_, tx, sf⟩ = false := by
      unfold rightB
      rw [if_neg k1, if_neg k2, if_neg k3, if_neg k4, if_neg k5]
    rw [hb, if_neg (by decide), if_neg (by omega)]
  have f1 : (k == 1) = false := beq_eq_false_iff_ne.2 k1
  have f2 : (k == 2) = false := beq_eq_false_iff_ne.2 k2
  have f3 : (k == 3) = false := beq_eq_false_iff_ne.2 k3
  have f4 : (k == 4) = false := beq_eq_false_iff_ne.2 k4
  have f5 : (k == 5) = false := beq_eq_false_iff_ne.2 k5
  go_enter Tryz.func13, Tryz.ntmps13
  go_upto_region 2 with fail
  rw [← hw1]
  clear hw1
  have x0 := cell_blk (i := 0) HX1.out rfl; have x1 := cell_blk (i := 1) HX1.out rfl; have x2 := cell_blk (i := 2) HX1.out rfl; have x3 := cell_blk (i := 3) HX1.out rfl; have x4 := cell_blk (i := 4) HX1.out rfl; have x5 := cell_blk (i := 5) HX1.out rfl; have x6 := cell_blk (i := 6) HX1.out rfl;
  go_wp2_with fail
  go_ret
  exact ⟨by rw [HR.out]; rfl, HB1.out⟩
end Go.Proofs.YtbddnohbkafagaaGreatDoor
