/-
The walks of package entity: named, Find.
-/
import Derived.Test.YtbddnohbkafagaaGreatDoorEntNames
namespace Go.Proofs.YtbddnohbkafagaaGreatDoor
open Go.RowKit Go.Cl

/-- One name tried. -/
def nstep (s : ByteArray) (a : ByteArray × Nat) (x : Nam) : ByteArray × Nat :=
  if Lib.hasPrefix (s.data.toList.drop 1) x.1.data.toList then
    (if (semiN s (x.1.size + 1) == x.1.size + 1 && !x.2.2) || decide (semiN s (x.1.size + 1) ≤ a.2) then a else (signB x.2.1, semiN s (x.1.size + 1)))
  else a
def namedF (s : ByteArray) : ByteArray × Nat := namesL.foldl (nstep s) (⟨#[]⟩, 0)
/-- Is it no reference in an attribute's value? -/
def cutB (s : ByteArray) (n : Nat) : Bool := s.data.toList[n - 1]? != some 59 && (match s.data.toList[n]? with | some b => wordB b.toNat | none => false)
def namedB (s : ByteArray) (attr : Bool) : ByteArray × Nat := if attr && decide (0 < (namedF s).2) && cutB s (namedF s).2 then (⟨#[]⟩, 0) else namedF s
theorem drop_one (s : ByteArray) : (s.extract 1 s.size).data.toList = s.data.toList.drop 1 := by
  rw [ByteArray.data_extract, Array.toList_extract, List.extract_eq_take_drop]
  exact List.take_of_length_le (by simp)
theorem prefix_size {s : ByteArray} {p : ByteArray} (h1 : 1 ≤ s.size) (h : Lib.hasPrefix (s.data.toList.drop 1) p.data.toList = true) : p.size + 1 ≤ s.size := by
  unfold Lib.hasPrefix at h
  have := (List.isPrefixOf_iff_prefix.1 h).length_le
  simp at this
  omega
theorem step_skip {s : ByteArray} {a : ByteArray × Nat} {x : Nam} (h : Lib.hasPrefix (s.data.toList.drop 1) x.1.data.toList = true → (semiN s (x.1.size + 1) = x.1.size + 1 ∧ x.2.2 = false) ∨ semiN s (x.1.size + 1) ≤ a.2) : nstep s a x = a := by
  unfold nstep
  split
  · rename_i hp
    rw [if_pos]
    rcases h hp with ⟨h1, h2⟩ | h1
    · rw [h1, h2]; simp
    · simp [h1]
  · rfl
theorem step_take {s : ByteArray} {a : ByteArray × Nat} {x : Nam} (hp : Lib.hasPrefix (s.data.toList.drop 1) x.1.data.toList = true) (h1 : ¬ (semiN s (x.1.size + 1) = x.1.size + 1 ∧ x.2.2 = false)) (h2 : ¬ semiN s (x.1.size + 1) ≤ a.2) : nstep s a x = (signB x.2.1, semiN s (x.1.size + 1)) := by
  unfold nstep
  rw [if_pos hp, if_neg]
  simp only [Bool.or_eq_true, Bool.and_eq_true, beq_iff_eq, Bool.not_eq_true', decide_eq_true_eq, not_or]
  exact ⟨h1, h2⟩
theorem semi_le {s : ByteArray} {n : Nat} (h : n ≤ s.size) : semiN s n ≤ s.size ∧ n ≤ semiN s n := by
  unfold semiN
  split
  · rename_i h1
    have := (List.getElem?_eq_some_iff.1 h1).1
    simp at this
    omega
  · exact ⟨h, Nat.le_refl _⟩
theorem below_dr {B : Nat} {a w : World} (h : Below B a w) (n : Nat) : Below B a (w.drewN n) := h.trans ⟨rfl, rfl, rfl, Nat.le_refl _, fun _ _ => rfl⟩
theorem fold_snoc (s : ByteArray) {k : Nat} {x : Nam} (hx : namesL[k]? = some x) : (namesL.take (k + 1)).foldl (nstep s) (⟨#[]⟩, 0) = nstep s ((namesL.take k).foldl (nstep s) (⟨#[]⟩, 0)) x := by
  rw [List.take_add_one, hx, List.foldl_append]
  rfl

set_option maxRecDepth 100000 in
theorem named_any (s : ByteArray) (attr : Bool) (w : World) (h1 : 1 ≤ s.size) (hs : s.size ≤ 1000000000) :
    Calls Tryz.prog 92 #[.string s, .bool attr] w fun e w' => e = .returned (.tuple #[.string (namedB s attr).1, .int .i64 (namedB s attr).2]) ∧ Below w.heap.size w w' := by
  go_enter Tryz.func92, Tryz.ntmps92
  go_wp2_with fail
  refine (names_any w).mono ?_
  rintro e w1 ⟨rfl, rfl⟩
  have hb1 : Below w.heap.size w (w.alloc (.cells namesC.toArray 143)) := (Below.refl _ _).alloc (Nat.le_refl _) _
  have hz1 : (w.alloc (.cells namesC.toArray 143)).heap.size = w.heap.size + 1 := World.size_alloc _ _
  have HN : Hid (∀ (j : Nat) (u : Value), namesC[j]? = some u → (w.alloc (.cells namesC.toArray 143)).cell? ⟨w.heap.size, j, none⟩ = some u) := fun j u hu => by
    have := cell_new w namesC 143 j u hu
    rwa [Nat.zero_add] at this
  generalize w.alloc (.cells namesC.toArray 143) = w1 at *
  go_wp2_with fail
  go_loopw [6, 7, 9, 10, 11, 14] (fun t m _ _ _ i wr => ∃ (k : Nat) (a : ByteArray × Nat), k ≤ 48 ∧ i = .int .i64 (k : Int) ∧ t = .string a.1 ∧ m = .int .i64 (a.2 : Int) ∧ a = (namesL.take k).foldl (nstep s) (⟨#[]⟩, 0) ∧ a.2 ≤ s.size ∧ Below w1.heap.size w1 wr) (fun _ _ _ _ _ i _ => 48 - (intOf i).toNat)
  case atStart => exact ⟨0, (⟨#[]⟩, 0), Nat.zero_le _, rfl, rfl, rfl, rfl, Nat.zero_le _, Below.refl _ _⟩
  case round =>
    obtain ⟨k, a, hk, rfl, rfl, rfl, ha, ham, hb⟩ := hrel
    by_cases hlt : k < 48
    · obtain ⟨x, hx⟩ : ∃ x, namesL[k]? = some x := get_some (by rw [nam_len]; exact hlt)
      obtain ⟨cs, hcs, hcj⟩ := (nam_row w1 (fun _ => True) namesL (fun x hx => ⟨(nam_good x hx).1, (nam_good x hx).2.1⟩)).at_ hx
      have hxg := nam_good x (List.mem_of_getElem? hx)
      obtain ⟨c1, c2, rfl, ⟨rfl, _⟩, c3, c4, rfl, ⟨rfl, _⟩, rfl⟩ := hcs
      have hlt1 : w.heap.size < w1.heap.size := by omega
      have n0 : wr.cell? ⟨w.heap.size, k * 3, none⟩ = some (.string x.1) := (hb.cell hlt1).trans (HN.out _ _ (hcj 0 _ rfl))
      have n1 : wr.cell? ⟨w.heap.size, k * 3 + 1, none⟩ = some (.int .i32 x.2.1) := (hb.cell hlt1).trans (HN.out _ _ (hcj 1 _ rfl))
      have n2 : wr.cell? ⟨w.heap.size, k * 3 + 2, none⟩ = some (.bool x.2.2) := (hb.cell hlt1).trans (HN.out _ _ (hcj 2 _ rfl))
      have HF := Lib.hid (fold_snoc s hx)
      rw [← ha] at HF
      clear hcj hx ha
      have hw0 : Below w1.heap.size w1 (wr.alloc (.cells #[.string x.1, .int .i32 x.2.1, .bool x.2.2] 143)) := hb.alloc hb.size _
      cases hp : Lib.hasPrefix (s.data.toList.drop 1) x.1.data.toList
      · have HP : Hid (∀ W, Calls Tryz.prog 22 #[.string (s.extract 1 s.size), .string x.1] W fun e w' => e = .returned (.bool false) ∧ w' = W) := fun W => by
          have h := Tryz.strings_HasPrefix (s.extract 1 s.size) x.1 W
          rwa [drop_one, hp] at h
        have HS := Lib.hid (step_skip (s := s) (a := a) (x := x) (by rw [hp]; intro h; cases h))
        clear hp
        go_wp2_with fail
        go_quiet ((go_at_call 22; exact Calls.quiet_of_same (HP.out _)))
        go_wp2_with fail
        go_roundw
        case rel => exact ⟨k + 1, a, by omega, by go_num, rfl, rfl, by rw [HF.out, HS.out], ham, below_dr hw0 _⟩
        case measure => simp [intOf]; omega
      · have HP : Hid (∀ W, Calls Tryz.prog 22 #[.string (s.extract 1 s.size), .string x.1] W fun e w' => e = .returned (.bool true) ∧ w' = W) := fun W => by
          have h := Tryz.strings_HasPrefix (s.extract 1 s.size) x.1 W
          rwa [drop_one, hp] at h
        have hps := prefix_size h1 hp
        obtain ⟨hq1, hq2⟩ := semi_le hps
        have HSK := Lib.hid (step_skip (s := s) (a := a) (x := x))
        have HST := Lib.hid (step_take (s := s) (a := a) (x := x) hp)
        have HM := Lib.hid (fun W => semi_any s (x.1.size + 1) W (by omega))
        clear hp
        generalize semiN s (x.1.size + 1) = q at *
        go_wp2_with fail
        go_quiet ((go_at_call 22; exact Calls.quiet_of_same (HP.out _)))
        go_wp2_with fail
        refine (HM.out _).mono ?_
        rintro e w2 ⟨rfl, rfl⟩
        have HW := Lib.hid (show ∀ b : Bool, Below w1.heap.size w1 ((wr.alloc (.cells #[.string x.1, .int .i32 x.2.1, .bool b] 143)).drewN nq) from fun b => below_dr (hb.alloc hb.size _) nq)
        have hz0 : (wr.alloc (.cells #[.string x.1, .int .i32 x.2.1, .bool x.2.2] 143)).heap.size = wr.heap.size + 1 := World.size_alloc _ _
        have HSG := Lib.hid (fun b : Bool => sign_any x.2.1 ((wr.alloc (.cells #[.string x.1, .int .i32 x.2.1, .bool b] 143)).drewN nq) hxg.2.2.1 hxg.2.2.2)
        have hsg := hxg.2.2
        by_cases hle : q ≤ a.2
        · have HS := Lib.hid (HSK.out (fun _ => Or.inr hle))
          go_wp2_with fail
          all_goals
            go_roundw
            case rel => exact ⟨k + 1, a, by omega, by go_num, rfl, rfl, by rw [HF.out, HS.out], ham, HW.out _⟩
            case measure => simp [intOf]; omega
        · by_cases hqe : q = x.1.size + 1 ∧ x.2.2 = false
          · have HS := Lib.hid (HSK.out (fun _ => Or.inl hqe))
            obtain ⟨hq3, hq4⟩ := hqe
            rw [hq4]
            go_wp2_with fail
            all_goals
              go_roundw
              case rel => exact ⟨k + 1, a, by omega, by go_num, rfl, rfl, by rw [HF.out, HS.out], ham, HW.out _⟩
              case measure => simp [intOf]; omega
          · have HS := Lib.hid (HST.out hqe hle)
            by_cases hq3 : q = x.1.size + 1
            · have hq4 : x.2.2 = true := by
                cases h : x.2.2
                · exact absurd ⟨hq3, h⟩ hqe
                · rfl
              rw [hq4]
              go_wp2_with fail
              refine (HSG.out _).mono ?_
              rintro e w3 ⟨rfl, hb3⟩
              go_wp2_with fail
              go_roundw
              case rel => exact ⟨k + 1, (signB x.2.1, q), by omega, by go_num, rfl, by show _ = Value.int IntKind.i64 (q : Int); rw [hq3]; rfl, by rw [HF.out, HS.out], hq1, (HW.out _).trans (hb3.mono (HW.out _).size)⟩
              case measure => simp [intOf]; omega
            · go_wp2_with fail
              refine (HSG.out _).mono ?_
              rintro e w3 ⟨rfl, hb3⟩
              go_wp2_with fail
              go_roundw
              case rel => exact ⟨k + 1, (signB x.2.1, q), by omega, by go_num, rfl, rfl, by rw [HF.out, HS.out], hq1, (HW.out _).trans (hb3.mono (HW.out _).size)⟩
              case measure => simp [intOf]; omega
    · have hk48 : namesL.take k = namesL := List.take_of_length_le (by rw [nam_len]; omega)
      rw [hk48] at ha
      have HNF := Lib.hid (show namedF s = a from ha.symm)
      have HB := Lib.hid (hb1.trans (hb.mono (by omega)))
      clear hb ha hk48 hb1 hz1 HN
      obtain ⟨t, m⟩ := a
      have ham' : m ≤ s.size := ham
      clear ham
      cases attr
      · have HR := Lib.hid (show namedB s false = (t, m) from by unfold namedB; rw [HNF.out]; rfl)
        go_wp2_with fail
        go_ret2
        exact ⟨by rw [HR.out]; rfl, HB.out⟩
      · by_cases hm0 : m = 0
        · have HR := Lib.hid (show namedB s true = (t, m) from by unfold namedB; rw [HNF.out, hm0]; rfl)
          go_wp2_with fail
          go_ret2
          exact ⟨by rw [HR.out]; rfl, HB.out⟩
        · obtain ⟨j, rfl⟩ : ∃ j, m = j + 1 := ⟨m - 1, by omega⟩
          have hj : j < s.size := by omega
          by_cases h59 : s[j] = 59
          · have HR := Lib.hid (show namedB s true = (t, j + 1) from by unfold namedB cutB; rw [HNF.out]; simp [byte_at hj, h59])
            have hne : ((s[j].toNat : Int) != 59) = false := by rw [h59]; rfl
            go_wp2_with fail
            go_ret2
            exact ⟨by rw [HR.out]; rfl, HB.out⟩
          · have hne : ((s[j].toNat : Int) != 59) = true := by
              rw [bne_iff_ne]
              intro e
              exact h59 (UInt8.toNat_inj.1 (by simpa using (by omega : s[j].toNat = 59)))
            by_cases hlt : j + 1 < s.size
            · have HWD := Lib.hid (word_any s[j + 1])
              cases hwd : wordB s[j + 1].toNat
              · have HR := Lib.hid (show namedB s true = (t, j + 1) from by unfold namedB cutB; rw [HNF.out]; simp [byte_at hlt, hwd])
                clear h59
                go_wp2_with fail
                refine (HWD.out _).mono ?_
                rintro e w3 ⟨rfl, rfl⟩
                rw [hwd]
                go_wp2_with fail
                go_ret2
                exact ⟨by rw [HR.out]; rfl, HB.out⟩
              · have HR := Lib.hid (show namedB s true = (⟨#[]⟩, 0) from by unfold namedB cutB; rw [HNF.out]; simp [byte_at hlt, byte_at hj, hwd, h59])
                clear h59
                go_wp2_with fail
                refine (HWD.out _).mono ?_
                rintro e w3 ⟨rfl, rfl⟩
                rw [hwd]
                go_wp2_with fail
                go_ret2
                exact ⟨by rw [HR.out]; rfl, HB.out⟩
            · have HR := Lib.hid (show namedB s true = (t, j + 1) from by unfold namedB cutB; rw [HNF.out]; simp [List.getElem?_eq_none (show s.data.toList.length ≤ j + 1 by simp; omega)])
              clear h59
              go_wp2_with fail
              go_ret2
              exact ⟨by rw [HR.out]; rfl, HB.out⟩
end Go.Proofs.YtbddnohbkafagaaGreatDoor
