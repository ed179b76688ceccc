/-
The walk of package entity: number.
-/
import Derived.Test.YtbddnohbkafagaaGreatDoorEntWalks
namespace Go.Proofs.YtbddnohbkafagaaGreatDoor
open Go.RowKit Go.Cl

theorem digN_le (b base : Int) : digN b base ≤ 15 ∧ -1 ≤ digN b base := by
  unfold digN
  dsimp only
  repeat' split
  all_goals omega
/-- The number that digits tell, at most 1<<21, and how many digits there are. -/
def eat (base : Int) : List UInt8 → Int → Int × Nat
  | [], n => (n, 0)
  | b :: r, n => if 0 ≤ digN b.toNat base then ((eat base r (min (base * n + digN b.toNat base) 2097152)).1, (eat base r (min (base * n + digN b.toNat base) 2097152)).2 + 1) else (n, 0)
theorem eat_some {base n : Int} {l : List UInt8} {b : UInt8} {k : Nat} (h : l[k]? = some b) (hd : 0 ≤ digN b.toNat base) :
    eat base (l.drop k) n = ((eat base (l.drop (k + 1)) (min (base * n + digN b.toNat base) 2097152)).1, (eat base (l.drop (k + 1)) (min (base * n + digN b.toNat base) 2097152)).2 + 1) := by
  rw [List.drop_eq_getElem_cons (List.getElem?_eq_some_iff.1 h).1, (List.getElem?_eq_some_iff.1 h).2, eat, if_pos hd]
theorem eat_bad {base n : Int} {l : List UInt8} {b : UInt8} {k : Nat} (h : l[k]? = some b) (hd : ¬ 0 ≤ digN b.toNat base) : eat base (l.drop k) n = (n, 0) := by
  rw [List.drop_eq_getElem_cons (List.getElem?_eq_some_iff.1 h).1, (List.getElem?_eq_some_iff.1 h).2, eat, if_neg hd]
theorem eat_none {base n : Int} {l : List UInt8} {k : Nat} (h : l.length ≤ k) : eat base (l.drop k) n = (n, 0) := by
  rw [List.drop_eq_nil_of_le h]; rfl
theorem eat_le (base : Int) (l : List UInt8) (n : Int) : (eat base l n).2 ≤ l.length := by
  induction l generalizing n with
  | nil => exact Nat.zero_le _
  | cons b r ih =>
    rw [eat]
    split
    · have := ih (min (base * n + digN b.toNat base) 2097152)
      simp only [List.length_cons]
      omega
    · exact Nat.zero_le _

/-- Where digits are told from. -/
def hexB (s : ByteArray) : Bool := match s.data.toList[2]? with | some b => low b.toNat == 120 | none => false
def numE (s : ByteArray) (base : Int) (a : Nat) : ByteArray × Nat :=
  let r := eat base (s.data.toList.drop a) 0
  if r.2 = 0 then (⟨#[]⟩, 0) else (signB r.1, semiN s (a + r.2))
def numB (s : ByteArray) : ByteArray × Nat := if hexB s then numE s 16 3 else numE s 10 2

theorem number_any (s : ByteArray) (w : World) (hs : s.size ≤ 1000000000) :
    Calls Tryz.prog 91 #[.string s] w fun e w' => e = .returned (.tuple #[.string (numB s).1, .int .i64 (numB s).2]) ∧ Below w.heap.size w w' := by
  have hlen : s.data.toList.length = s.size := by simp
  by_cases hh : ∃ h2 : 2 < s.size, low s[2].toNat = 120
  · obtain ⟨h2, hh⟩ := hh
    have HN := Lib.hid (show numB s = numE s 16 3 from by
      have hx : hexB s = true := by
        unfold hexB
        rw [byte_at h2]
        dsimp only
        rw [hh]
        rfl
      unfold numB
      rw [hx]
      rfl)
    have ht : (bits BinOp.or IntKind.u8 (s[2].toNat : Int) 32 == 120) = true := by unfold low at hh; rw [hh]; rfl
    clear hh
    rw [HN.out]
    go_enter Tryz.func91, Tryz.ntmps91
    go_wp2_with fail
    go_loopw [5, 6] (fun i n wr => ∃ (j : Nat) (v : Int), 3 ≤ j ∧ (j = 3 ∨ j ≤ s.size) ∧ i = .int .i64 (j : Int) ∧ n = .int .i64 v ∧ 0 ≤ v ∧ v ≤ 2097152 ∧ w = wr ∧ eat 16 (s.data.toList.drop 3) 0 = ((eat 16 (s.data.toList.drop j) v).1, (eat 16 (s.data.toList.drop j) v).2 + (j - 3))) (fun i _ _ => s.size - (intOf i).toNat)
    case atStart => exact ⟨3, 0, Nat.le_refl _, Or.inl rfl, rfl, rfl, by omega, by omega, rfl, rfl⟩
    case round =>
      obtain ⟨j, v, hj1, hj2, rfl, rfl, hv0, hv1, rfl, he⟩ := hrel
      by_cases hgo : ∃ h : j < s.size, 0 ≤ digN s[j].toNat 16
      · obtain ⟨hlt, hd⟩ := hgo
        have hd15 := (digN_le s[j].toNat 16).1
        have HE := Lib.hid (he.trans (by rw [eat_some (byte_at hlt) hd]))
        have hd' : decide (0 ≤ digN s[j].toNat 16) = true := by simpa using hd
        have HD := Lib.hid (digit_any s[j] 16)
        clear he
        generalize digN (s[j].toNat : Int) 16 = q at *
        go_wp2_with fail
        refine (HD.out _).mono ?_
        rintro e w1 ⟨rfl, rfl⟩
        go_wp2_with fail
        refine (HD.out _).mono ?_
        rintro e w1 ⟨rfl, rfl⟩
        go_wp2_with fail
        go_roundw
        case rel => exact ⟨j + 1, min (16 * v + q) 2097152, by omega, by omega, by go_num, rfl, by omega, by omega, by first | trivial | rfl, HE.out.trans (by congr 1; omega)⟩
        case measure => simp [intOf]; omega
      · have HE := Lib.hid (show eat 16 (s.data.toList.drop 3) 0 = (v, j - 3) from by
          rw [he]
          have h0 : eat 16 (s.data.toList.drop j) v = (v, 0) := by
            by_cases hlt : j < s.size
            · exact eat_bad (byte_at hlt) (fun hd => hgo ⟨hlt, hd⟩)
            · exact eat_none (by omega)
          rw [h0]
          simp)
        have hstop : s.size ≤ j ∨ ∃ h : j < s.size, digN s[j].toNat 16 < 0 := by
          by_cases hlt : j < s.size
          · exact Or.inr ⟨hlt, by have : ¬ 0 ≤ digN s[j].toNat 16 := (fun hd => hgo ⟨hlt, hd⟩); omega⟩
          · exact Or.inl (by omega)
        have hjm : j ≤ 1152921504606846976 := by omega
        clear he hgo
        by_cases hj : j = 3
        · have hj' : ((j : Int) == 3) = true := by simp [hj]
          have HR := Lib.hid (show numE s 16 3 = (⟨#[]⟩, 0) from by unfold numE; rw [HE.out, hj]; rfl)
          clear hj hj2
          rcases hstop with hge | ⟨hlt, hd⟩
          · go_wp2_with fail
            go_ret2
            exact ⟨by rw [HR.out]; rfl, Below.refl _ _⟩
          · have HD := Lib.hid (digit_any s[j] 16)
            have hd' : decide (0 ≤ digN s[j].toNat 16) = false := by simpa using hd
            generalize digN (s[j].toNat : Int) 16 = q at *
            go_wp2_with fail
            refine (HD.out _).mono ?_
            rintro e w1 ⟨rfl, rfl⟩
            go_wp2_with fail
            go_ret2
            exact ⟨by rw [HR.out]; rfl, Below.refl _ _⟩
        · have hj' : ((j : Int) == 3) = false := by rw [beq_eq_false_iff_ne]; omega
          have HR := Lib.hid (show numE s 16 3 = (signB v, semiN s j) from by
            unfold numE
            rw [HE.out]
            dsimp only
            rw [if_neg (by omega), show 3 + (j - 3) = j from by omega])
          have HS := Lib.hid (sign_any v w hv0 hv1)
          have HM := Lib.hid (fun W => semi_any s j W hjm)
          clear hj hj2 hv0 hv1
          rcases hstop with hge | ⟨hlt, hd⟩
          · go_wp2_with fail
            refine HS.out.mono ?_
            rintro e w1 ⟨rfl, hb⟩
            go_wp2_with fail
            refine (HM.out _).mono ?_
            rintro e w2 ⟨rfl, rfl⟩
            go_wp2_with fail
            go_ret2
            exact ⟨by rw [HR.out]; rfl, hb⟩
          · have HD := Lib.hid (digit_any s[j] 16)
            have hd' : decide (0 ≤ digN s[j].toNat 16) = false := by simpa using hd
            generalize digN (s[j].toNat : Int) 16 = q at *
            go_wp2_with fail
            refine (HD.out _).mono ?_
            rintro e w1 ⟨rfl, rfl⟩
            go_wp2_with fail
            refine HS.out.mono ?_
            rintro e w1 ⟨rfl, hb⟩
            go_wp2_with fail
            refine (HM.out _).mono ?_
            rintro e w2 ⟨rfl, rfl⟩
            go_wp2_with fail
            go_ret2
            exact ⟨by rw [HR.out]; rfl, hb⟩

  · have HN := Lib.hid (show numB s = numE s 10 2 from by
      have hx : hexB s = false := by
        unfold hexB
        by_cases h2 : 2 < s.size
        · rw [byte_at h2]
          dsimp only
          rw [beq_eq_false_iff_ne]
          exact fun e => hh ⟨h2, e⟩
        · rw [List.getElem?_eq_none (by omega)]
      unfold numB
      rw [hx]
      rfl)
    rw [HN.out]
    by_cases h2 : 2 < s.size
    · have ht : (bits BinOp.or IntKind.u8 (s[2].toNat : Int) 32 == 120) = false := by
        rw [beq_eq_false_iff_ne]
        exact fun e => hh ⟨h2, e⟩
      clear hh
      go_enter Tryz.func91, Tryz.ntmps91
      go_wp2_with fail
      go_loopw [5, 6] (fun i n wr => ∃ (j : Nat) (v : Int), 2 ≤ j ∧ (j = 2 ∨ j ≤ s.size) ∧ i = .int .i64 (j : Int) ∧ n = .int .i64 v ∧ 0 ≤ v ∧ v ≤ 2097152 ∧ w = wr ∧ eat 10 (s.data.toList.drop 2) 0 = ((eat 10 (s.data.toList.drop j) v).1, (eat 10 (s.data.toList.drop j) v).2 + (j - 2))) (fun i _ _ => s.size - (intOf i).toNat)
      case atStart => exact ⟨2, 0, Nat.le_refl _, Or.inl rfl, rfl, rfl, by omega, by omega, rfl, rfl⟩
      case round =>
        obtain ⟨j, v, hj1, hj2, rfl, rfl, hv0, hv1, rfl, he⟩ := hrel
        by_cases hgo : ∃ h : j < s.size, 0 ≤ digN s[j].toNat 10
        · obtain ⟨hlt, hd⟩ := hgo
          have hd15 := (digN_le s[j].toNat 10).1
          have HE := Lib.hid (he.trans (by rw [eat_some (byte_at hlt) hd]))
          have hd' : decide (0 ≤ digN s[j].toNat 10) = true := by simpa using hd
          have HD := Lib.hid (digit_any s[j] 10)
          clear he
          generalize digN (s[j].toNat : Int) 10 = q at *
          go_wp2_with fail
          refine (HD.out _).mono ?_
          rintro e w1 ⟨rfl, rfl⟩
          go_wp2_with fail
          refine (HD.out _).mono ?_
          rintro e w1 ⟨rfl, rfl⟩
          go_wp2_with fail
          go_roundw
          case rel => exact ⟨j + 1, min (10 * v + q) 2097152, by omega, by omega, by go_num, rfl, by omega, by omega, by first | trivial | rfl, HE.out.trans (by congr 1; omega)⟩
          case measure => simp [intOf]; omega
        · have HE := Lib.hid (show eat 10 (s.data.toList.drop 2) 0 = (v, j - 2) from by
            rw [he]
            have h0 : eat 10 (s.data.toList.drop j) v = (v, 0) := by
              by_cases hlt : j < s.size
              · exact eat_bad (byte_at hlt) (fun hd => hgo ⟨hlt, hd⟩)
              · exact eat_none (by omega)
            rw [h0]
            simp)
          have hstop : s.size ≤ j ∨ ∃ h : j < s.size, digN s[j].toNat 10 < 0 := by
            by_cases hlt : j < s.size
            · exact Or.inr ⟨hlt, by have : ¬ 0 ≤ digN s[j].toNat 10 := (fun hd => hgo ⟨hlt, hd⟩); omega⟩
            · exact Or.inl (by omega)
          have hjm : j ≤ 1152921504606846976 := by omega
          clear he hgo
          by_cases hj : j = 2
          · have hj' : ((j : Int) == 2) = true := by simp [hj]
            have HR := Lib.hid (show numE s 10 2 = (⟨#[]⟩, 0) from by unfold numE; rw [HE.out, hj]; rfl)
            clear hj hj2
            rcases hstop with hge | ⟨hlt, hd⟩
            · go_wp2_with fail
              go_ret2
              exact ⟨by rw [HR.out]; rfl, Below.refl _ _⟩
            · have HD := Lib.hid (digit_any s[j] 10)
              have hd' : decide (0 ≤ digN s[j].toNat 10) = false := by simpa using hd
              generalize digN (s[j].toNat : Int) 10 = q at *
              go_wp2_with fail
              refine (HD.out _).mono ?_
              rintro e w1 ⟨rfl, rfl⟩
              go_wp2_with fail
              go_ret2
              exact ⟨by rw [HR.out]; rfl, Below.refl _ _⟩
          · have hj' : ((j : Int) == 2) = false := by rw [beq_eq_false_iff_ne]; omega
            have HR := Lib.hid (show numE s 10 2 = (signB v, semiN s j) from by
              unfold numE
              rw [HE.out]
              dsimp only
              rw [if_neg (by omega), show 2 + (j - 2) = j from by omega])
            have HS := Lib.hid (sign_any v w hv0 hv1)
            have HM := Lib.hid (fun W => semi_any s j W hjm)
            clear hj hj2 hv0 hv1
            rcases hstop with hge | ⟨hlt, hd⟩
            · go_wp2_with fail
              refine HS.out.mono ?_
              rintro e w1 ⟨rfl, hb⟩
              go_wp2_with fail
              refine (HM.out _).mono ?_
              rintro e w2 ⟨rfl, rfl⟩
              go_wp2_with fail
              go_ret2
              exact ⟨by rw [HR.out]; rfl, hb⟩
            · have HD := Lib.hid (digit_any s[j] 10)
              have hd' : decide (0 ≤ digN s[j].toNat 10) = false := by simpa using hd
              generalize digN (s[j].toNat : Int) 10 = q at *
              go_wp2_with fail
              refine (HD.out _).mono ?_
              rintro e w1 ⟨rfl, rfl⟩
              go_wp2_with fail
              refine HS.out.mono ?_
              rintro e w1 ⟨rfl, hb⟩
              go_wp2_with fail
              refine (HM.out _).mono ?_
              rintro e w2 ⟨rfl, rfl⟩
              go_wp2_with fail
              go_ret2
              exact ⟨by rw [HR.out]; rfl, hb⟩

    · clear hh
      go_enter Tryz.func91, Tryz.ntmps91
      go_wp2_with fail
      go_loopw [5, 6] (fun i n wr => ∃ (j : Nat) (v : Int), 2 ≤ j ∧ (j = 2 ∨ j ≤ s.size) ∧ i = .int .i64 (j : Int) ∧ n = .int .i64 v ∧ 0 ≤ v ∧ v ≤ 2097152 ∧ w = wr ∧ eat 10 (s.data.toList.drop 2) 0 = ((eat 10 (s.data.toList.drop j) v).1, (eat 10 (s.data.toList.drop j) v).2 + (j - 2))) (fun i _ _ => s.size - (intOf i).toNat)
      case atStart => exact ⟨2, 0, Nat.le_refl _, Or.inl rfl, rfl, rfl, by omega, by omega, rfl, rfl⟩
      case round =>
        obtain ⟨j, v, hj1, hj2, rfl, rfl, hv0, hv1, rfl, he⟩ := hrel
        by_cases hgo : ∃ h : j < s.size, 0 ≤ digN s[j].toNat 10
        · obtain ⟨hlt, hd⟩ := hgo
          have hd15 := (digN_le s[j].toNat 10).1
          have HE := Lib.hid (he.trans (by rw [eat_some (byte_at hlt) hd]))
          have hd' : decide (0 ≤ digN s[j].toNat 10) = true := by simpa using hd
          have HD := Lib.hid (digit_any s[j] 10)
          clear he
          generalize digN (s[j].toNat : Int) 10 = q at *
          go_wp2_with fail
          refine (HD.out _).mono ?_
          rintro e w1 ⟨rfl, rfl⟩
          go_wp2_with fail
          refine (HD.out _).mono ?_
          rintro e w1 ⟨rfl, rfl⟩
          go_wp2_with fail
          go_roundw
          case rel => exact ⟨j + 1, min (10 * v + q) 2097152, by omega, by omega, by go_num, rfl, by omega, by omega, by first | trivial | rfl, HE.out.trans (by congr 1; omega)⟩
          case measure => simp [intOf]; omega
        · have HE := Lib.hid (show eat 10 (s.data.toList.drop 2) 0 = (v, j - 2) from by
            rw [he]
            have h0 : eat 10 (s.data.toList.drop j) v = (v, 0) := by
              by_cases hlt : j < s.size
              · exact eat_bad (byte_at hlt) (fun hd => hgo ⟨hlt, hd⟩)
              · exact eat_none (by omega)
            rw [h0]
            simp)
          have hstop : s.size ≤ j ∨ ∃ h : j < s.size, digN s[j].toNat 10 < 0 := by
            by_cases hlt : j < s.size
            · exact Or.inr ⟨hlt, by have : ¬ 0 ≤ digN s[j].toNat 10 := (fun hd => hgo ⟨hlt, hd⟩); omega⟩
            · exact Or.inl (by omega)
          have hjm : j ≤ 1152921504606846976 := by omega
          clear he hgo
          by_cases hj : j = 2
          · have hj' : ((j : Int) == 2) = true := by simp [hj]
            have HR := Lib.hid (show numE s 10 2 = (⟨#[]⟩, 0) from by unfold numE; rw [HE.out, hj]; rfl)
            clear hj hj2
            rcases hstop with hge | ⟨hlt, hd⟩
            · go_wp2_with fail
              go_ret2
              exact ⟨by rw [HR.out]; rfl, Below.refl _ _⟩
            · have HD := Lib.hid (digit_any s[j] 10)
              have hd' : decide (0 ≤ digN s[j].toNat 10) = false := by simpa using hd
              generalize digN (s[j].toNat : Int) 10 = q at *
              go_wp2_with fail
              refine (HD.out _).mono ?_
              rintro e w1 ⟨rfl, rfl⟩
              go_wp2_with fail
              go_ret2
              exact ⟨by rw [HR.out]; rfl, Below.refl _ _⟩
          · have hj' : ((j : Int) == 2) = false := by rw [beq_eq_false_iff_ne]; omega
            have HR := Lib.hid (show numE s 10 2 = (signB v, semiN s j) from by
              unfold numE
              rw [HE.out]
              dsimp only
              rw [if_neg (by omega), show 2 + (j - 2) = j from by omega])
            have HS := Lib.hid (sign_any v w hv0 hv1)
            have HM := Lib.hid (fun W => semi_any s j W hjm)
            clear hj hj2 hv0 hv1
            rcases hstop with hge | ⟨hlt, hd⟩
            · go_wp2_with fail
              refine HS.out.mono ?_
              rintro e w1 ⟨rfl, hb⟩
              go_wp2_with fail
              refine (HM.out _).mono ?_
              rintro e w2 ⟨rfl, rfl⟩
              go_wp2_with fail
              go_ret2
              exact ⟨by rw [HR.out]; rfl, hb⟩
            · have HD := Lib.hid (digit_any s[j] 10)
              have hd' : decide (0 ≤ digN s[j].toNat 10) = false := by simpa using hd
              generalize digN (s[j].toNat : Int) 10 = q at *
              go_wp2_with fail
              refine (HD.out _).mono ?_
              rintro e w1 ⟨rfl, rfl⟩
              go_wp2_with fail
              refine HS.out.mono ?_
              rintro e w1 ⟨rfl, hb⟩
              go_wp2_with fail
              refine (HM.out _).mono ?_
              rintro e w2 ⟨rfl, rfl⟩
              go_wp2_with fail
              go_ret2
              exact ⟨by rw [HR.out]; rfl, hb⟩

end Go.Proofs.YtbddnohbkafagaaGreatDoor
