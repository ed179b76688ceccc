/-
OF TAGS' NAMES THE LETTERS' SIZE DOES NOT MATTER: the walk of TokenSize.
-/
import Derived.Test.YtbddnohbkafagaaGreatDoorTkE
import Derived.Test.YtbddnohbkafagaaGreatDoorTokSizeLaw
namespace Go.Proofs.YtbddnohbkafagaaGreatDoor
open Go.RowKit Go.Cl
attribute [local go_sem ↓] Go.wp_at_zero Go.wp_at_succ
theorem up_big {b : UInt8} (h : 65 ≤ b.toNat ∧ b.toNat ≤ 90) : upS b = b := by
  unfold upS
  rw [if_neg (by omega)]
theorem up_low {b : UInt8} (h : 97 ≤ b.toNat ∧ b.toNat ≤ 122) : (upS b).toNat = b.toNat - 32 := by
  unfold upS
  rw [if_pos h, UInt8.toNat_sub_of_le _ _ (by show 32 ≤ b.toNat; omega)]
  rfl
theorem up_else {b : UInt8} (h : ¬ (97 ≤ b.toNat ∧ b.toNat ≤ 122)) : upS b = b := if_neg h
theorem take_up {s : List UInt8} {j : Nat} {x : UInt8} (h : s[j]? = some x) : (s.take (j + 1)).map upS = (s.take j).map upS ++ [upS x] := by
  rw [List.take_add_one, h]
  simp
theorem size_says (s u : ByteArray) (hu : u.data.toList = s.data.toList.map upS) :
    ((readF s.data.toList).1.map (plOf s)).length = ((readF u.data.toList).1.map (plOf u)).length ∧ ∀ (i : Nat) x y, ((readF s.data.toList).1.map (plOf s))[i]? = some x → ((readF u.data.toList).1.map (plOf u))[i]? = some y → x.1.kind = y.1.kind ∧ x.1.name = y.1.name ∧ x.1.attrs.length = y.1.attrs.length ∧ x.2 = y.2 := by
  have hl := size_law s.data.toList
  rw [← hu] at hl
  have hz : u.size = s.size := by rw [Lib.size_eq u, hu, List.length_map, ← Lib.size_eq]
  refine ⟨?_, fun i x y hx hy => ?_⟩
  · have := congrArg List.length hl
    rw [List.length_map, List.length_map] at this
    rw [List.length_map, List.length_map, this]
  · rw [List.getElem?_map] at hx hy
    obtain ⟨z, hz1, rfl⟩ := Option.map_eq_some_iff.1 hx
    obtain ⟨z2, hz2, rfl⟩ := Option.map_eq_some_iff.1 hy
    have h1 := congrArg (fun q => q[i]?) hl
    simp only [List.getElem?_map, hz1, hz2, Option.map_some, Option.some.injEq] at h1
    have e1 := congrArg (fun q => q.1.1) h1
    have e2 := congrArg (fun q => q.1.2.1) h1
    have e3 := congrArg (fun q => q.1.2.2) h1
    have e4 := congrArg Prod.snd h1
    refine ⟨e1.symm, e2.symm, ?_, ?_⟩
    · have := congrArg List.length e3
      show z.1.attrs.length = z2.1.attrs.length
      simpa [tellP, tell] using this.symm
    · have e5 : z2.2 = z.2 := e4
      unfold plOf
      dsimp only
      rw [hz, e5]
theorem one_str (w : World) (c : UInt8) : (convert 36 9 (.slice (some ⟨w.heap.size, 0, none⟩) 1 1)).run Tryz.prog (w.alloc (.cells #[.int .u8 (c.toNat : Int)] 5)) = .ok (.string ⟨#[c]⟩) (w.alloc (.cells #[.int .u8 (c.toNat : Int)] 5)) :=
  run_convert_bytes_back (w.alloc (.cells #[.int .u8 (c.toNat : Int)] 5)) _ _ 5 ⟨w.heap.size, 0, none⟩ 1 [c] Tryz.underlying36 Tryz.underlying5 Tryz.underlying9 fun j hj => by
    obtain rfl : j = 0 := by simpa using hj
    exact cell_new w [.int .u8 (c.toNat : Int)] 5 0 _ rfl
set_option maxRecDepth 100000 in
set_option maxHeartbeats 8000000 in
theorem tokenSize_walk (b0 : ByteArray) (W : World) (m : Int) (hm : maxLenAt W m) (hT : FoldTabs W) :
    Calls Tryz.prog 5 #[.string b0] W fun e w' => e = .returned (.bool true) ∧ Below W.heap.size W w' := by
  have HSO := Lib.hid (tkSome_any b0 200 W (by decide))
  have HM := Lib.hid hm
  have HT := Lib.hid hT
  have HBE := Lib.hid (fun (U : World) (h : Below W.heap.size W U) => tkBegun_any U m (cell_be hm h) (hT.next (Nat.le_refl _) h))
  have HRD := Lib.hid (fun (U : World) (h : Below W.heap.size W U) (s : ByteArray) (hs : s.size ≤ 4000) => tkRead_sl U s hs m (cell_be hm h) (hT.next (Nat.le_refl _) h))
  clear hm hT
  go_enter Tryz.func5, Tryz.ntmps5
  go_upto_region 2 with (go_at_call 11; refine HSO.out.mono ?_; rintro e w1 ⟨⟨s, rfl, hs⟩, hw1⟩; subst hw1)
  go_wp2_with fail
  go_loopw [3, 4] (fun a i wr => ∃ (j : Nat) (u : ByteArray), j ≤ s.size ∧ i = .int .i64 (j : Int) ∧ a = .string u ∧ Below W.heap.size W wr ∧ u.size ≤ 200 ∧ Hid (u.data.toList = (s.data.toList.take j).map upS)) (fun _ i _ => s.size - (intOf i).toNat)
  case atStart => exact ⟨0, ⟨#[]⟩, Nat.zero_le _, rfl, rfl, Below.refl _ _, by decide, rfl⟩
  case round =>
    obtain ⟨j, u, hj, rfl, rfl, hb, huz, HU⟩ := hrel
    by_cases hlt : j < s.size
    · obtain ⟨x, hx⟩ : ∃ x : UInt8, s[j]'hlt = x := ⟨_, rfl⟩
      have hxl : s.data.toList[j]? = some x := by rw [← hx]; exact Lib.data_getElem? s j hlt
      have hx256 := x.toNat_lt
      have HB := Lib.hid hb
      have HTK := Lib.hid (take_up hxl)
      have huj : u.size ≤ j := by
        have h1 := Lib.size_eq u
        rw [HU.out, List.length_map, List.length_take] at h1
        omega
      clear hxl hb
      have HST := Lib.hid (fun c : UInt8 => one_str wr c)
      by_cases k1 : 65 ≤ x.toNat ∧ x.toNat ≤ 90
      · have HUP : Hid (upS x = x) := up_big k1
        have p1 : (65 : Int) ≤ (x.toNat : Int) := by omega
        have p2 : (x.toNat : Int) ≤ 90 := by omega
        have hst := HST.out x
        go_wp2_with fail
        go_roundw
        case rel => exact ⟨j + 1, _, by omega, by first | rfl | (congr 1; omega), rfl, HB.out.trans ((tal (Below.refl _ _) _).mono HB.out.size), by rw [app_size]; show _ + 1 ≤ _; omega, by show _ = _; rw [HTK.out, HUP.out, ← HU.out, app_list]⟩
        case measure => simp [intOf]; omega
      by_cases k2 : 97 ≤ x.toNat ∧ x.toNat ≤ 122
      · have HUP : Hid ((upS x).toNat = x.toNat - 32) := up_low k2
        have p1 : (97 : Int) ≤ (x.toNat : Int) := by omega
        have p2 : (x.toNat : Int) ≤ 122 := by omega
        have hst := HST.out (upS x)
        rw [show (((upS x).toNat : Nat) : Int) = (x.toNat : Int) - 32 by rw [HUP.out]; omega] at hst
        go_wp2_with fail
        go_roundw
        case rel => exact ⟨j + 1, _, by omega, by first | rfl | (congr 1; omega), rfl, HB.out.trans ((tal (Below.refl _ _) _).mono HB.out.size), by rw [app_size]; show _ + 1 ≤ _; omega, by show _ = _; rw [HTK.out, ← HU.out, app_list]⟩
        case measure => simp [intOf]; omega
      have HUP : Hid (upS x = x) := up_else k2
      by_cases k3 : x.toNat = 32 ∨ x.toNat = 60 ∨ x.toNat = 62 ∨ x.toNat = 47
      · have p1 : ¬ (65 : Int) ≤ (x.toNat : Int) := by omega
        have p2 : (x.toNat : Int) < 97 := by omega
        have p3 : ¬ (97 : Int) ≤ (x.toNat : Int) := by omega
        have hst := HST.out x
        clear p1 p2 p3 hst k1 k2 hx256
        rcases k3 with k3 | k3 | k3 | k3
        · obtain rfl : x = 32 := UInt8.toNat_inj.1 k3
          have hst := HST.out 32
          rw [show (((32 : UInt8).toNat : Nat) : Int) = 32 from rfl] at hst
          clear k3
          go_wp2_with fail
          go_roundw
          case rel => exact ⟨j + 1, _, by omega, by first | rfl | (congr 1; omega), rfl, HB.out.trans ((tal (Below.refl _ _) _).mono HB.out.size), by rw [app_size]; show _ + 1 ≤ _; omega, by show _ = _; rw [HTK.out, HUP.out, ← HU.out, app_list]⟩
          case measure => simp [intOf]; omega
        · obtain rfl : x = 60 := UInt8.toNat_inj.1 k3
          have hst := HST.out 60
          rw [show (((60 : UInt8).toNat : Nat) : Int) = 60 from rfl] at hst
          clear k3
          go_wp2_with fail
          go_roundw
          case rel => exact ⟨j + 1, _, by omega, by first | rfl | (congr 1; omega), rfl, HB.out.trans ((tal (Below.refl _ _) _).mono HB.out.size), by rw [app_size]; show _ + 1 ≤ _; omega, by show _ = _; rw [HTK.out, HUP.out, ← HU.out, app_list]⟩
          case measure => simp [intOf]; omega
        · obtain rfl : x = 62 := UInt8.toNat_inj.1 k3
          have hst := HST.out 62
          rw [show (((62 : UInt8).toNat : Nat) : Int) = 62 from rfl] at hst
          clear k3
          go_wp2_with fail
          go_roundw
          case rel => exact ⟨j + 1, _, by omega, by first | rfl | (congr 1; omega), rfl, HB.out.trans ((tal (Below.refl _ _) _).mono HB.out.size), by rw [app_size]; show _ + 1 ≤ _; omega, by show _ = _; rw [HTK.out, HUP.out, ← HU.out, app_list]⟩
          case measure => simp [intOf]; omega
        · obtain rfl : x = 47 := UInt8.toNat_inj.1 k3
          have hst := HST.out 47
          rw [show (((47 : UInt8).toNat : Nat) : Int) = 47 from rfl] at hst
          clear k3
          go_wp2_with fail
          go_roundw
          case rel => exact ⟨j + 1, _, by omega, by first | rfl | (congr 1; omega), rfl, HB.out.trans ((tal (Below.refl _ _) _).mono HB.out.size), by rw [app_size]; show _ + 1 ≤ _; omega, by show _ = _; rw [HTK.out, HUP.out, ← HU.out, app_list]⟩
          case measure => simp [intOf]; omega
      have e1 : ((x.toNat : Int) == 32) = false := beq_eq_false_iff_ne.2 (by omega)
      have e2 : ((x.toNat : Int) == 60) = false := beq_eq_false_iff_ne.2 (by omega)
      have e3 : ((x.toNat : Int) == 62) = false := beq_eq_false_iff_ne.2 (by omega)
      have e4 : ((x.toNat : Int) == 47) = false := beq_eq_false_iff_ne.2 (by omega)
      have f1 : ¬ x.toNat = 32 := by omega
      have f2 : ¬ x.toNat = 60 := by omega
      have f3 : ¬ x.toNat = 62 := by omega
      have f4 : ¬ x.toNat = 47 := by omega
      have n1 : ((x.toNat : Int) != 32) = true := by rw [bne, e1]; rfl
      have n2 : ((x.toNat : Int) != 60) = true := by rw [bne, e2]; rfl
      have n3 : ((x.toNat : Int) != 62) = true := by rw [bne, e3]; rfl
      have n4 : ((x.toNat : Int) != 47) = true := by rw [bne, e4]; rfl
      have HBG := Lib.hid (HBE.out wr HB.out)
      have k4 : x.toNat < 65 ∨ (90 < x.toNat ∧ x.toNat < 97) ∨ 122 < x.toNat := by omega
      clear k1 k2 k3
      rcases k4 with k4 | k4 | k4
      · have p1 : ¬ (65 : Int) ≤ (x.toNat : Int) := by omega
        have p2 : (x.toNat : Int) < 97 := by omega
        go_wp2_with (go_at_call 8; refine HBG.out.mono ?_; rintro e w7 ⟨rfl, hb7⟩; have HB7 := Lib.hid hb7; clear hb7)
        go_ret
        exact ⟨rfl, HB.out.trans (HB7.out.mono HB.out.size)⟩
      · have p1 : (65 : Int) ≤ (x.toNat : Int) := by omega
        have p3 : ¬ (x.toNat : Int) ≤ 90 := by omega
        have p2 : (x.toNat : Int) < 97 := by omega
        go_wp2_with (go_at_call 8; refine HBG.out.mono ?_; rintro e w7 ⟨rfl, hb7⟩; have HB7 := Lib.hid hb7; clear hb7)
        go_ret
        exact ⟨rfl, HB.out.trans (HB7.out.mono HB.out.size)⟩
      · have p1 : (65 : Int) ≤ (x.toNat : Int) := by omega
        have p3 : ¬ (x.toNat : Int) ≤ 90 := by omega
        have p2 : ¬ (x.toNat : Int) < 97 := by omega
        have p4 : (122 : Int) < (x.toNat : Int) := by omega
        go_wp2_with (go_at_call 8; refine HBG.out.mono ?_; rintro e w7 ⟨rfl, hb7⟩; have HB7 := Lib.hid hb7; clear hb7)
        go_ret
        exact ⟨rfl, HB.out.trans (HB7.out.mono HB.out.size)⟩
    · obtain rfl : j = s.size := by omega
      have hu : u.data.toList = s.data.toList.map upS := by rw [HU.out, Lib.size_eq, List.take_length]
      obtain ⟨hlen, hsay⟩ := size_says s u hu
      have HBR := Lib.hid hb
      have HR1 := Lib.hid (fun (U : World) (h : Below W.heap.size W U) => HRD.out U h s (by omega))
      have HR2 := Lib.hid (fun (U : World) (h : Below W.heap.size W U) => HRD.out U h u (by omega))
      obtain ⟨l, hl⟩ : ∃ l, (readF s.data.toList).1.map (plOf s) = l := ⟨_, rfl⟩
      obtain ⟨k, hk⟩ : ∃ k, (readF u.data.toList).1.map (plOf u) = k := ⟨_, rfl⟩
      rw [hl, hk] at hlen hsay
      rw [hl] at HR1
      rw [hk] at HR2
      have HSY := Lib.hid hsay
      have HLE := Lib.hid hlen
      clear hl hk hlen hsay hu hb HRD
      go_upto_region 15 with (go_at_call 9; refine (HR1.out _ HBR.out).mono ?_; rintro e w3 ⟨A, n, c, rfl, hb3, hsl⟩; have HB3 := Lib.hid (HBR.out.trans (hb3.mono HBR.out.size)); have HSL := Lib.hid hsl; clear hb3 hsl)
      go_upto_region 16 with (go_at_call 9; refine (HR2.out _ HB3.out).mono ?_; rintro e w4 ⟨A2, n2, c2, rfl, hb4, hsl⟩; have HB4 := Lib.hid (HB3.out.trans (hb4.mono HB3.out.size)); have HL4 := Lib.hid ((HSL.out.below hb4 (Nat.le_refl _)).up hb4.size); have HK4 := Lib.hid hsl; clear hb4 hsl)
      obtain rfl : n = n2 := HL4.out.hn.trans (HLE.out.trans HK4.out.hn.symm)
      have HN := Lib.hid HL4.out.hn
      have hn6 := HL4.out.small
      go_wp2_with fail
      go_loopw [10] (fun i wx => ∃ j2 : Nat, j2 ≤ n ∧ i = .int .i64 (j2 : Int) ∧ Below w4.heap.size w4 wx) (fun i _ => n - (intOf i).toNat)
      case atStart => exact ⟨0, Nat.zero_le _, rfl, Below.refl _ _⟩
      case round =>
        obtain ⟨j2, hj2, rfl, hb⟩ := hrel
        have HBX := Lib.hid (HB4.out.trans (hb.mono HB4.out.size))
        by_cases hlt2 : j2 < n
        · obtain ⟨x, hx⟩ : ∃ x, l[j2]? = some x := get_some (by have := HN.out; omega)
          obtain ⟨y, hy⟩ : ∃ y, k[j2]? = some y := get_some (by have := HN.out; have := HLE.out; omega)
          obtain ⟨b, o, A4, n4, c4, rfl, g0, g1, g2, g3, g4, g5, g6, gat⟩ := tok_get (HL4.out.below hb (Nat.le_refl _)) hx
          obtain ⟨b', o', A5, n5, c5, rfl, h0, h1, h2, h3, h4, h5, h6, hat⟩ := tok_get (HK4.out.below hb (Nat.le_refl _)) hy
          obtain ⟨e1, e2, e3, e4⟩ := HSY.out j2 x y hx hy
          obtain rfl : n4 = n5 := gat.hn.trans (e3.trans hat.hn.symm)
          rw [← e1] at h0
          rw [← e2] at h1
          rw [← e4] at h5 h6
          obtain ⟨⟨xk, xn, xa, xt, xs⟩, xf, xe⟩ := x
          dsimp only at g0 g1 g2 g3 g4 g5 g6 h0 h1 h5 h6
          clear e1 e2 e3 e4 gat hat hx hy g3 g4 h3 h4
          go_wp2_with fail
          go_quiet (fail)
          go_wp2_with fail
          go_roundw
          case rel => exact ⟨j2 + 1, by omega, by first | rfl | (congr 1; omega), tst hb (tdrewN _ _)⟩
          case measure => simp [intOf]; omega
        · have HBG := Lib.hid (HBE.out _ HBX.out)
          go_wp2_with (go_at_call 8; refine HBG.out.mono ?_; rintro e w7 ⟨rfl, hb7⟩; have HB7 := Lib.hid hb7; clear hb7)
          go_ret
          exact ⟨rfl, HBX.out.trans (HB7.out.mono HBX.out.size)⟩
end Go.Proofs.YtbddnohbkafagaaGreatDoor
