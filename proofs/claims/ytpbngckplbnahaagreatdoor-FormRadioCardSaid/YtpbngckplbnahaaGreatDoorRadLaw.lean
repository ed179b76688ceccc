/-
A form of radio buttons alone: what is told of it (plain law, by computing).
-/
import Derived.Test.YtpbngckplbnahaaGreatDoorFormFault
import Derived.Test.YtpbngckplbnahaaGreatDoorEdLaws
namespace Go.Proofs.YtpbngckplbnahaaGreatDoor
open Go.RowKit Go.Cl
/-- One button. -/
def radN (req : Bool) (i : Nat) (c : Bool) : Nd := ⟨2, (⟨#[105, 110, 112, 117, 116]⟩ : ByteArray), [((⟨#[116, 121, 112, 101]⟩ : ByteArray), (⟨#[82, 65, 68, 73, 79]⟩ : ByteArray)), ((⟨#[110, 97, 109, 101]⟩ : ByteArray), (⟨#[114]⟩ : ByteArray)), ((⟨#[118, 97, 108, 117, 101]⟩ : ByteArray), ⟨#[(97 + i).toUInt8]⟩)] ++ (if c then [((⟨#[99, 104, 101, 99, 107, 101, 100]⟩ : ByteArray), ⟨#[]⟩)] else []) ++ (if req then [((⟨#[114, 101, 113, 117, 105, 114, 101, 100]⟩ : ByteArray), ⟨#[]⟩)] else []), ⟨#[]⟩, 1, []⟩
def radK (n : Nat) : List Int := (List.range n).map fun i => ((i + 2 : Nat) : Int)
def radF (n : Nat) : Nd := ⟨2, (⟨#[102, 111, 114, 109]⟩ : ByteArray), [], ⟨#[]⟩, 0, radK n⟩
def radD (req : Bool) (cs : List Bool) : List Nd := ⟨1, ⟨#[]⟩, [], ⟨#[]⟩, -1, [1]⟩ :: radF cs.length :: cs.mapIdx (radN req)
/-- The same tree with no button checked. -/
def rad0 (n : Nat) : List Nd := radD false (List.replicate n false)
set_option maxRecDepth 100000 in
theorem rad0_all : ∀ n, n ≤ 10 → checkD (rad0 n) = 0 ∧ preR (rad0 n) 0 = 0 :: 1 :: radK n ∧ chainR (rad0 n) 1 = [1, 0] := by decide +kernel
set_option maxRecDepth 100000 in
theorem radN_all : ∀ i, i < 10 → ∀ req c : Bool, nodeE (radN req i c) = 0 ∧ hasA (radN req i c).attrs (⟨#[99, 104, 101, 99, 107, 101, 100]⟩ : ByteArray) = c ∧ hasA (radN req i c).attrs (⟨#[100, 105, 115, 97, 98, 108, 101, 100]⟩ : ByteArray) = false ∧ hasA (radN req i c).attrs (⟨#[102, 111, 114, 109]⟩ : ByteArray) = false ∧ hasA (radN req i c).attrs (⟨#[118, 97, 108, 117, 101]⟩ : ByteArray) = true ∧ hasA (radN req i c).attrs (⟨#[114, 101, 113, 117, 105, 114, 101, 100]⟩ : ByteArray) = req := by decide +kernel
set_option maxRecDepth 100000 in
theorem radN_of : ∀ i, i < 10 → ∀ req c : Bool, (ofA (radN req i c).attrs (⟨#[110, 97, 109, 101]⟩ : ByteArray)).toList = ([114] : List UInt8) ∧ (ofA (radN req i c).attrs (⟨#[116, 121, 112, 101]⟩ : ByteArray)).toList = ([82, 65, 68, 73, 79] : List UInt8) ∧ (ofA (radN req i c).attrs (⟨#[118, 97, 108, 117, 101]⟩ : ByteArray)).toList = [(97 + i).toUInt8] ∧ (ofA (radN req i c).attrs (⟨#[109, 97, 120, 108, 101, 110, 103, 116, 104]⟩ : ByteArray)).toList = [] ∧ (ofA (radN req i c).attrs (⟨#[109, 105, 110, 108, 101, 110, 103, 116, 104]⟩ : ByteArray)).toList = [] := by decide +kernel
/-! ### the tree -/
structure Skel (l y : List Nd) : Prop where
  len : y.length = l.length
  par : y.map Nd.parent = l.map Nd.parent
  kids : y.map Nd.kids = l.map Nd.kids
section
variable {l y : List Nd} (D : Skel l y)
include D
theorem Skel.parD : parD y = parD l := by funext m; unfold Go.Proofs.YtpbngckplbnahaaGreatDoor.parD; rw [D.par]
theorem Skel.kidsD : kidsD y = kidsD l := by funext m; unfold Go.Proofs.YtpbngckplbnahaaGreatDoor.kidsD; rw [D.kids]
theorem Skel.upF : ∀ f m, upF y f m = upF l f m := by
  intro f
  induction f with
  | zero => intro m; rfl
  | succ f ih => intro m; simp only [Go.Proofs.YtpbngckplbnahaaGreatDoor.upF, D.par, ih]
theorem Skel.upN : upN y = upN l := by funext m; unfold Go.Proofs.YtpbngckplbnahaaGreatDoor.upN; rw [D.len, D.upF]
theorem Skel.chainF : ∀ f z, chainF y f z = chainF l f z := by
  intro f
  induction f with
  | zero => intro z; rfl
  | succ f ih => intro z; simp only [Go.Proofs.YtpbngckplbnahaaGreatDoor.chainF, D.parD, ih]
theorem Skel.chainR : chainR y = chainR l := by funext m; unfold Go.Proofs.YtpbngckplbnahaaGreatDoor.chainR depZ; rw [D.upN, D.chainF]
theorem Skel.preF : ∀ f z, preF y f z = preF l f z := by
  intro f
  induction f with
  | zero => intro z; rfl
  | succ f ih =>
    intro z
    simp only [Go.Proofs.YtpbngckplbnahaaGreatDoor.preF, D.kidsD]
    congr 1
    exact congrArg (fun g => (Go.Proofs.YtpbngckplbnahaaGreatDoor.kidsD l z).flatMap g) (funext ih)
theorem Skel.preR : preR y = preR l := by funext m; unfold Go.Proofs.YtpbngckplbnahaaGreatDoor.preR; rw [D.upN, D.preF]
end
theorem rad_map {β : Type} (g : Nd → β) (b : β) (req : Bool) (cs : List Bool) (h : ∀ i c, g (radN req i c) = b) : (cs.mapIdx (radN req)).map g = List.replicate cs.length b := by
  apply List.ext_getElem (by simp)
  intro i h1 h2
  simp [h]
theorem rad_skel (req : Bool) (cs : List Bool) : Skel (rad0 cs.length) (radD req cs) := by
  refine ⟨by simp [radD, rad0], ?_, ?_⟩
  · unfold rad0 radD
    simp only [List.map_cons, List.length_replicate]
    rw [rad_map Nd.parent 1 _ _ fun _ _ => rfl, rad_map Nd.parent 1 _ _ fun _ _ => rfl, List.length_replicate]
  · unfold rad0 radD
    simp only [List.map_cons, List.length_replicate]
    rw [rad_map Nd.kids [] _ _ fun _ _ => rfl, rad_map Nd.kids [] _ _ fun _ _ => rfl, List.length_replicate]
theorem rad_at {req : Bool} {cs : List Bool} {i : Nat} {c : Bool} (h : cs[i]? = some c) : (radD req cs)[i + 2]? = some (radN req i c) := by
  show (cs.mapIdx (radN req))[i]? = _
  rw [List.getElem?_mapIdx, h]
  rfl
theorem rad_atD {req : Bool} {cs : List Bool} {i : Nat} {c : Bool} (h : cs[i]? = some c) : atD (radD req cs) ((i + 2 : Nat) : Int) = radN req i c := atD_at (rad_at h)
set_option maxRecDepth 100000 in
theorem rad_check {cs : List Bool} (req : Bool) (hn : cs.length ≤ 10) : checkD (radD req cs) = 0 := by
  refine check_of (good_skel (good_of (rad0_all cs.length hn).1) (rad_skel req cs).len ?_ ?_)
  · intro j x' hx'
    have hj := (List.getElem?_eq_some_iff.1 hx').1
    match j, hx', hj with
    | 0, hx', _ => exact ⟨_, rfl, by obtain rfl := Option.some.inj hx'; exact ⟨rfl, rfl, rfl⟩⟩
    | 1, hx', _ => exact ⟨radF cs.length, by show some (radF (List.replicate cs.length false).length) = _; rw [List.length_replicate], by obtain rfl := Option.some.inj hx'; exact ⟨rfl, rfl, rfl⟩⟩
    | j + 2, hx', hj =>
      have hj2 : j < cs.length := by simp [radD] at hj; omega
      obtain ⟨c, hc⟩ := get_some hj2
      rw [rad_at hc] at hx'
      obtain rfl := Option.some.inj hx'
      exact ⟨radN false j false, rad_at (by simp [hj2]), rfl, rfl, rfl⟩
  · intro x hx
    obtain ⟨j, hj⟩ := List.mem_iff_getElem?.1 hx
    have hj' := (List.getElem?_eq_some_iff.1 hj).1
    match j, hj, hj' with
    | 0, hj, _ => obtain rfl := Option.some.inj hj; decide +kernel
    | 1, hj, _ =>
      obtain rfl := Option.some.inj hj
      show nodeE ⟨2, (⟨#[102, 111, 114, 109]⟩ : ByteArray), [], ⟨#[]⟩, 0, radK cs.length⟩ = 0
      have : ∀ ks, nodeE ⟨2, (⟨#[102, 111, 114, 109]⟩ : ByteArray), [], ⟨#[]⟩, 0, ks⟩ = nodeE ⟨2, (⟨#[102, 111, 114, 109]⟩ : ByteArray), [], ⟨#[]⟩, 0, []⟩ := fun ks => rfl
      rw [this]
      decide +kernel
    | j + 2, hj, hj' =>
      have hj2 : j < cs.length := by simp [radD] at hj'; omega
      obtain ⟨c, hc⟩ := get_some hj2
      rw [rad_at hc] at hj
      obtain rfl := Option.some.inj hj
      exact (radN_all j (by omega) req c).1
theorem rad_pre {cs : List Bool} (req : Bool) (hn : cs.length ≤ 10) : preR (radD req cs) 0 = 0 :: 1 :: radK cs.length := by rw [(rad_skel req cs).preR, (rad0_all cs.length hn).2.1]
theorem rad_chain {cs : List Bool} (req : Bool) (hn : cs.length ≤ 10) : chainR (radD req cs) 1 = [1, 0] := by rw [(rad_skel req cs).chainR, (rad0_all cs.length hn).2.2]
/-! ### one button -/
theorem bs_eq {a : ByteArray} {l : List UInt8} (h : a.toList = l) : a = ⟨l.toArray⟩ := by
  subst h
  rw [ByteArray.toList_eq]
structure RadAt (req : Bool) (cs : List Bool) (i : Nat) (c : Bool) : Prop where
  name : (attrF (radD req cs) ((i + 2 : Nat) : Int) (⟨#[110, 97, 109, 101]⟩ : ByteArray)) = (⟨#[114]⟩ : ByteArray)
  kind : kindF (radD req cs) ((i + 2 : Nat) : Int) = (⟨#[114, 97, 100, 105, 111]⟩ : ByteArray)
  checked : hasF (radD req cs) ((i + 2 : Nat) : Int) (⟨#[99, 104, 101, 99, 107, 101, 100]⟩ : ByteArray) = c
  required : hasF (radD req cs) ((i + 2 : Nat) : Int) (⟨#[114, 101, 113, 117, 105, 114, 101, 100]⟩ : ByteArray) = req
  owner : ownerF (radD req cs) (preR (radD req cs) 0) ((i + 2 : Nat) : Int) = 1
  told : toldF (radD req cs) ((i + 2 : Nat) : Int) = c
  ents : ∃ v : ByteArray, entriesF (radD req cs) ((i + 2 : Nat) : Int) = [((⟨#[114]⟩ : ByteArray), v)] ∧ v.toList = [(97 + i).toUInt8]
  mx : attrF (radD req cs) ((i + 2 : Nat) : Int) (⟨#[109, 97, 120, 108, 101, 110, 103, 116, 104]⟩ : ByteArray) = ⟨#[]⟩
  mn : attrF (radD req cs) ((i + 2 : Nat) : Int) (⟨#[109, 105, 110, 108, 101, 110, 103, 116, 104]⟩ : ByteArray) = ⟨#[]⟩
  inp : (atD (radD req cs) ((i + 2 : Nat) : Int)).name = (⟨#[105, 110, 112, 117, 116]⟩ : ByteArray)
theorem rad_each {req : Bool} {cs : List Bool} (hn : cs.length ≤ 10) {i : Nat} {c : Bool} (h : cs[i]? = some c) : RadAt req cs i c := by
  have hi := (List.getElem?_eq_some_iff.1 h).1
  obtain ⟨_, a1, a2, a3, a4, a5⟩ := radN_all i (by omega) req c
  obtain ⟨b1, b2, b3, b4, b5⟩ := radN_of i (by omega) req c
  have hat := rad_atD (req := req) h
  have hin : (atD (radD req cs) ((i + 2 : Nat) : Int)).name = (⟨#[105, 110, 112, 117, 116]⟩ : ByteArray) := by rw [hat]; rfl
  have hnm : attrF (radD req cs) ((i + 2 : Nat) : Int) (⟨#[110, 97, 109, 101]⟩ : ByteArray) = (⟨#[114]⟩ : ByteArray) := by unfold attrF; rw [hat]; exact bs_eq b1
  have hty : attrF (radD req cs) ((i + 2 : Nat) : Int) (⟨#[116, 121, 112, 101]⟩ : ByteArray) = (⟨#[82, 65, 68, 73, 79]⟩ : ByteArray) := by unfold attrF; rw [hat]; exact bs_eq b2
  have hck : hasF (radD req cs) ((i + 2 : Nat) : Int) (⟨#[99, 104, 101, 99, 107, 101, 100]⟩ : ByteArray) = c := by unfold hasF; rw [hat]; exact a1
  have hkd : kindF (radD req cs) ((i + 2 : Nat) : Int) = (⟨#[114, 97, 100, 105, 111]⟩ : ByteArray) := by
    unfold kindF
    rw [hin, hty]
    decide +kernel
  have hpar : parD (radD req cs) ((i + 2 : Nat) : Int) = 1 := parD_at (rad_at h)
  have hch := rad_chain req hn
  have h1 : atD (radD req cs) 1 = radF cs.length := rfl
  have h0 : atD (radD req cs) 0 = ⟨1, ⟨#[]⟩, [], ⟨#[]⟩, -1, [1]⟩ := rfl
  have hf1 : namedF (radD req cs) (⟨#[102, 111, 114, 109]⟩ : ByteArray) 1 = true := by
    unfold namedF
    rw [h1]
    show (((⟨#[102, 111, 114, 109]⟩ : ByteArray) : ByteArray).toList == ((⟨#[102, 111, 114, 109]⟩ : ByteArray) : ByteArray).toList && (2 : Int) == 2) = true
    decide +kernel
  have hs1 : namedF (radD req cs) (⟨#[102, 105, 101, 108, 100, 115, 101, 116]⟩ : ByteArray) 1 = false := by
    unfold namedF
    rw [h1]
    show (((⟨#[102, 111, 114, 109]⟩ : ByteArray) : ByteArray).toList == ((⟨#[102, 105, 101, 108, 100, 115, 101, 116]⟩ : ByteArray) : ByteArray).toList && (2 : Int) == 2) = false
    decide +kernel
  have hs0 : namedF (radD req cs) (⟨#[102, 105, 101, 108, 100, 115, 101, 116]⟩ : ByteArray) 0 = false := by
    unfold namedF
    rw [h0]
    decide +kernel
  have how : ownerF (radD req cs) (preR (radD req cs) 0) ((i + 2 : Nat) : Int) = 1 := by
    unfold ownerF
    rw [if_neg (by unfold hasF; rw [hat, a3]; simp)]
    unfold aboveF
    rw [hpar, hch, List.find?_cons, hf1]
    rfl
  have htl : toldF (radD req cs) ((i + 2 : Nat) : Int) = c := by
    unfold toldF
    rw [hnm, hkd, hck, if_neg, if_neg (by decide +kernel)]
    · show (!tickF (⟨#[114, 97, 100, 105, 111]⟩ : ByteArray) || c) = c
      rw [show tickF (⟨#[114, 97, 100, 105, 111]⟩ : ByteArray) = true by decide +kernel]
      rfl
    · rintro (h2 | h2 | h2)
      · exact absurd h2 (by decide)
      · unfold hasF at h2; rw [hat, a2] at h2; cases h2
      · unfold aboveF offF at h2
        rw [hpar, hch, List.find?_cons, hs1, List.find?_cons, hs0] at h2
        exact absurd (show (0 : Int) ≤ -1 from h2) (by decide)
  refine ⟨hnm, hkd, hck, by unfold hasF; rw [hat]; exact a5, how, htl, ?_, by unfold attrF; rw [hat]; exact bs_eq b4, by unfold attrF; rw [hat]; exact bs_eq b5, hin⟩
  refine ⟨attrF (radD req cs) ((i + 2 : Nat) : Int) (⟨#[118, 97, 108, 117, 101]⟩ : ByteArray), ?_, by unfold attrF; rw [hat]; exact b3⟩
  unfold entriesF valueF
  rw [hin, hnm, hkd, if_neg (by decide +kernel), if_neg (by decide +kernel), if_neg (by decide +kernel), if_neg]
  unfold hasF
  rw [hat, a4]
  simp
/-! ### what is told -/
def Last (cs : List Bool) (k : Nat) (E : List Ent) (S : List ByteArray) : Prop :=
  (E = [] ∧ S = [] ∧ ∀ i, k ≤ i → cs[i]? ≠ some true) ∨ ∃ j v, k ≤ j ∧ cs[j]? = some true ∧ (∀ i, j < i → cs[i]? ≠ some true) ∧ E = [((⟨#[114]⟩ : ByteArray), v)] ∧ S = [(⟨#[114]⟩ : ByteArray)] ∧ v.toList = [(97 + j).toUInt8]
theorem rad_step {req : Bool} {cs : List Bool} (hn : cs.length ≤ 10) {k : Nat} (hk : k < cs.length) {s : List Ent × List ByteArray} (h : Last cs (k + 1) s.1 s.2) : Last cs k (entStep (radD req cs) (preR (radD req cs) 0) 1 s ((k + 2 : Nat) : Int)).1 (entStep (radD req cs) (preR (radD req cs) 0) 1 s ((k + 2 : Nat) : Int)).2 := by
  obtain ⟨c, hc⟩ := get_some hk
  have R := rad_each (req := req) hn hc
  have hin : inF (radD req cs) (preR (radD req cs) 0) 1 ((k + 2 : Nat) : Int) = c := by
    unfold inF
    rw [R.inp, R.owner, R.told, show oneB (⟨#[105, 110, 112, 117, 116]⟩ : ByteArray) (⟨#[32, 105, 110, 112, 117, 116, 32, 116, 101, 120, 116, 97, 114, 101, 97, 32, 115, 101, 108, 101, 99, 116, 32, 98, 117, 116, 116, 111, 110, 32]⟩ : ByteArray) = true by decide +kernel]
    cases c <;> rfl
  have hrad : radioF (radD req cs) ((k + 2 : Nat) : Int) = true := by unfold radioF; rw [R.kind]; decide +kernel
  obtain ⟨v, hv, hv2⟩ := R.ents
  unfold entStep
  rw [hin, hrad, R.name, hv]
  cases c with
  | false =>
    rw [if_neg (by simp)]
    rcases h with ⟨h1, h2, h3⟩ | ⟨j, v', h1, h2⟩
    · refine .inl ⟨h1, h2, fun i hi => ?_⟩
      by_cases e : i = k
      · rw [e, hc]; simp
      · exact h3 i (by omega)
    · exact .inr ⟨j, v', by omega, h2⟩
  | true =>
    rw [if_pos rfl, if_pos rfl]
    rcases h with ⟨h1, h2, h3⟩ | ⟨j, v', h1, h2, h3, h4, h5, h6⟩
    · rw [h1, h2, if_neg (by simp)]
      exact .inr ⟨k, v, Nat.le_refl _, hc, fun i hi => h3 i hi, rfl, rfl, hv2⟩
    · rw [h5, if_pos (by simp)]
      exact .inr ⟨j, v', by omega, h2, h3, h4, h5, h6⟩
theorem rad_down {req : Bool} {cs : List Bool} (hn : cs.length ≤ 10) : ∀ k, k ≤ cs.length → Last cs (cs.length - k) (((radK cs.length).reverse.take k).foldl (entStep (radD req cs) (preR (radD req cs) 0) 1) ([], [])).1 (((radK cs.length).reverse.take k).foldl (entStep (radD req cs) (preR (radD req cs) 0) 1) ([], [])).2 := by
  intro k
  induction k with
  | zero =>
    intro _
    refine .inl ⟨rfl, rfl, fun i hi => ?_⟩
    rw [List.getElem?_eq_none (by omega)]
    simp
  | succ k ih =>
    intro hk
    have hg : (radK cs.length).reverse[k]? = some (((cs.length - (k + 1)) + 2 : Nat) : Int) := by
      unfold radK
      rw [List.getElem?_reverse (by simp; omega), List.getElem?_map, List.length_map, List.length_range, List.getElem?_range (by omega)]
      show some _ = some _
      congr 2
      omega
    rw [take_snoc hg, List.foldl_append, List.foldl_cons, List.foldl_nil]
    refine rad_step hn (by omega) ?_
    rw [show cs.length - (k + 1) + 1 = cs.length - k by omega]
    exact ih (by omega)
theorem rad_fold {req : Bool} {cs : List Bool} (hn : cs.length ≤ 10) : Last cs 0 (entFold (radD req cs) (preR (radD req cs) 0) 1).1 (entFold (radD req cs) (preR (radD req cs) 0) 1).2 := by
  have h := rad_down (req := req) hn cs.length (Nat.le_refl _)
  rw [Nat.sub_self, List.take_of_length_le (by simp [radK])] at h
  unfold entFold
  generalize hO : preR (radD req cs) 0 = ord at *
  have hO2 : ord.reverse = (radK cs.length).reverse ++ [1, 0] := by rw [← hO, rad_pre req hn]; simp
  rw [hO2, List.foldl_append]
  generalize (radK cs.length).reverse.foldl (entStep (radD req cs) ord 1) ([], []) = s at *
  have e1 : entStep (radD req cs) ord 1 s 1 = s := by
    unfold entStep inF
    rw [show (atD (radD req cs) 1).name = (⟨#[102, 111, 114, 109]⟩ : ByteArray) from rfl, show oneB (⟨#[102, 111, 114, 109]⟩ : ByteArray) (⟨#[32, 105, 110, 112, 117, 116, 32, 116, 101, 120, 116, 97, 114, 101, 97, 32, 115, 101, 108, 101, 99, 116, 32, 98, 117, 116, 116, 111, 110, 32]⟩ : ByteArray) = false by decide +kernel]
    rfl
  have e0 : entStep (radD req cs) ord 1 s 0 = s := by
    unfold entStep inF
    rw [show (atD (radD req cs) 0).name = ⟨#[]⟩ from rfl, show oneB ⟨#[]⟩ (⟨#[32, 105, 110, 112, 117, 116, 32, 116, 101, 120, 116, 97, 114, 101, 97, 32, 115, 101, 108, 101, 99, 116, 32, 98, 117, 116, 116, 111, 110, 32]⟩ : ByteArray) = false by decide +kernel]
    rfl
  rw [List.foldl_cons, e1, List.foldl_cons, e0, List.foldl_nil]
  exact h
theorem rad_form {req : Bool} {cs : List Bool} (hn : cs.length ≤ 10) : ctrlE (radD req cs) 1 (⟨#[32, 102, 111, 114, 109, 32]⟩ : ByteArray) = 0 := by
  unfold ctrlE
  rw [if_neg (by simp [rad_check req hn]), if_neg (by simp [radD]; omega), if_neg, if_pos (by rw [rad_pre req hn]; simp)]
  rw [show (atD (radD req cs) 1).name = (⟨#[102, 111, 114, 109]⟩ : ByteArray) from rfl, show (atD (radD req cs) 1).kind = 2 from rfl, show oneB (⟨#[102, 111, 114, 109]⟩ : ByteArray) (⟨#[32, 102, 111, 114, 109, 32]⟩ : ByteArray) = true by decide +kernel]
  simp
/-- What Entries tells of it. -/
theorem rad_ents {req : Bool} {cs : List Bool} (hn : cs.length ≤ 10) : ∃ E, entR (radD req cs) 1 = (E, 0) ∧ ((E = [] ∧ cs.any id = false) ∨ ∃ j v, cs[j]? = some true ∧ (∀ i, j < i → cs[i]? ≠ some true) ∧ E = [((⟨#[114]⟩ : ByteArray), v)] ∧ v.toList = [(97 + j).toUInt8] ∧ cs.any id = true) := by
  have h := rad_fold (req := req) hn
  have hl : (entFold (radD req cs) (preR (radD req cs) 0) 1).1.length ≤ 1 := by
    rcases h with ⟨h1, _, _⟩ | ⟨_, _, _, _, _, h1, _, _⟩ <;> rw [h1] <;> simp
  refine ⟨(entFold (radD req cs) (preR (radD req cs) 0) 1).1, ?_, ?_⟩
  · unfold entR
    rw [if_neg (by simp [rad_form hn]), if_neg (by omega)]
  · rcases h with ⟨h1, _, h3⟩ | ⟨j, v, _, h1, h2, h3, _, h4⟩
    · refine .inl ⟨h1, ?_⟩
      rw [List.any_eq_false]
      intro x hx
      obtain ⟨i, hi⟩ := List.mem_iff_getElem?.1 hx
      intro hx2
      exact h3 i (Nat.zero_le _) (by rw [hi]; exact congrArg some hx2)
    · exact .inr ⟨j, v, h1, h2, h3, h4, List.any_eq_true.2 ⟨true, List.mem_of_getElem? h1, rfl⟩⟩
/-! ### what is at fault -/
theorem rad_same {req : Bool} {cs : List Bool} (hn : cs.length ≤ 10) {i : Nat} (hi : i < cs.length) : (preR (radD req cs) 0).any (sameF (radD req cs) (preR (radD req cs) 0) ((i + 2 : Nat) : Int)) = cs.any id := by
  obtain ⟨c, hc⟩ := get_some hi
  have R := rad_each (req := req) hn hc
  have key : ∀ j c', cs[j]? = some c' → sameF (radD req cs) (preR (radD req cs) 0) ((i + 2 : Nat) : Int) ((j + 2 : Nat) : Int) = c' := by
    intro j c' hj
    have R' := rad_each (req := req) hn hj
    unfold sameF radioF
    rw [R'.inp, R'.kind, R'.checked, R'.name, R'.owner, R.name, R.owner]
    rw [show (((⟨#[105, 110, 112, 117, 116]⟩ : ByteArray) : ByteArray).toList == ([105, 110, 112, 117, 116] : List UInt8)) = true by decide +kernel, show (((⟨#[114, 97, 100, 105, 111]⟩ : ByteArray) : ByteArray).toList == ([114, 97, 100, 105, 111] : List UInt8)) = true by decide +kernel]
    cases c' <;> decide +kernel
  have hK : (radK cs.length).any (sameF (radD req cs) (preR (radD req cs) 0) ((i + 2 : Nat) : Int)) = cs.any id := by
    rw [Bool.eq_iff_iff, List.any_eq_true, List.any_eq_true]
    constructor
    · rintro ⟨x, hx, h⟩
      obtain ⟨j, hj, rfl⟩ := List.mem_map.1 hx
      obtain ⟨c', hc'⟩ := get_some (List.mem_range.1 hj)
      rw [key j c' hc'] at h
      exact ⟨c', List.mem_of_getElem? hc', h⟩
    · rintro ⟨c', hx, h⟩
      obtain ⟨j, hj⟩ := List.mem_iff_getElem?.1 hx
      exact ⟨_, List.mem_map.2 ⟨j, List.mem_range.2 (List.getElem?_eq_some_iff.1 hj).1, rfl⟩, (key j c' hj).trans h⟩
  generalize hO : preR (radD req cs) 0 = ord at *
  have hO2 : ord = 0 :: 1 :: radK cs.length := by rw [← hO, rad_pre req hn]
  have e : ∀ p : Int → Bool, p 0 = false → p 1 = false → ord.any p = (radK cs.length).any p := fun p h0 h1 => by rw [hO2, List.any_cons, List.any_cons, h0, h1]; rfl
  rw [e _ ?_ ?_, hK]
  · unfold sameF
    rw [show (atD (radD req cs) 0).name = ⟨#[]⟩ from rfl, show ((⟨#[]⟩ : ByteArray).toList == ([105, 110, 112, 117, 116] : List UInt8)) = false by decide +kernel]
    rfl
  · unfold sameF
    rw [show (atD (radD req cs) 1).name = (⟨#[102, 111, 114, 109]⟩ : ByteArray) from rfl, show (((⟨#[102, 111, 114, 109]⟩ : ByteArray) : ByteArray).toList == ([105, 110, 112, 117, 116] : List UInt8)) = false by decide +kernel]
    rfl
theorem rad_miss {req : Bool} {cs : List Bool} (hn : cs.length ≤ 10) {i : Nat} (hi : i < cs.length) : missF (radD req cs) (preR (radD req cs) 0) ((i + 2 : Nat) : Int) = (req && !cs.any id) := by
  obtain ⟨c, hc⟩ := get_some hi
  have R := rad_each (req := req) hn hc
  unfold missF
  rw [rad_same hn hi, R.required, R.kind, R.checked, if_pos (by decide +kernel), show (((⟨#[114, 97, 100, 105, 111]⟩ : ByteArray) : ByteArray).toList == ([99, 104, 101, 99, 107, 98, 111, 120] : List UInt8)) = false by decide +kernel]
  cases c with
  | false => rfl
  | true => rw [show cs.any id = true from List.any_eq_true.2 ⟨true, List.mem_of_getElem? hc, rfl⟩]; cases req <;> rfl
theorem rad_ctrl {req : Bool} {cs : List Bool} (hn : cs.length ≤ 10) {i : Nat} (hi : i < cs.length) : ctrlE (radD req cs) ((i + 2 : Nat) : Int) (⟨#[32, 105, 110, 112, 117, 116, 32, 116, 101, 120, 116, 97, 114, 101, 97, 32, 115, 101, 108, 101, 99, 116, 32, 98, 117, 116, 116, 111, 110, 32]⟩ : ByteArray) = 0 := by
  obtain ⟨c, hc⟩ := get_some hi
  have R := rad_each (req := req) hn hc
  unfold ctrlE
  rw [if_neg (by simp [rad_check req hn]), if_neg (by simp [radD]; omega), if_neg, if_pos]
  · rw [rad_pre req hn]
    exact List.mem_cons_of_mem _ (List.mem_cons_of_mem _ (List.mem_map.2 ⟨i, List.mem_range.2 hi, rfl⟩))
  · rw [R.inp, rad_atD hc, show (radN req i c).kind = 2 from rfl, show oneB (⟨#[105, 110, 112, 117, 116]⟩ : ByteArray) (⟨#[32, 105, 110, 112, 117, 116, 32, 116, 101, 120, 116, 97, 114, 101, 97, 32, 115, 101, 108, 101, 99, 116, 32, 98, 117, 116, 116, 111, 110, 32]⟩ : ByteArray) = true by decide +kernel]
    simp
end Go.Proofs.YtpbngckplbnahaaGreatDoor
