/-
What is disabled is told nowhere: the plain law.
-/
import Derived.Test.YtpbngckplbnahaaGreatDoorFormLaw
import Derived.Test.YtpbngckplbnahaaGreatDoorEdLaws
namespace Go.Proofs.YtpbngckplbnahaaGreatDoor
open Go.RowKit Go.Cl

/-! ### one attribute put -/
theorem findA_map (ats : List DAttr) (nm : ByteArray) : findA ats nm = match (ats.map Prod.fst).findIdx? (fun z => z.toList == nm.toList) with
    | some i => (i : Int)
    | none => -1 := by
  unfold findA
  rw [List.findIdx?_map]
  rfl
theorem findA_congr {a b : List DAttr} (h : a.map Prod.fst = b.map Prod.fst) (nm : ByteArray) : findA a nm = findA b nm := by rw [findA_map, findA_map, h]
theorem tl_inj {a b : ByteArray} (h : a.toList = b.toList) : a = b := by
  rw [ByteArray.toList_eq, ByteArray.toList_eq] at h
  exact ByteArray.ext (Array.ext' h)
theorem put_fst {ats : List DAttr} {nm v : ByteArray} (h : 0 ≤ findA ats nm) : (attrPut ats nm v).map Prod.fst = ats.map Prod.fst := by
  obtain ⟨i, a, h1, h2, h3⟩ := findA_nat h
  unfold attrPut
  rw [if_neg (by omega), h1, Int.toNat_natCast, h2, List.map_set]
  exact set_same (by rw [List.getElem?_map, h2]; rfl)
theorem findA_put {ats : List DAttr} {nm v m : ByteArray} (hm : m ≠ nm) : findA (attrPut ats nm v) m = findA ats m := by
  by_cases h : 0 ≤ findA ats nm
  · exact findA_congr (put_fst h) m
  · unfold attrPut
    rw [if_pos (by omega)]
    unfold findA
    rw [List.findIdx?_append]
    have h1 : [(nm, v)].findIdx? (fun a : DAttr => a.1.toList == m.toList) = none := by
      rw [List.findIdx?_eq_none_iff]
      intro a ha
      rw [List.mem_singleton.1 ha]
      exact beq_eq_false_iff_ne.2 fun e => hm (tl_inj e).symm
    rw [h1]
    cases ats.findIdx? (fun a : DAttr => a.1.toList == m.toList) <;> rfl
theorem has_put {ats : List DAttr} {nm v m : ByteArray} (hm : m ≠ nm) : hasA (attrPut ats nm v) m = hasA ats m := by unfold hasA; rw [findA_put hm]
theorem of_put {ats : List DAttr} {nm v m : ByteArray} (hm : m ≠ nm) : ofA (attrPut ats nm v) m = ofA ats m := by
  unfold ofA
  rw [findA_put hm]
  split
  · rfl
  · rename_i h0
    obtain ⟨j, b, h1, h2, h3⟩ := findA_nat (ats := ats) (nm := m) (by omega)
    rw [h1, Int.toNat_natCast]
    unfold attrPut
    split
    · rw [List.getElem?_append_left (List.getElem?_eq_some_iff.1 h2).1]
    · rename_i h4
      obtain ⟨i, a, k1, k2, k3⟩ := findA_nat (ats := ats) (nm := nm) (by omega)
      rw [k1, Int.toNat_natCast, List.getElem?_set]
      split
      · rename_i e
        subst e
        rw [k2] at h2
        obtain rfl := Option.some.inj h2
        exact absurd (tl_inj (h3.symm.trans k3)) hm
      · rfl
theorem has_own (ats : List DAttr) (nm v : ByteArray) : hasA (attrPut ats nm v) nm = true := by
  by_cases h : 0 ≤ findA ats nm
  · unfold hasA
    rw [findA_congr (put_fst h)]
    exact decide_eq_true h
  · rw [has_iff]
    unfold attrPut
    rw [if_pos (by omega)]
    exact ⟨(nm, v), by simp, rfl⟩
/-! ### a document and the one where a control is disabled -/
structure Dis (l y : List Nd) (n : Nat) : Prop where
  len : y.length = l.length
  par : y.map Nd.parent = l.map Nd.parent
  kids : y.map Nd.kids = l.map Nd.kids
  kind : y.map Nd.kind = l.map Nd.kind
  text : y.map Nd.text = l.map Nd.text
  name : ∀ k : Int, (atD y k).name = (atD l k).name ∧ (atD y k).kind = (atD l k).kind
  other : ∀ k : Int, k ≠ n → atD y k = atD l k
  has : ∀ (k : Int) (nm : ByteArray), nm ≠ (⟨#[100, 105, 115, 97, 98, 108, 101, 100]⟩ : ByteArray) → hasF y k nm = hasF l k nm
  of_ : ∀ (k : Int) (nm : ByteArray), nm ≠ (⟨#[100, 105, 115, 97, 98, 108, 101, 100]⟩ : ByteArray) → attrF y k nm = attrF l k nm
  dis : hasF y n (⟨#[100, 105, 115, 97, 98, 108, 101, 100]⟩ : ByteArray) = true
theorem atD_set {l : List Nd} {n : Nat} {x y : Nd} (hx : l[n]? = some x) (k : Int) : atD (l.set n y) k = if k = n then y else atD l k := by
  have hn := (List.getElem?_eq_some_iff.1 hx).1
  unfold atD
  by_cases h0 : k < 0
  · rw [if_pos h0, if_neg (by omega), if_pos h0]
  · rw [if_neg h0, if_neg h0, List.getElem?_set]
    by_cases hk : k = n
    · rw [if_pos hk, if_pos (by omega), if_pos hn]; rfl
    · rw [if_neg hk, if_neg (by omega)]
theorem dis_of {l : List Nd} {n : Nat} {x : Nd} (hx : l[n]? = some x) (v : ByteArray) : Dis l (l.set n { x with attrs := attrPut x.attrs (⟨#[100, 105, 115, 97, 98, 108, 101, 100]⟩ : ByteArray) v }) n := by
  have hm : ∀ {β : Type} (f : Nd → β), f { x with attrs := attrPut x.attrs (⟨#[100, 105, 115, 97, 98, 108, 101, 100]⟩ : ByteArray) v } = f x → (l.set n { x with attrs := attrPut x.attrs (⟨#[100, 105, 115, 97, 98, 108, 101, 100]⟩ : ByteArray) v }).map f = l.map f := fun f hf => by
    rw [List.map_set]
    exact set_same (by rw [List.getElem?_map, hx, hf]; rfl)
  refine ⟨by rw [List.length_set], hm _ rfl, hm _ rfl, hm _ rfl, hm _ rfl, fun k => ?_, fun k hk => by rw [atD_set hx, if_neg hk], fun k nm hnm => ?_, fun k nm hnm => ?_, ?_⟩
  · rw [atD_set hx]
    split
    · rename_i e; rw [e, atD_at hx]; exact ⟨rfl, rfl⟩
    · exact ⟨rfl, rfl⟩
  · unfold hasF
    rw [atD_set hx]
    split
    · rename_i e; rw [e, atD_at hx]; exact has_put hnm
    · rfl
  · unfold attrF
    rw [atD_set hx]
    split
    · rename_i e; rw [e, atD_at hx]; exact of_put hnm
    · rfl
  · unfold hasF
    rw [atD_set hx, if_pos rfl]
    exact has_own _ _ _
section
variable {l y : List Nd} {n : Nat} (D : Dis l y n)
include D
theorem Dis.parD : parD y = parD l := by funext m; unfold Go.Proofs.YtpbngckplbnahaaGreatDoor.parD; rw [D.par]
theorem Dis.kidsD : kidsD y = kidsD l := by funext m; unfold Go.Proofs.YtpbngckplbnahaaGreatDoor.kidsD; rw [D.kids]
theorem Dis.upF : ∀ f m, upF y f m = upF l f m := by
  intro f
  induction f with
  | zero => intro m; rfl
  | succ f ih => intro m; simp only [Go.Proofs.YtpbngckplbnahaaGreatDoor.upF, D.par, ih]
theorem Dis.upN : upN y = upN l := by funext m; unfold Go.Proofs.YtpbngckplbnahaaGreatDoor.upN; rw [D.len, D.upF]
theorem Dis.chainF : ∀ f z, chainF y f z = chainF l f z := by
  intro f
  induction f with
  | zero => intro z; rfl
  | succ f ih => intro z; simp only [Go.Proofs.YtpbngckplbnahaaGreatDoor.chainF, D.parD, ih]
theorem Dis.chainR : chainR y = chainR l := by funext m; unfold Go.Proofs.YtpbngckplbnahaaGreatDoor.chainR depZ; rw [D.upN, D.chainF]
theorem Dis.preF : ∀ f z, preF y f z = preF l f z := by
  intro f
  induction f with
  | zero => intro z; rfl
  | succ f ih =>
    intro z
    simp only [Go.Proofs.YtpbngckplbnahaaGreatDoor.preF, D.kidsD]
    congr 1
    exact congrArg (fun g => (Go.Proofs.YtpbngckplbnahaaGreatDoor.kidsD l z).flatMap g) (funext ih)
theorem Dis.preR : preR y = preR l := by funext m; unfold Go.Proofs.YtpbngckplbnahaaGreatDoor.preR; rw [D.upN, D.preF]
theorem Dis.whole : wholeK y = wholeK l := by
  funext m
  have h1 : kindD y m = kindD l m := by unfold kindD; rw [← List.getElem?_map, ← List.getElem?_map, D.kind]
  have h2 : textD y m = textD l m := by unfold textD; rw [← List.getElem?_map, ← List.getElem?_map, D.text]
  unfold wholeK
  rw [h1, h2]
theorem Dis.named (nm : ByteArray) : namedF y nm = namedF l nm := by funext k; unfold namedF; rw [(D.name k).1, (D.name k).2]
theorem Dis.textF : textF y = textF l := by funext m; unfold Go.Proofs.YtpbngckplbnahaaGreatDoor.textF; rw [D.whole, D.preR]
theorem Dis.optionF : optionF y = optionF l := by
  funext m
  unfold Go.Proofs.YtpbngckplbnahaaGreatDoor.optionF
  rw [D.has m _ (by decide), D.of_ m _ (by decide), D.textF]
theorem Dis.belR (nm : ByteArray) : belR y nm = belR l nm := by funext m; unfold Go.Proofs.YtpbngckplbnahaaGreatDoor.belR; rw [D.kidsD, D.preR, D.named]
theorem Dis.aboveF {p p' : Int → Bool} (hp : p' = p) : aboveF y p' = aboveF l p := by funext m; unfold Go.Proofs.YtpbngckplbnahaaGreatDoor.aboveF; rw [D.chainR, D.parD, hp]
theorem Dis.ownerF (ord : List Int) : ownerF y ord = ownerF l ord := by
  funext m
  unfold Go.Proofs.YtpbngckplbnahaaGreatDoor.ownerF
  have h1 : ∀ fid, idF y fid = idF l fid := fun fid => by funext k; unfold idF; rw [D.has k _ (by decide), D.of_ k _ (by decide)]
  rw [D.has m _ (by decide), D.of_ m _ (by decide), h1, D.named, D.aboveF rfl]
theorem Dis.kindF : kindF y = kindF l := by funext m; unfold Go.Proofs.YtpbngckplbnahaaGreatDoor.kindF; rw [(D.name m).1, D.of_ m _ (by decide)]
variable (hn : (atD l n).name ≠ (⟨#[111, 112, 116, 105, 111, 110]⟩ : ByteArray) ∧ (atD l n).name ≠ (⟨#[102, 105, 101, 108, 100, 115, 101, 116]⟩ : ByteArray))
include hn
theorem Dis.chosenF : chosenF y = chosenF l := by
  funext m
  have h1 : (Go.Proofs.YtpbngckplbnahaaGreatDoor.belR l (⟨#[111, 112, 116, 105, 111, 110]⟩ : ByteArray) m).find? (fun k => !hasF y k (⟨#[100, 105, 115, 97, 98, 108, 101, 100]⟩ : ByteArray)) = (Go.Proofs.YtpbngckplbnahaaGreatDoor.belR l (⟨#[111, 112, 116, 105, 111, 110]⟩ : ByteArray) m).find? (fun k => !hasF l k (⟨#[100, 105, 115, 97, 98, 108, 101, 100]⟩ : ByteArray)) := by
    have hmem : ∀ k ∈ Go.Proofs.YtpbngckplbnahaaGreatDoor.belR l (⟨#[111, 112, 116, 105, 111, 110]⟩ : ByteArray) m, hasF y k (⟨#[100, 105, 115, 97, 98, 108, 101, 100]⟩ : ByteArray) = hasF l k (⟨#[100, 105, 115, 97, 98, 108, 101, 100]⟩ : ByteArray) := fun k hk => by
      have hk2 := (List.mem_filter.1 hk).2
      have hne : k ≠ n := fun e => by
        rw [e] at hk2
        unfold namedF at hk2
        rw [Bool.and_eq_true, beq_iff_eq] at hk2
        exact hn.1 (tl_inj hk2.1)
      unfold hasF
      rw [D.other k hne]
    generalize Go.Proofs.YtpbngckplbnahaaGreatDoor.belR l (⟨#[111, 112, 116, 105, 111, 110]⟩ : ByteArray) m = bs at *
    induction bs with
    | nil => rfl
    | cons b bs ih =>
      rw [List.find?_cons, List.find?_cons, hmem b (List.mem_cons_self ..), ih fun k hk => hmem k (List.mem_cons_of_mem _ hk)]
  unfold Go.Proofs.YtpbngckplbnahaaGreatDoor.chosenF
  have h2 : (fun k => hasF y k (⟨#[115, 101, 108, 101, 99, 116, 101, 100]⟩ : ByteArray)) = fun k => hasF l k (⟨#[115, 101, 108, 101, 99, 116, 101, 100]⟩ : ByteArray) := by funext k; exact D.has k _ (by decide)
  rw [D.belR, h1, h2, D.has m _ (by decide)]
theorem Dis.valueF : valueF y = valueF l := by
  funext m
  unfold Go.Proofs.YtpbngckplbnahaaGreatDoor.valueF
  rw [(D.name m).1, D.textF, D.chosenF hn, D.optionF, D.kindF, D.has m _ (by decide), D.of_ m _ (by decide)]
theorem Dis.entriesF : entriesF y = entriesF l := by
  funext m
  unfold Go.Proofs.YtpbngckplbnahaaGreatDoor.entriesF
  rw [(D.name m).1, D.has m _ (by decide), D.chosenF hn, D.of_ m _ (by decide), D.optionF, D.valueF hn]
theorem Dis.offF : offF y = offF l := by
  funext k
  unfold Go.Proofs.YtpbngckplbnahaaGreatDoor.offF
  rw [D.named]
  by_cases hk : k = n
  · have : namedF l (⟨#[102, 105, 101, 108, 100, 115, 101, 116]⟩ : ByteArray) k = false := by
      rw [hk]
      unfold namedF
      have : ((atD l n).name.toList == ((⟨#[102, 105, 101, 108, 100, 115, 101, 116]⟩ : ByteArray)).toList) = false := beq_eq_false_iff_ne.2 fun e => hn.2 (tl_inj e)
      rw [this]
      rfl
    rw [this]
    rfl
  · unfold hasF
    rw [D.other k hk]
theorem Dis.told {k : Int} (hk : k ≠ n) : toldF y k = toldF l k := by
  have h1 : hasF y k (⟨#[100, 105, 115, 97, 98, 108, 101, 100]⟩ : ByteArray) = hasF l k (⟨#[100, 105, 115, 97, 98, 108, 101, 100]⟩ : ByteArray) := by unfold hasF; rw [D.other k hk]
  unfold toldF
  rw [h1, D.of_ k _ (by decide), D.aboveF (D.offF hn), D.kindF, D.has k _ (by decide)]
theorem Dis.inF {ord : List Int} {form k : Int} (hk : k ≠ n) : inF y ord form k = inF l ord form k := by
  unfold Go.Proofs.YtpbngckplbnahaaGreatDoor.inF
  rw [(D.name k).1, D.ownerF, D.told hn hk]
omit hn in
theorem Dis.inN (ord : List Int) (form : Int) : Go.Proofs.YtpbngckplbnahaaGreatDoor.inF y ord form n = false := by
  unfold Go.Proofs.YtpbngckplbnahaaGreatDoor.inF
  have : toldF y n = false := by
    unfold toldF
    rw [if_pos (.inr (.inl D.dis))]
  rw [this, Bool.and_false]
end
/-! ### what is told -/
theorem ent_names (l : List Nd) (k : Int) : ∀ z ∈ entriesF l k, z.1 = attrF l k (⟨#[110, 97, 109, 101]⟩ : ByteArray) := by
  intro z hz
  unfold entriesF at hz
  split at hz
  · obtain ⟨_, _, rfl⟩ := List.mem_map.1 hz; rfl
  · rw [List.mem_singleton.1 hz]
theorem ent_radio {l : List Nd} {k : Int} (h : radioF l k = true) : (entriesF l k).length = 1 := by
  unfold entriesF
  rw [if_neg]
  · rfl
  · intro e
    unfold radioF kindF at h
    rw [if_neg (by rw [beq_iff_eq] at e ⊢; rw [e]; decide), beq_iff_eq] at h
    rw [beq_iff_eq, h] at e
    exact absurd e (by decide)
/-- How the two tellings stand to one another. -/
structure Less (nm : ByteArray) (a b : List Ent × List ByteArray) : Prop where
  rest : a.1.filter (fun z => !(z.1.toList == nm.toList)) = b.1.filter (fun z => !(z.1.toList == nm.toList))
  seen : ∀ g : ByteArray, g ≠ nm → a.2.any (fun z => z.toList == g.toList) = b.2.any (fun z => z.toList == g.toList)
  less : b.2.any (fun z => z.toList == nm.toList) = true → a.2.any (fun z => z.toList == nm.toList) = true
  few : b.1.length + (if a.2.any (fun z => z.toList == nm.toList) = true ∧ b.2.any (fun z => z.toList == nm.toList) = false then 1 else 0) ≤ a.1.length
theorem any_cons_eq (g z : ByteArray) (s : List ByteArray) : (z :: s).any (fun x => x.toList == g.toList) = ((z.toList == g.toList) || s.any (fun x => x.toList == g.toList)) := rfl
theorem less_step {l y : List Nd} {n : Nat} (D : Dis l y n) (hn : (atD l n).name ≠ (⟨#[111, 112, 116, 105, 111, 110]⟩ : ByteArray) ∧ (atD l n).name ≠ (⟨#[102, 105, 101, 108, 100, 115, 101, 116]⟩ : ByteArray)) (ord : List Int) (form : Int) {a b : List Ent × List ByteArray} (h : Less (attrF l n (⟨#[110, 97, 109, 101]⟩ : ByteArray)) a b) (k : Int) :
    Less (attrF l n (⟨#[110, 97, 109, 101]⟩ : ByteArray)) (entStep l ord form a k) (entStep y ord form b k) := by
  obtain ⟨h1, h2, h3, h4⟩ := h
  have hR : radioF y k = radioF l k := by unfold radioF; rw [D.kindF]
  by_cases hk : k = n
  · -- the control itself
    subst hk
    have hy : entStep y ord form b n = b := by unfold entStep; rw [D.inN]; rfl
    rw [hy]
    unfold entStep
    split
    · have hf : ∀ e : List Ent, (∀ z ∈ e, z.1 = attrF l n (⟨#[110, 97, 109, 101]⟩ : ByteArray)) → e.filter (fun z => !(z.1.toList == (attrF l n (⟨#[110, 97, 109, 101]⟩ : ByteArray)).toList)) = [] := fun e he => by
        rw [List.filter_eq_nil_iff]
        intro z hz
        rw [he z hz]
        simp
      split
      · rename_i hr
        split
        · exact ⟨h1, h2, h3, h4⟩
        · rename_i hs
          have hs' : a.2.any (fun z => z.toList == (attrF l n (⟨#[110, 97, 109, 101]⟩ : ByteArray)).toList) = false := by simpa using hs
          have hb' : b.2.any (fun z => z.toList == (attrF l n (⟨#[110, 97, 109, 101]⟩ : ByteArray)).toList) = false := by
            cases hb : b.2.any (fun z => z.toList == (attrF l n (⟨#[110, 97, 109, 101]⟩ : ByteArray)).toList) with
            | false => rfl
            | true => rw [h3 hb] at hs'; cases hs'
          refine ⟨?_, fun g hg => ?_, fun _ => ?_, ?_⟩
          · rw [List.filter_append, hf _ (ent_names l n), List.nil_append]; exact h1
          · rw [any_cons_eq, h2 g hg]
            have : ((attrF l n (⟨#[110, 97, 109, 101]⟩ : ByteArray)).toList == g.toList) = false := beq_eq_false_iff_ne.2 fun e => hg (tl_inj e).symm
            rw [this, Bool.false_or]
          · rw [any_cons_eq]; simp
          · have e1 := ent_radio hr
            rw [if_neg (by rw [hs']; simp)] at h4
            rw [List.length_append, e1]
            split <;> omega
      · refine ⟨?_, h2, h3, ?_⟩
        · rw [List.filter_append, hf _ (ent_names l n), List.nil_append]; exact h1
        · rw [List.length_append]; exact Nat.le_trans h4 (Nat.le_add_left _ _)
    · exact ⟨h1, h2, h3, h4⟩
  · -- another one
    have hi := D.inF hn (ord := ord) (form := form) hk
    have he := congrFun (D.entriesF hn) k
    have ha : attrF y k (⟨#[110, 97, 109, 101]⟩ : ByteArray) = attrF l k (⟨#[110, 97, 109, 101]⟩ : ByteArray) := D.of_ k _ (by decide)
    unfold entStep
    rw [hi, hR, he, ha]
    split
    · split
      · rename_i hr
        have e1 := ent_radio hr
        by_cases hg : attrF l k (⟨#[110, 97, 109, 101]⟩ : ByteArray) = attrF l n (⟨#[110, 97, 109, 101]⟩ : ByteArray)
        · -- a radio of that name
          rw [hg]
          cases sa : a.2.any (fun z => z.toList == (attrF l n (⟨#[110, 97, 109, 101]⟩ : ByteArray)).toList) with
          | false =>
            have sb : b.2.any (fun z => z.toList == (attrF l n (⟨#[110, 97, 109, 101]⟩ : ByteArray)).toList) = false := by
              cases hb : b.2.any (fun z => z.toList == (attrF l n (⟨#[110, 97, 109, 101]⟩ : ByteArray)).toList) with
              | false => rfl
              | true => rw [h3 hb] at sa; cases sa
            rw [sb, if_neg (by simp), if_neg (by simp)]
            rw [sa, sb, if_neg (by simp)] at h4
            refine ⟨by rw [List.filter_append, List.filter_append, h1], fun g hg' => by rw [any_cons_eq, any_cons_eq, h2 g hg'], fun _ => by rw [any_cons_eq]; simp, ?_⟩
            rw [any_cons_eq, any_cons_eq, List.length_append, List.length_append, if_neg (by simp)]
            omega
          | true =>
            rw [if_pos rfl]
            cases sb : b.2.any (fun z => z.toList == (attrF l n (⟨#[110, 97, 109, 101]⟩ : ByteArray)).toList) with
            | true =>
              rw [if_pos rfl]
              exact ⟨h1, h2, h3, h4⟩
            | false =>
              rw [if_neg (by simp)]
              rw [sa, sb, if_pos ⟨rfl, rfl⟩] at h4
              refine ⟨?_, fun g hg' => ?_, fun _ => sa, ?_⟩
              · rw [List.filter_append, ← h1]
                have : (entriesF l k).filter (fun z => !(z.1.toList == (attrF l n (⟨#[110, 97, 109, 101]⟩ : ByteArray)).toList)) = [] := by
                  rw [List.filter_eq_nil_iff]
                  intro z hz
                  rw [ent_names l k z hz, hg]
                  simp
                rw [this, List.nil_append]
              · rw [any_cons_eq, ← h2 g hg']
                have : ((attrF l n (⟨#[110, 97, 109, 101]⟩ : ByteArray)).toList == g.toList) = false := beq_eq_false_iff_ne.2 fun e => hg' (tl_inj e).symm
                rw [this, Bool.false_or]
              · rw [any_cons_eq, List.length_append, e1, if_neg (by simp)]
                omega
        · -- of another name
          have e2 := h2 _ hg
          rw [e2]
          split
          · exact ⟨h1, h2, h3, h4⟩
          · have hne : ((attrF l k (⟨#[110, 97, 109, 101]⟩ : ByteArray)).toList == (attrF l n (⟨#[110, 97, 109, 101]⟩ : ByteArray)).toList) = false := beq_eq_false_iff_ne.2 fun e => hg (tl_inj e)
            refine ⟨by rw [List.filter_append, List.filter_append, h1], fun g hg' => by rw [any_cons_eq, any_cons_eq, h2 g hg'], fun h => ?_, ?_⟩
            · rw [any_cons_eq, hne, Bool.false_or] at h ⊢; exact h3 h
            · rw [any_cons_eq, any_cons_eq, hne, Bool.false_or, Bool.false_or, List.length_append, List.length_append]; omega
      · refine ⟨by rw [List.filter_append, List.filter_append, h1], h2, h3, ?_⟩
        rw [List.length_append, List.length_append]; dsimp only; omega
    · exact ⟨h1, h2, h3, h4⟩
theorem less_fold {l y : List Nd} {n : Nat} (D : Dis l y n) (hn : (atD l n).name ≠ (⟨#[111, 112, 116, 105, 111, 110]⟩ : ByteArray) ∧ (atD l n).name ≠ (⟨#[102, 105, 101, 108, 100, 115, 101, 116]⟩ : ByteArray)) (ord : List Int) (form : Int) (ks : List Int) : ∀ (a b : List Ent × List ByteArray), Less (attrF l n (⟨#[110, 97, 109, 101]⟩ : ByteArray)) a b →
    Less (attrF l n (⟨#[110, 97, 109, 101]⟩ : ByteArray)) (ks.foldl (entStep l ord form) a) (ks.foldl (entStep y ord form) b) := by
  induction ks with
  | nil => exact fun a b h => h
  | cons k ks ih => exact fun a b h => ih _ _ (less_step D hn ord form h k)
theorem less_all {l y : List Nd} {n : Nat} (D : Dis l y n) (hn : (atD l n).name ≠ (⟨#[111, 112, 116, 105, 111, 110]⟩ : ByteArray) ∧ (atD l n).name ≠ (⟨#[102, 105, 101, 108, 100, 115, 101, 116]⟩ : ByteArray)) (form : Int) : Less (attrF l n (⟨#[110, 97, 109, 101]⟩ : ByteArray)) (entFold l (preR l 0) form) (entFold y (preR y 0) form) := by
  unfold entFold
  rw [D.preR]
  exact less_fold D hn _ _ _ _ _ ⟨rfl, fun _ _ => rfl, fun h => h, by simp⟩
/-- Where it isn't the form's nothing turns. -/
theorem same_all {l y : List Nd} {n : Nat} (D : Dis l y n) (hn : (atD l n).name ≠ (⟨#[111, 112, 116, 105, 111, 110]⟩ : ByteArray) ∧ (atD l n).name ≠ (⟨#[102, 105, 101, 108, 100, 115, 101, 116]⟩ : ByteArray)) (form : Int) (ho : ownerF l (preR l 0) n ≠ form) : entFold y (preR y 0) form = entFold l (preR l 0) form := by
  unfold entFold
  rw [D.preR]
  generalize (preR l 0).reverse = ks
  have hs : entStep y (preR l 0) form = entStep l (preR l 0) form := by
    funext a k
    have hR : radioF y k = radioF l k := by unfold radioF; rw [D.kindF]
    have hi : inF y (preR l 0) form k = inF l (preR l 0) form k := by
      by_cases hk : k = n
      · rw [hk, D.inN]
        unfold inF
        have : (ownerF l (preR l 0) n == form) = false := by simpa using ho
        rw [this, Bool.and_false, Bool.false_and]
      · exact D.inF hn hk
    unfold entStep
    rw [hi, hR, congrFun (D.entriesF hn) k, D.of_ k _ (by decide)]
  rw [hs]
/-- All entries have names. -/
theorem ent_named {l : List Nd} {ord : List Int} {form : Int} : ∀ (ks : List Int) (a : List Ent × List ByteArray), (∀ z ∈ a.1, z.1.size ≠ 0) → ∀ z ∈ (ks.foldl (entStep l ord form) a).1, z.1.size ≠ 0 := by
  intro ks
  induction ks with
  | nil => exact fun a h => h
  | cons k ks ih =>
    intro a h
    refine ih _ ?_
    unfold entStep
    split
    · rename_i hin
      have hs : (attrF l k (⟨#[110, 97, 109, 101]⟩ : ByteArray)).size ≠ 0 := by
        unfold inF at hin
        rw [Bool.and_eq_true] at hin
        have := hin.2
        unfold toldF at this
        intro e
        rw [if_pos (.inl e)] at this
        cases this
      have h2 : ∀ z ∈ entriesF l k ++ a.1, z.1.size ≠ 0 := fun z hz => by
        rcases List.mem_append.1 hz with hz | hz
        · rw [ent_names l k z hz]; exact hs
        · exact h z hz
      split
      · split
        · exact h
        · exact h2
      · exact h2
    · exact h
end Go.Proofs.YtpbngckplbnahaaGreatDoor
