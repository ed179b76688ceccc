/-
The walks of package dom's editor: does, edit.
-/
import Derived.Test.YtmemadajjmmlpaaDoorEdWalk5
import Derived.Test.YtmemadajjmmlpaaDoorEdWalk7
namespace Go.Proofs.YtmemadajjmmlpaaDoor
open Go.RowKit Go.Cl
attribute [local go_sem ↓] Go.wp_at_zero Go.wp_at_succ

/-- A method of an editor's. -/
def methV (E f : Nat) : Value := .func (Fn.func f) #[.pointer (some ⟨E, 0, none⟩)] #[]
/-- What does an edit. -/
def doesV (E : Nat) (d : Int) : Value :=
  if d = 1 then methV E 102 else if d = 2 then methV E 103 else if d = 3 then methV E 104
  else if d = 4 then methV E 105 else if d = 5 then methV E 106 else if d = 6 then methV E 107 else .nilFunc
theorem does_any (w : World) (E : Nat) (d : Int) : Calls Tryd.prog 76 #[.pointer (some ⟨E, 0, none⟩), .int .i64 d] w fun e w' => e = .returned (doesV E d) ∧ w = w' := by
  have hmf : ∀ (fn : Fn) (first cap : Array Value) (w : World), (Instr.makeFunc fn first cap).run Tryd.prog w = .ok (.func fn first cap) w := fun _ _ _ _ => rfl
  by_cases h1 : d = 1
  · subst h1
    go_enter Tryd.func76, Tryd.ntmps76
    go_wp2_with fail
    go_ret
    exact ⟨rfl, rfl⟩
  by_cases h2 : d = 2
  · subst h2
    go_enter Tryd.func76, Tryd.ntmps76
    go_wp2_with fail
    go_ret
    exact ⟨rfl, rfl⟩
  by_cases h3 : d = 3
  · subst h3
    go_enter Tryd.func76, Tryd.ntmps76
    go_wp2_with fail
    go_ret
    exact ⟨rfl, rfl⟩
  by_cases h4 : d = 4
  · subst h4
    go_enter Tryd.func76, Tryd.ntmps76
    go_wp2_with fail
    go_ret
    exact ⟨rfl, rfl⟩
  by_cases h5 : d = 5
  · subst h5
    go_enter Tryd.func76, Tryd.ntmps76
    go_wp2_with fail
    go_ret
    exact ⟨rfl, rfl⟩
  by_cases h6 : d = 6
  · subst h6
    go_enter Tryd.func76, Tryd.ntmps76
    go_wp2_with fail
    go_ret
    exact ⟨rfl, rfl⟩
  have HR := Lib.hid (show doesV E d = .nilFunc from by unfold doesV; rw [if_neg h1, if_neg h2, if_neg h3, if_neg h4, if_neg h5, if_neg h6])
  have b1 : (d == 1) = false := beq_eq_false_iff_ne.2 h1
  have b2 : (d == 2) = false := beq_eq_false_iff_ne.2 h2
  have b3 : (d == 3) = false := beq_eq_false_iff_ne.2 h3
  have b4 : (d == 4) = false := beq_eq_false_iff_ne.2 h4
  have b5 : (d == 5) = false := beq_eq_false_iff_ne.2 h5
  have b6 : (d == 6) = false := beq_eq_false_iff_ne.2 h6
  clear h1 h2 h3 h4 h5 h6
  go_enter Tryd.func76, Tryd.ntmps76
  go_wp2_with fail
  go_ret
  exact ⟨by rw [HR.out]; rfl, rfl⟩

/-- Function values against nil. -/
theorem eql_nil_func {ps rs : Array TypeId} {v : Bool} (ht : Tryd.prog.underlying 101 = some (.func ps rs v)) (w : World) (F : Fn) (a c : Array Value) : (binOp .eql 101 (.func F a c) .nilFunc).run Tryd.prog w = .ok (.bool false) w := by
  have h : ∀ d : Nat, (Op.equalIn (d + 1) 101 (.func F a c) .nilFunc).run Tryd.prog w = .ok false w := fun d => by
    simp [Op.equalIn, run_underlying ht]
  simp only [binOp]
  simp [Op.equal, Op.maxDepth, h 9999]
theorem eql_nil_nil {ps rs : Array TypeId} {v : Bool} (ht : Tryd.prog.underlying 101 = some (.func ps rs v)) (w : World) : (binOp .eql 101 .nilFunc .nilFunc).run Tryd.prog w = .ok (.bool true) w := by
  have h : ∀ d : Nat, (Op.equalIn (d + 1) 101 .nilFunc .nilFunc).run Tryd.prog w = .ok true w := fun d => by
    simp [Op.equalIn, run_underlying ht]
  simp only [binOp]
  simp [Op.equal, Op.maxDepth, h 9999]
set_option maxRecDepth 100000 in
set_option maxHeartbeats 1000000 in
theorem edit_attr (w : World) (E base : Nat) (q : Bool) (err : Int) (l' : List Nd) (made' : Int) (e : Edt) (Aa : Option Addr) (na ca : Nat) (Ak : Option Addr) (nk ck : Nat) (hd : doesV E e.do_ = methV E 102) (hB : base ≤ w.heap.size)
    (h : ∀ w1 : World, w1 = w.alloc (.cells (edtCells e Aa na ca Ak nk ck) 59) → Calls Tryd.prog 102 #[.pointer (some ⟨E, 0, none⟩), .agg (edtCells e Aa na ca Ak nk ck)] w1 (EdPost E base q err l' made' w1)) :
    Calls Tryd.prog 51 #[.pointer (some ⟨E, 0, none⟩), .agg (edtCells e Aa na ca Ak nk ck)] w (EdPost E base q err l' made' w) := by
  obtain ⟨w0, hw0⟩ : ∃ w0, w0 = w.alloc (.cells (edtCells e Aa na ca Ak nk ck) 59) := ⟨_, rfl⟩
  have hbx : w0.heap[w.heap.size]? = some (.cells (edtCells e Aa na ca Ak nk ck) 59 (0, 0)) := by rw [hw0]; exact heap_alloc_new w _
  have hb0 : Below base w w0 := by rw [hw0]; exact (Below.refl _ _).alloc hB _
  have H := Lib.hid (h w0 hw0)
  have HD := Lib.hid (does_any w0 E e.do_)
  rw [hd] at HD
  have HB0 := Lib.hid hb0
  have e0 : w0.cell? ⟨w.heap.size, 0, none⟩ = some (.int .i64 e.do_) := cell_blk hbx rfl
  have e1 : w0.cell? ⟨w.heap.size, 1, none⟩ = some (.int .i64 e.at_) := cell_blk hbx rfl
  have e2 : w0.cell? ⟨w.heap.size, 2, none⟩ = some (.int .i64 e.to_) := cell_blk hbx rfl
  have e3 : w0.cell? ⟨w.heap.size, 3, none⟩ = some (.int .i64 e.before) := cell_blk hbx rfl
  have e4 : w0.cell? ⟨w.heap.size, 4, none⟩ = some (.string e.name) := cell_blk hbx rfl
  have e5 : w0.cell? ⟨w.heap.size, 5, none⟩ = some (.string e.value) := cell_blk hbx rfl
  have e6 : w0.cell? ⟨w.heap.size, 6, none⟩ = some (.int .i64 e.node.kind) := cell_blk hbx rfl
  have e7 : w0.cell? ⟨w.heap.size, 7, none⟩ = some (.string e.node.name) := cell_blk hbx rfl
  have e8 : w0.cell? ⟨w.heap.size, 8, none⟩ = some (.slice Aa na ca) := cell_blk hbx rfl
  have e9 : w0.cell? ⟨w.heap.size, 9, none⟩ = some (.string e.node.text) := cell_blk hbx rfl
  have e10 : w0.cell? ⟨w.heap.size, 10, none⟩ = some (.int .i64 e.node.parent) := cell_blk hbx rfl
  have e11 : w0.cell? ⟨w.heap.size, 11, none⟩ = some (.slice Ak nk ck) := cell_blk hbx rfl
  clear h hb0 hbx hd
  unfold methV at *
  have hnn := eql_nil_func Tryd.underlying101
  go_enter Tryd.func51, Tryd.ntmps51
  unfold edtCells at *
  go_upto_region 1 with fail
  rw [← hw0]
  clear hw0
  go_upto_region 2 with (go_at_call 76; refine HD.out.mono ?_; rintro e' w1 ⟨rfl, rfl⟩)
  go_wp2_with (go_at_call 102; refine H.out.mono ?_; rintro e' w1 ⟨rfl, hb1, hp1⟩)
  go_ret
  exact ⟨rfl, HB0.out.trans hb1, hp1⟩
set_option maxRecDepth 100000 in
set_option maxHeartbeats 1000000 in
theorem edit_drop (w : World) (E base : Nat) (q : Bool) (err : Int) (l' : List Nd) (made' : Int) (e : Edt) (Aa : Option Addr) (na ca : Nat) (Ak : Option Addr) (nk ck : Nat) (hd : doesV E e.do_ = methV E 103) (hB : base ≤ w.heap.size)
    (h : ∀ w1 : World, w1 = w.alloc (.cells (edtCells e Aa na ca Ak nk ck) 59) → Calls Tryd.prog 103 #[.pointer (some ⟨E, 0, none⟩), .agg (edtCells e Aa na ca Ak nk ck)] w1 (EdPost E base q err l' made' w1)) :
    Calls Tryd.prog 51 #[.pointer (some ⟨E, 0, none⟩), .agg (edtCells e Aa na ca Ak nk ck)] w (EdPost E base q err l' made' w) := by
  obtain ⟨w0, hw0⟩ : ∃ w0, w0 = w.alloc (.cells (edtCells e Aa na ca Ak nk ck) 59) := ⟨_, rfl⟩
  have hbx : w0.heap[w.heap.size]? = some (.cells (edtCells e Aa na ca Ak nk ck) 59 (0, 0)) := by rw [hw0]; exact heap_alloc_new w _
  have hb0 : Below base w w0 := by rw [hw0]; exact (Below.refl _ _).alloc hB _
  have H := Lib.hid (h w0 hw0)
  have HD := Lib.hid (does_any w0 E e.do_)
  rw [hd] at HD
  have HB0 := Lib.hid hb0
  have e0 : w0.cell? ⟨w.heap.size, 0, none⟩ = some (.int .i64 e.do_) := cell_blk hbx rfl
  have e1 : w0.cell? ⟨w.heap.size, 1, none⟩ = some (.int .i64 e.at_) := cell_blk hbx rfl
  have e2 : w0.cell? ⟨w.heap.size, 2, none⟩ = some (.int .i64 e.to_) := cell_blk hbx rfl
  have e3 : w0.cell? ⟨w.heap.size, 3, none⟩ = some (.int .i64 e.before) := cell_blk hbx rfl
  have e4 : w0.cell? ⟨w.heap.size, 4, none⟩ = some (.string e.name) := cell_blk hbx rfl
  have e5 : w0.cell? ⟨w.heap.size, 5, none⟩ = some (.string e.value) := cell_blk hbx rfl
  have e6 : w0.cell? ⟨w.heap.size, 6, none⟩ = some (.int .i64 e.node.kind) := cell_blk hbx rfl
  have e7 : w0.cell? ⟨w.heap.size, 7, none⟩ = some (.string e.node.name) := cell_blk hbx rfl
  have e8 : w0.cell? ⟨w.heap.size, 8, none⟩ = some (.slice Aa na ca) := cell_blk hbx rfl
  have e9 : w0.cell? ⟨w.heap.size, 9, none⟩ = some (.string e.node.text) := cell_blk hbx rfl
  have e10 : w0.cell? ⟨w.heap.size, 10, none⟩ = some (.int .i64 e.node.parent) := cell_blk hbx rfl
  have e11 : w0.cell? ⟨w.heap.size, 11, none⟩ = some (.slice Ak nk ck) := cell_blk hbx rfl
  clear h hb0 hbx hd
  unfold methV at *
  have hnn := eql_nil_func Tryd.underlying101
  go_enter Tryd.func51, Tryd.ntmps51
  unfold edtCells at *
  go_upto_region 1 with fail
  rw [← hw0]
  clear hw0
  go_upto_region 2 with (go_at_call 76; refine HD.out.mono ?_; rintro e' w1 ⟨rfl, rfl⟩)
  go_wp2_with (go_at_call 103; refine H.out.mono ?_; rintro e' w1 ⟨rfl, hb1, hp1⟩)
  go_ret
  exact ⟨rfl, HB0.out.trans hb1, hp1⟩
set_option maxRecDepth 100000 in
set_option maxHeartbeats 1000000 in
theorem edit_text (w : World) (E base : Nat) (q : Bool) (err : Int) (l' : List Nd) (made' : Int) (e : Edt) (Aa : Option Addr) (na ca : Nat) (Ak : Option Addr) (nk ck : Nat) (hd : doesV E e.do_ = methV E 104) (hB : base ≤ w.heap.size)
    (h : ∀ w1 : World, w1 = w.alloc (.cells (edtCells e Aa na ca Ak nk ck) 59) → Calls Tryd.prog 104 #[.pointer (some ⟨E, 0, none⟩), .agg (edtCells e Aa na ca Ak nk ck)] w1 (EdPost E base q err l' made' w1)) :
    Calls Tryd.prog 51 #[.pointer (some ⟨E, 0, none⟩), .agg (edtCells e Aa na ca Ak nk ck)] w (EdPost E base q err l' made' w) := by
  obtain ⟨w0, hw0⟩ : ∃ w0, w0 = w.alloc (.cells (edtCells e Aa na ca Ak nk ck) 59) := ⟨_, rfl⟩
  have hbx : w0.heap[w.heap.size]? = some (.cells (edtCells e Aa na ca Ak nk ck) 59 (0, 0)) := by rw [hw0]; exact heap_alloc_new w _
  have hb0 : Below base w w0 := by rw [hw0]; exact (Below.refl _ _).alloc hB _
  have H := Lib.hid (h w0 hw0)
  have HD := Lib.hid (does_any w0 E e.do_)
  rw [hd] at HD
  have HB0 := Lib.hid hb0
  have e0 : w0.cell? ⟨w.heap.size, 0, none⟩ = some (.int .i64 e.do_) := cell_blk hbx rfl
  have e1 : w0.cell? ⟨w.heap.size, 1, none⟩ = some (.int .i64 e.at_) := cell_blk hbx rfl
  have e2 : w0.cell? ⟨w.heap.size, 2, none⟩ = some (.int .i64 e.to_) := cell_blk hbx rfl
  have e3 : w0.cell? ⟨w.heap.size, 3, none⟩ = some (.int .i64 e.before) := cell_blk hbx rfl
  have e4 : w0.cell? ⟨w.heap.size, 4, none⟩ = some (.string e.name) := cell_blk hbx rfl
  have e5 : w0.cell? ⟨w.heap.size, 5, none⟩ = some (.string e.value) := cell_blk hbx rfl
  have e6 : w0.cell? ⟨w.heap.size, 6, none⟩ = some (.int .i64 e.node.kind) := cell_blk hbx rfl
  have e7 : w0.cell? ⟨w.heap.size, 7, none⟩ = some (.string e.node.name) := cell_blk hbx rfl
  have e8 : w0.cell? ⟨w.heap.size, 8, none⟩ = some (.slice Aa na ca) := cell_blk hbx rfl
  have e9 : w0.cell? ⟨w.heap.size, 9, none⟩ = some (.string e.node.text) := cell_blk hbx rfl
  have e10 : w0.cell? ⟨w.heap.size, 10, none⟩ = some (.int .i64 e.node.parent) := cell_blk hbx rfl
  have e11 : w0.cell? ⟨w.heap.size, 11, none⟩ = some (.slice Ak nk ck) := cell_blk hbx rfl
  clear h hb0 hbx hd
  unfold methV at *
  have hnn := eql_nil_func Tryd.underlying101
  go_enter Tryd.func51, Tryd.ntmps51
  unfold edtCells at *
  go_upto_region 1 with fail
  rw [← hw0]
  clear hw0
  go_upto_region 2 with (go_at_call 76; refine HD.out.mono ?_; rintro e' w1 ⟨rfl, rfl⟩)
  go_wp2_with (go_at_call 104; refine H.out.mono ?_; rintro e' w1 ⟨rfl, hb1, hp1⟩)
  go_ret
  exact ⟨rfl, HB0.out.trans hb1, hp1⟩
set_option maxRecDepth 100000 in
set_option maxHeartbeats 1000000 in
theorem edit_make (w : World) (E base : Nat) (q : Bool) (err : Int) (l' : List Nd) (made' : Int) (e : Edt) (Aa : Option Addr) (na ca : Nat) (Ak : Option Addr) (nk ck : Nat) (hd : doesV E e.do_ = methV E 105) (hB : base ≤ w.heap.size)
    (h : ∀ w1 : World, w1 = w.alloc (.cells (edtCells e Aa na ca Ak nk ck) 59) → Calls Tryd.prog 105 #[.pointer (some ⟨E, 0, none⟩), .agg (edtCells e Aa na ca Ak nk ck)] w1 (EdPost E base q err l' made' w1)) :
    Calls Tryd.prog 51 #[.pointer (some ⟨E, 0, none⟩), .agg (edtCells e Aa na ca Ak nk ck)] w (EdPost E base q err l' made' w) := by
  obtain ⟨w0, hw0⟩ : ∃ w0, w0 = w.alloc (.cells (edtCells e Aa na ca Ak nk ck) 59) := ⟨_, rfl⟩
  have hbx : w0.heap[w.heap.size]? = some (.cells (edtCells e Aa na ca Ak nk ck) 59 (0, 0)) := by rw [hw0]; exact heap_alloc_new w _
  have hb0 : Below base w w0 := by rw [hw0]; exact (Below.refl _ _).alloc hB _
  have H := Lib.hid (h w0 hw0)
  have HD := Lib.hid (does_any w0 E e.do_)
  rw [hd] at HD
  have HB0 := Lib.hid hb0
  have e0 : w0.cell? ⟨w.heap.size, 0, none⟩ = some (.int .i64 e.do_) := cell_blk hbx rfl
  have e1 : w0.cell? ⟨w.heap.size, 1, none⟩ = some (.int .i64 e.at_) := cell_blk hbx rfl
  have e2 : w0.cell? ⟨w.heap.size, 2, none⟩ = some (.int .i64 e.to_) := cell_blk hbx rfl
  have e3 : w0.cell? ⟨w.heap.size, 3, none⟩ = some (.int .i64 e.before) := cell_blk hbx rfl
  have e4 : w0.cell? ⟨w.heap.size, 4, none⟩ = some (.string e.name) := cell_blk hbx rfl
  have e5 : w0.cell? ⟨w.heap.size, 5, none⟩ = some (.string e.value) := cell_blk hbx rfl
  have e6 : w0.cell? ⟨w.heap.size, 6, none⟩ = some (.int .i64 e.node.kind) := cell_blk hbx rfl
  have e7 : w0.cell? ⟨w.heap.size, 7, none⟩ = some (.string e.node.name) := cell_blk hbx rfl
  have e8 : w0.cell? ⟨w.heap.size, 8, none⟩ = some (.slice Aa na ca) := cell_blk hbx rfl
  have e9 : w0.cell? ⟨w.heap.size, 9, none⟩ = some (.string e.node.text) := cell_blk hbx rfl
  have e10 : w0.cell? ⟨w.heap.size, 10, none⟩ = some (.int .i64 e.node.parent) := cell_blk hbx rfl
  have e11 : w0.cell? ⟨w.heap.size, 11, none⟩ = some (.slice Ak nk ck) := cell_blk hbx rfl
  clear h hb0 hbx hd
  unfold methV at *
  have hnn := eql_nil_func Tryd.underlying101
  go_enter Tryd.func51, Tryd.ntmps51
  unfold edtCells at *
  go_upto_region 1 with fail
  rw [← hw0]
  clear hw0
  go_upto_region 2 with (go_at_call 76; refine HD.out.mono ?_; rintro e' w1 ⟨rfl, rfl⟩)
  go_wp2_with (go_at_call 105; refine H.out.mono ?_; rintro e' w1 ⟨rfl, hb1, hp1⟩)
  go_ret
  exact ⟨rfl, HB0.out.trans hb1, hp1⟩
set_option maxRecDepth 100000 in
set_option maxHeartbeats 1000000 in
theorem edit_insert (w : World) (E base : Nat) (q : Bool) (err : Int) (l' : List Nd) (made' : Int) (e : Edt) (Aa : Option Addr) (na ca : Nat) (Ak : Option Addr) (nk ck : Nat) (hd : doesV E e.do_ = methV E 106) (hB : base ≤ w.heap.size)
    (h : ∀ w1 : World, w1 = w.alloc (.cells (edtCells e Aa na ca Ak nk ck) 59) → Calls Tryd.prog 106 #[.pointer (some ⟨E, 0, none⟩), .agg (edtCells e Aa na ca Ak nk ck)] w1 (EdPost E base q err l' made' w1)) :
    Calls Tryd.prog 51 #[.pointer (some ⟨E, 0, none⟩), .agg (edtCells e Aa na ca Ak nk ck)] w (EdPost E base q err l' made' w) := by
  obtain ⟨w0, hw0⟩ : ∃ w0, w0 = w.alloc (.cells (edtCells e Aa na ca Ak nk ck) 59) := ⟨_, rfl⟩
  have hbx : w0.heap[w.heap.size]? = some (.cells (edtCells e Aa na ca Ak nk ck) 59 (0, 0)) := by rw [hw0]; exact heap_alloc_new w _
  have hb0 : Below base w w0 := by rw [hw0]; exact (Below.refl _ _).alloc hB _
  have H := Lib.hid (h w0 hw0)
  have HD := Lib.hid (does_any w0 E e.do_)
  rw [hd] at HD
  have HB0 := Lib.hid hb0
  have e0 : w0.cell? ⟨w.heap.size, 0, none⟩ = some (.int .i64 e.do_) := cell_blk hbx rfl
  have e1 : w0.cell? ⟨w.heap.size, 1, none⟩ = some (.int .i64 e.at_) := cell_blk hbx rfl
  have e2 : w0.cell? ⟨w.heap.size, 2, none⟩ = some (.int .i64 e.to_) := cell_blk hbx rfl
  have e3 : w0.cell? ⟨w.heap.size, 3, none⟩ = some (.int .i64 e.before) := cell_blk hbx rfl
  have e4 : w0.cell? ⟨w.heap.size, 4, none⟩ = some (.string e.name) := cell_blk hbx rfl
  have e5 : w0.cell? ⟨w.heap.size, 5, none⟩ = some (.string e.value) := cell_blk hbx rfl
  have e6 : w0.cell? ⟨w.heap.size, 6, none⟩ = some (.int .i64 e.node.kind) := cell_blk hbx rfl
  have e7 : w0.cell? ⟨w.heap.size, 7, none⟩ = some (.string e.node.name) := cell_blk hbx rfl
  have e8 : w0.cell? ⟨w.heap.size, 8, none⟩ = some (.slice Aa na ca) := cell_blk hbx rfl
  have e9 : w0.cell? ⟨w.heap.size, 9, none⟩ = some (.string e.node.text) := cell_blk hbx rfl
  have e10 : w0.cell? ⟨w.heap.size, 10, none⟩ = some (.int .i64 e.node.parent) := cell_blk hbx rfl
  have e11 : w0.cell? ⟨w.heap.size, 11, none⟩ = some (.slice Ak nk ck) := cell_blk hbx rfl
  clear h hb0 hbx hd
  unfold methV at *
  have hnn := eql_nil_func Tryd.underlying101
  go_enter Tryd.func51, Tryd.ntmps51
  unfold edtCells at *
  go_upto_region 1 with fail
  rw [← hw0]
  clear hw0
  go_upto_region 2 with (go_at_call 76; refine HD.out.mono ?_; rintro e' w1 ⟨rfl, rfl⟩)
  go_wp2_with (go_at_call 106; refine H.out.mono ?_; rintro e' w1 ⟨rfl, hb1, hp1⟩)
  go_ret
  exact ⟨rfl, HB0.out.trans hb1, hp1⟩
set_option maxRecDepth 100000 in
set_option maxHeartbeats 1000000 in
theorem edit_remove (w : World) (E base : Nat) (q : Bool) (err : Int) (l' : List Nd) (made' : Int) (e : Edt) (Aa : Option Addr) (na ca : Nat) (Ak : Option Addr) (nk ck : Nat) (hd : doesV E e.do_ = methV E 107) (hB : base ≤ w.heap.size)
    (h : ∀ w1 : World, w1 = w.alloc (.cells (edtCells e Aa na ca Ak nk ck) 59) → Calls Tryd.prog 107 #[.pointer (some ⟨E, 0, none⟩), .agg (edtCells e Aa na ca Ak nk ck)] w1 (EdPost E base q err l' made' w1)) :
    Calls Tryd.prog 51 #[.pointer (some ⟨E, 0, none⟩), .agg (edtCells e Aa na ca Ak nk ck)] w (EdPost E base q err l' made' w) := by
  obtain ⟨w0, hw0⟩ : ∃ w0, w0 = w.alloc (.cells (edtCells e Aa na ca Ak nk ck) 59) := ⟨_, rfl⟩
  have hbx : w0.heap[w.heap.size]? = some (.cells (edtCells e Aa na ca Ak nk ck) 59 (0, 0)) := by rw [hw0]; exact heap_alloc_new w _
  have hb0 : Below base w w0 := by rw [hw0]; exact (Below.refl _ _).alloc hB _
  have H := Lib.hid (h w0 hw0)
  have HD := Lib.hid (does_any w0 E e.do_)
  rw [hd] at HD
  have HB0 := Lib.hid hb0
  have e0 : w0.cell? ⟨w.heap.size, 0, none⟩ = some (.int .i64 e.do_) := cell_blk hbx rfl
  have e1 : w0.cell? ⟨w.heap.size, 1, none⟩ = some (.int .i64 e.at_) := cell_blk hbx rfl
  have e2 : w0.cell? ⟨w.heap.size, 2, none⟩ = some (.int .i64 e.to_) := cell_blk hbx rfl
  have e3 : w0.cell? ⟨w.heap.size, 3, none⟩ = some (.int .i64 e.before) := cell_blk hbx rfl
  have e4 : w0.cell? ⟨w.heap.size, 4, none⟩ = some (.string e.name) := cell_blk hbx rfl
  have e5 : w0.cell? ⟨w.heap.size, 5, none⟩ = some (.string e.value) := cell_blk hbx rfl
  have e6 : w0.cell? ⟨w.heap.size, 6, none⟩ = some (.int .i64 e.node.kind) := cell_blk hbx rfl
  have e7 : w0.cell? ⟨w.heap.size, 7, none⟩ = some (.string e.node.name) := cell_blk hbx rfl
  have e8 : w0.cell? ⟨w.heap.size, 8, none⟩ = some (.slice Aa na ca) := cell_blk hbx rfl
  have e9 : w0.cell? ⟨w.heap.size, 9, none⟩ = some (.string e.node.text) := cell_blk hbx rfl
  have e10 : w0.cell? ⟨w.heap.size, 10, none⟩ = some (.int .i64 e.node.parent) := cell_blk hbx rfl
  have e11 : w0.cell? ⟨w.heap.size, 11, none⟩ = some (.slice Ak nk ck) := cell_blk hbx rfl
  clear h hb0 hbx hd
  unfold methV at *
  have hnn := eql_nil_func Tryd.underlying101
  go_enter Tryd.func51, Tryd.ntmps51
  unfold edtCells at *
  go_upto_region 1 with fail
  rw [← hw0]
  clear hw0
  go_upto_region 2 with (go_at_call 76; refine HD.out.mono ?_; rintro e' w1 ⟨rfl, rfl⟩)
  go_wp2_with (go_at_call 107; refine H.out.mono ?_; rintro e' w1 ⟨rfl, hb1, hp1⟩)
  go_ret
  exact ⟨rfl, HB0.out.trans hb1, hp1⟩
set_option maxRecDepth 100000 in
set_option maxHeartbeats 1000000 in
theorem edit_none (w : World) (E base : Nat) (q : Bool) (l' : List Nd) (made' : Int) (e : Edt) (Aa : Option Addr) (na ca : Nat) (Ak : Option Addr) (nk ck : Nat) (hd : doesV E e.do_ = .nilFunc) (hB : base ≤ w.heap.size) :
    Calls Tryd.prog 51 #[.pointer (some ⟨E, 0, none⟩), .agg (edtCells e Aa na ca Ak nk ck)] w (EdPost E base q 1 l' made' w) := by
  obtain ⟨w0, hw0⟩ : ∃ w0, w0 = w.alloc (.cells (edtCells e Aa na ca Ak nk ck) 59) := ⟨_, rfl⟩
  have hbx : w0.heap[w.heap.size]? = some (.cells (edtCells e Aa na ca Ak nk ck) 59 (0, 0)) := by rw [hw0]; exact heap_alloc_new w _
  have hb0 : Below base w w0 := by rw [hw0]; exact (Below.refl _ _).alloc hB _
  have HD := Lib.hid (does_any w0 E e.do_)
  rw [hd] at HD
  have HB0 := Lib.hid hb0
  have e0 : w0.cell? ⟨w.heap.size, 0, none⟩ = some (.int .i64 e.do_) := cell_blk hbx rfl
  clear hb0 hbx hd
  have hnn := eql_nil_nil Tryd.underlying101
  go_enter Tryd.func51, Tryd.ntmps51
  unfold edtCells at *
  go_upto_region 1 with fail
  rw [← hw0]
  clear hw0
  go_wp2_with (go_at_call 76; refine HD.out.mono ?_; rintro e' w1 ⟨rfl, rfl⟩)
  go_ret
  exact ⟨rfl, HB0.out, fun h => absurd h (by decide)⟩
theorem edErr_at {l : List Nd} {e : Edt} : edErr l e = if e.do_ = 1 then attrErr l e.at_ e.name e.value else if e.do_ = 2 then dropErr l e.at_ e.name else if e.do_ = 3 then textErr l e.at_ e.value
  else if e.do_ = 4 then makeErr l e.node else if e.do_ = 5 then insErr l e.at_ e.to_ e.before else if e.do_ = 6 then remErr l e.at_ else 1 := rfl
theorem EdtOk.below {w w' : World} {B B' : Nat} {e : Edt} {Aa : Option Addr} {na ca : Nat} {Ak : Option Addr} {nk ck : Nat} (h : EdtOk w (lt B) e Aa na ca Ak nk ck) (hb : Below B' w w') (hB : B ≤ B') : EdtOk w' (lt B) e Aa na ca Ak nk ck :=
  ⟨h.node.below hb hB, h.at_, h.to_, h.before, h.name, h.value⟩
theorem NdAt.up {w : World} {B B' : Nat} {x : Nd} {Aa : Option Addr} {na ca : Nat} {Ak : Option Addr} {nk ck : Nat} (h : NdAt w (lt B) x Aa na ca Ak nk ck) (hB : B ≤ B') : NdAt w (lt B') x Aa na ca Ak nk ck :=
  ⟨h.attrs.up hB, h.kids.up hB, h.kind, h.name, h.text, h.parent⟩
/-- An edit of an editor's document. -/
theorem edit_any (w : World) (E g c base : Nat) (l : List Nd) (q : Bool) (made : Int) (ps : List (Value × Value)) (e : Edt) (Aa : Option Addr) (na ca : Nat) (Ak : Option Addr) (nk ck : Nat) (h : EdAt w E g c base l q made ps) (hg : Good l) (he : EdtOk w (lt base) e Aa na ca Ak nk ck) :
    Calls Tryd.prog 51 #[.pointer (some ⟨E, 0, none⟩), .agg (edtCells e Aa na ca Ak nk ck)] w (EdPost E base q (edErr l e) (edDo l e) (edMade l made e) w) := by
  have hB : base ≤ w.heap.size := Nat.le_trans h.le (Nat.le_of_lt h.lt)
  have key : ∀ w1 : World, w1 = w.alloc (.cells (edtCells e Aa na ca Ak nk ck) 59) → EdAt w1 E g c base l q made ps ∧ EdtOk w1 (lt base) e Aa na ca Ak nk ck ∧ base ≤ w1.heap.size := fun w1 hw1 => by
    have hb : Below w.heap.size w w1 := by rw [hw1]; exact (Below.refl _ _).alloc (Nat.le_refl _) _
    exact ⟨h.next hb, he.below hb hB, Nat.le_trans hB hb.size⟩
  unfold edErr edDo edMade
  by_cases h1 : e.do_ = 1
  · rw [if_pos h1, if_pos h1, if_neg (by omega)]
    exact edit_attr w E base q _ _ _ e Aa na ca Ak nk ck (by unfold doesV; rw [if_pos h1]) hB fun w1 hw1 => attr_any w1 E g c base l q made ps e Aa na ca Ak nk ck (key w1 hw1).1 he.name he.value
  rw [if_neg h1, if_neg h1]
  by_cases h2 : e.do_ = 2
  · rw [if_pos h2, if_pos h2, if_neg (by omega)]
    exact edit_drop w E base q _ _ _ e Aa na ca Ak nk ck (by unfold doesV; rw [if_neg h1, if_pos h2]) hB fun w1 hw1 => drop_any w1 E g c base l q made ps e Aa na ca Ak nk ck (key w1 hw1).1
  rw [if_neg h2, if_neg h2]
  by_cases h3 : e.do_ = 3
  · rw [if_pos h3, if_pos h3, if_neg (by omega)]
    exact edit_text w E base q _ _ _ e Aa na ca Ak nk ck (by unfold doesV; rw [if_neg h1, if_neg h2, if_pos h3]) hB fun w1 hw1 => text_any w1 E g c base l q made ps e Aa na ca Ak nk ck (key w1 hw1).1 (by
      have k := (key w1 hw1).2.1
      exact ⟨k.node.up (key w1 hw1).2.2, k.at_, k.to_, k.before, k.name, k.value⟩)
  rw [if_neg h3, if_neg h3]
  by_cases h4 : e.do_ = 4
  · rw [if_pos h4, if_pos h4, if_pos h4]
    exact edit_make w E base q _ _ _ e Aa na ca Ak nk ck (by unfold doesV; rw [if_neg h1, if_neg h2, if_neg h3, if_pos h4]) hB fun w1 hw1 => make_any w1 E g c base l q made ps e Aa na ca Ak nk ck (key w1 hw1).1 hg (key w1 hw1).2.1.node
  rw [if_neg h4, if_neg h4, if_neg h4]
  by_cases h5 : e.do_ = 5
  · rw [if_pos h5, if_pos h5]
    exact edit_insert w E base q _ _ _ e Aa na ca Ak nk ck (by unfold doesV; rw [if_neg h1, if_neg h2, if_neg h3, if_neg h4, if_pos h5]) hB fun w1 hw1 => insert_any w1 E g c base l q made ps e Aa na ca Ak nk ck (key w1 hw1).1 hg
  rw [if_neg h5, if_neg h5]
  by_cases h6 : e.do_ = 6
  · rw [if_pos h6, if_pos h6]
    exact edit_remove w E base q _ _ _ e Aa na ca Ak nk ck (by unfold doesV; rw [if_neg h1, if_neg h2, if_neg h3, if_neg h4, if_neg h5, if_pos h6]) hB fun w1 hw1 => remove_any w1 E g c base l q made ps e Aa na ca Ak nk ck (key w1 hw1).1 hg
  rw [if_neg h6, if_neg h6]
  exact edit_none w E base q _ _ e Aa na ca Ak nk ck (by unfold doesV; rw [if_neg h1, if_neg h2, if_neg h3, if_neg h4, if_neg h5, if_neg h6]) hB
end Go.Proofs.YtmemadajjmmlpaaDoor
