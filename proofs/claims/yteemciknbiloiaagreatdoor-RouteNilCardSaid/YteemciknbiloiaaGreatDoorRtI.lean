/- Walks over layer 24: what there is not; the reference's SameRoutes at two zero routes. -/
import Derived.Test.YteemciknbiloiaaGreatDoorRtH
namespace Go.Proofs.YteemciknbiloiaaGreatDoor.Ih
open Go.RowKit

attribute [local go_sem] run_store_one

theorem match_nil_tree (w : World) (s : Value) : Calls Tryz.prog 4 #[.pointer none, s] w (fun e w' => e = .returned (.tuple #[.slice none 0 0, .int .i64 2]) ∧ w' = w) := by
  go_enter Tryz.func4, Tryz.ntmps4
  go_wp2_with fail
  go_ret2
  exact ⟨rfl, rfl⟩

theorem len_nil_tree (w : World) : Calls Tryz.prog 8 #[.pointer none] w (fun e w' => e = .returned (.int .i64 0) ∧ w' = w) := by
  go_enter Tryz.func8, Tryz.ntmps8
  go_wp2_with fail
  go_ret
  exact ⟨rfl, rfl⟩

theorem results_cell_two (fn : Func) (p u : Tmp) (ty : TypeId) (h : fn.results = #[.cell p ty, .tmp u]) (tmps : Array Value) (P : Program) (w : World) :
    (results fn tmps).run P w = ((asAddr (tmps.getD p undef)).run P w).andThen fun a w₁ => ((loadVar ty a).run P w₁).andThen fun v w₂ => .ok (.tuple #[v, tmps.getD u undef]) w₂ := by
  simp only [results, h]
  simp [Sem.run_bind, Result.andThen]

abbrev zeroRt : Value := rtV 0 ⟨#[]⟩ (.slice none 0 0) (.slice none 0 0) false 0 0 0 false

set_option maxRecDepth 100000 in
theorem route_nil_tree (w : World) (i : Int) : Calls Tryz.prog 6 #[.pointer none, .int .i64 i] w (fun e w' => e = .returned (.tuple #[zeroRt, .int .i64 2]) ∧ Below w.heap.size w w') := by
  have hW : Hid (∀ W, W = w.alloc (.cells #[.int .i64 0, .string ⟨#[]⟩, .slice none 0 0, .slice none 0 0, .bool false, .int .i64 0, .int .i64 0, .int .i64 0, .bool false] 33) → Below w.heap.size w W) := by
    rintro W rfl
    exact (Below.refl _ _).alloc (Nat.le_refl _) _
  go_enter Tryz.func6, Tryz.ntmps6
  go_wp2_with fail
  refine bodyPost_ret (v := .tuple #[zeroRt, .int .i64 2]) ?_ rfl ?_
  · rw [results_cell_two _ 4 5 33 rfl]
    go_simp
  · exact ⟨rfl, hW.out _ rfl⟩

set_option maxRecDepth 100000 in
theorem key_nil_tree (w : World) (i : Int) (s : Value) : Calls Tryz.prog 5 #[.pointer none, .int .i64 i, s] w (fun e w' => e = .returned (.tuple #[.string ⟨#[]⟩, .int .i64 2]) ∧ Below w.heap.size w w') := by
  go_enter Tryz.func5, Tryz.ntmps5
  go_wp2_with fail
  refine (route_nil_tree w i).mono ?_
  rintro e w1 ⟨rfl, hb⟩
  have hW : Hid (∀ W, W = w1.alloc (.cells #[.int .i64 0, .string ⟨#[]⟩, .slice none 0 0, .slice none 0 0, .bool false, .int .i64 0, .int .i64 0, .int .i64 0, .bool false] 33) → Below w.heap.size w W) := by
    rintro W rfl
    exact hb.alloc hb.size _
  clear hb
  go_wp2_with fail
  go_ret2
  exact ⟨rfl, hW.out _ rfl⟩

theorem texts_nil (w : World) : Calls Tryz.prog 17 #[.slice none 0 0, .slice none 0 0] w (fun e w' => e = .returned (.bool true) ∧ w' = w) := by
  go_enter Tryz.func17, Tryz.ntmps17
  go_wp2_with fail
  refine wp_loop_rounds 1 ?_
  rw [rounds_succ]
  go_wp2_with fail
  go_ret
  exact ⟨rfl, rfl⟩

theorem matchers_nil (w : World) : Calls Tryz.prog 16 #[.slice none 0 0, .slice none 0 0] w (fun e w' => e = .returned (.bool true) ∧ w' = w) := by
  go_enter Tryz.func16, Tryz.ntmps16
  go_wp2_with fail
  refine wp_loop_rounds 1 ?_
  rw [rounds_succ]
  go_wp2_with fail
  go_ret
  exact ⟨rfl, rfl⟩

def ZeroAt (w : World) (g : Nat) : Prop := g < w.heap.size ∧ RtAt w g 0 ⟨#[]⟩ (.slice none 0 0) (.slice none 0 0) 0 0 0 false

set_option maxRecDepth 100000 in
set_option maxHeartbeats 2000000 in
theorem same_zero (w : World) (g1 g2 c1 c2 : Nat) (h1 : ZeroAt w g1) (h2 : ZeroAt w g2) :
    Calls Tryz.prog 7 #[.slice (some ⟨g1, 0, none⟩) 1 c1, .slice (some ⟨g2, 0, none⟩) 1 c2] w (fun e w' => e = .returned (.bool true) ∧ Below w.heap.size w w') := by
  obtain ⟨hg1, ⟨_, a0, a1, a2, a3, a4, a5, a6, a7, a8, _⟩⟩ := h1
  obtain ⟨hg2, ⟨_, b0, b1, b2, b3, b4, b5, b6, b7, b8, _⟩⟩ := h2
  have n1 : ¬ g1 = w.heap.size := by omega
  have n2 : ¬ g2 = w.heap.size := by omega
  have hW : Hid (∀ W, W = (w.alloc (.cells #[.int .i64 0, .string ⟨#[]⟩, .slice none 0 0, .slice none 0 0, .bool false, .int .i64 0, .int .i64 0, .int .i64 0, .bool false] 33)).alloc (.cells #[.int .i64 0, .string ⟨#[]⟩, .slice none 0 0, .slice none 0 0, .bool false, .int .i64 0, .int .i64 0, .int .i64 0, .bool false] 33) → Below w.heap.size w W) := by
    rintro W rfl
    exact ((Below.refl _ _).alloc (Nat.le_refl _) _).alloc (by simp) _
  go_enter Tryz.func7, Tryz.ntmps7
  go_wp2_with fail
  refine wp_loop_rounds 2 ?_
  rw [rounds_succ]
  go_wp2_with fail
  refine (matchers_nil _).mono ?_
  rintro e w1 ⟨rfl, rfl⟩
  go_wp2_with fail
  refine (texts_nil _).mono ?_
  rintro e w1 ⟨rfl, rfl⟩
  go_wp2_with fail
  rw [rounds_succ]
  go_wp2_with fail
  go_ret
  exact ⟨rfl, hW.out _ rfl⟩

end Go.Proofs.YteemciknbiloiaaGreatDoor.Ih
