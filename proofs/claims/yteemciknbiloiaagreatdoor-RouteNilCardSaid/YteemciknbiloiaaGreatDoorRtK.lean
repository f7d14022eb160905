/- Walks over the law of layer 24: tree, numbers. -/
import Derived.Test.YteemciknbiloiaaGreatDoorRtI
namespace Go.Proofs.YteemciknbiloiaaGreatDoor.Ih
open Go.RowKit

attribute [local go_sem] run_store_one

abbrev nSev : ByteArray := ⟨#[115, 101, 118, 101, 114, 105, 116, 121]⟩
abbrev bCrit : ByteArray := ⟨#[99, 114, 105, 116, 105, 99, 97, 108]⟩
abbrev treeRs : List Rt := [⟨-1, ⟨#[116, 101, 97, 109]⟩, [], [], 0, 1, 1, false⟩, ⟨0, ⟨#[112, 97, 103, 101, 114]⟩, [⟨1, nSev, bCrit⟩], [], 0, 1, 1, true⟩, ⟨0, ⟨#[119, 101, 98]⟩, [⟨1, nJob, bA⟩], [nJob], 0, 1, 1, false⟩]

set_option maxRecDepth 100000 in
theorem numbers_same (w : World) (g h c d : Nat) (x y : Int) (a0 : w.cell? ⟨g, 0, none⟩ = some (.int .i64 x)) (a1 : w.cell? ⟨g, 1, none⟩ = some (.int .i64 y)) (b0 : w.cell? ⟨h, 0, none⟩ = some (.int .i64 x)) (b1 : w.cell? ⟨h, 1, none⟩ = some (.int .i64 y)) :
    Calls Tryz.prog 21 #[.slice (some ⟨g, 0, none⟩) 2 c, .slice (some ⟨h, 0, none⟩) 2 d] w (fun e w' => e = .returned (.bool true) ∧ ∃ n, w' = w.drewN n) := by
  go_enter Tryz.func21, Tryz.ntmps21
  go_wp2_with fail
  refine wp_loop_rounds 3 ?_
  rw [rounds_succ]
  go_wp2_with fail
  go_quiet (fail)
  go_wp2_with fail
  rw [rounds_succ]
  go_wp2_with fail
  go_quiet (fail)
  go_wp2_with fail
  rw [rounds_succ]
  go_wp2_with fail
  go_ret
  exact ⟨rfl, _, rfl⟩

theorem cell_new (W : World) (t : TypeId) (cs : Array Value) (j : Nat) (u : Value) (h : cs[j]? = some u) : (W.alloc (.cells cs t)).cell? ⟨W.heap.size, j, none⟩ = some u := by
  have q := World.news_of_block (heap_alloc_new W (.cells cs t)) j u (by rw [Array.getElem?_toList]; exact h)
  rwa [show (⟨W.heap.size, 0, none⟩ : Addr).add j = ⟨W.heap.size, j, none⟩ by simp [Addr.add]; intro e; exact e.symm] at q

theorem mat_new (W W' : World) (m : Mat) (hb : Below (W.heap.size + 1) (W.alloc (.cells #[.int .i64 m.op, .string m.n, .string m.v] 71)) W') : MatAt W' W.heap.size 0 [m] := by
  intro i x hx
  cases i with
  | succ i => simp at hx
  | zero =>
    have hx' : m = x := by simpa using hx
    subst hx'
    have e : ∀ j, W'.cell? ⟨W.heap.size, j, none⟩ = (W.alloc (.cells #[.int .i64 m.op, .string m.n, .string m.v] 71)).cell? ⟨W.heap.size, j, none⟩ := fun j => hb.cell (p := ⟨W.heap.size, j, none⟩) (by simp)
    exact ⟨(e _).trans (cell_new W _ _ 0 _ rfl), (e _).trans (cell_new W _ _ 1 _ rfl), (e _).trans (cell_new W _ _ 2 _ rfl)⟩

set_option maxRecDepth 100000 in
set_option maxHeartbeats 1000000 in
theorem tree_ok (w : World) : Calls Tryz.prog 19 #[] w (fun e w' => ∃ g, e = .returned (.slice (some ⟨g, 0, none⟩) 3 3) ∧ g < w'.heap.size ∧ RtsAt w' g 0 w.heap.size treeRs ∧ Below w.heap.size w w') := by
  go_enter Tryz.func19, Tryz.ntmps19
  go_wp2_with fail
  go_ret
  have z1 : (w.alloc (.cells #[.int .i64 1, .string nSev, .string bCrit] 71)).heap.size = w.heap.size + 1 := by simp
  generalize hW1 : w.alloc (.cells #[.int .i64 1, .string nSev, .string bCrit] 71) = W1 at *
  have z2 : (W1.alloc (.cells #[.int .i64 1, .string nJob, .string bA] 71)).heap.size = w.heap.size + 2 := by simp [z1]
  generalize hW2 : W1.alloc (.cells #[.int .i64 1, .string nJob, .string bA] 71) = W2 at *
  have z3 : (W2.alloc (.cells #[.string nJob] 9)).heap.size = w.heap.size + 3 := by simp [z2]
  generalize hW3 : W2.alloc (.cells #[.string nJob] 9) = W3 at *
  have b1 : Below w.heap.size w W1 := by rw [← hW1]; exact (Below.refl _ _).alloc (Nat.le_refl _) _
  have b2 : ∀ n, n ≤ w.heap.size + 1 → Below n W1 W2 := fun n hn => by rw [← hW2]; exact (Below.refl _ _).alloc (by omega) _
  have b3 : ∀ n, n ≤ w.heap.size + 2 → Below n W2 W3 := fun n hn => by rw [← hW3]; exact (Below.refl _ _).alloc (by omega) _
  have z : w.heap.size + 1 + 1 + 1 = W3.heap.size := by omega
  refine ⟨W3.heap.size, by rw [← z]; rfl, by simp, ?_, ((b1.trans (b2 _ (by omega))).trans (b3 _ (by omega))).alloc (by omega) _⟩
  generalize hV : W3.alloc (.cells _ 33) = V
  have b4 : ∀ n, n ≤ w.heap.size + 3 → Below n W3 V := fun n hn => by rw [← hV]; exact (Below.refl _ _).alloc (by omega) _
  have vz : V.heap.size = w.heap.size + 4 := by rw [← hV]; simp [z3]
  have m1 : MatAt V w.heap.size 0 [⟨1, nSev, bCrit⟩] := mat_new w V ⟨1, nSev, bCrit⟩ (by rw [hW1]; exact ((b2 _ (by omega)).trans (b3 _ (by omega))).trans (b4 _ (by omega)))
  have m2 : MatAt V (w.heap.size + 1) 0 [⟨1, nJob, bA⟩] := by
    have := mat_new W1 V ⟨1, nJob, bA⟩ (by rw [hW2]; exact (b3 _ (by omega)).trans (b4 _ (by omega)))
    rwa [z1] at this
  have s1 : V.cell? ⟨w.heap.size + 1 + 1, 0, none⟩ = some (.string nJob) := by
    have h1 := cell_new W2 9 #[.string nJob] 0 _ rfl
    rw [hW3, z2] at h1
    exact ((b4 _ (Nat.le_refl _)).cell (p := ⟨w.heap.size + 2, 0, none⟩) (by show w.heap.size + 2 < w.heap.size + 3; omega)).trans h1
  intro i r hr
  rcases i with _ | _ | _ | i
  · cases hr
    rw [← hV]
    exact ⟨.slice none 0 0, .slice none 0 0, .inl ⟨rfl, rfl⟩, .inl ⟨rfl, rfl⟩, cell_new W3 _ _ 0 _ rfl, cell_new W3 _ _ 1 _ rfl, cell_new W3 _ _ 2 _ rfl, cell_new W3 _ _ 3 _ rfl, cell_new W3 _ _ 4 _ rfl, cell_new W3 _ _ 5 _ rfl, cell_new W3 _ _ 6 _ rfl, cell_new W3 _ _ 7 _ rfl, cell_new W3 _ _ 8 _ rfl⟩
  · cases hr
    refine ⟨.slice (some ⟨w.heap.size, 0, none⟩) 1 1, .slice none 0 0, .inr ⟨w.heap.size, 1, rfl, by simp, Nat.le_refl _, by omega, m1⟩, .inl ⟨rfl, rfl⟩, ?_⟩
    rw [← hV]
    exact ⟨cell_new W3 _ _ 9 _ rfl, cell_new W3 _ _ 10 _ rfl, cell_new W3 _ _ 11 _ rfl, cell_new W3 _ _ 12 _ rfl, cell_new W3 _ _ 13 _ rfl, cell_new W3 _ _ 14 _ rfl, cell_new W3 _ _ 15 _ rfl, cell_new W3 _ _ 16 _ rfl, cell_new W3 _ _ 17 _ rfl⟩
  · cases hr
    refine ⟨.slice (some ⟨w.heap.size + 1, 0, none⟩) 1 1, .slice (some ⟨w.heap.size + 1 + 1, 0, none⟩) 1 1, .inr ⟨w.heap.size + 1, 1, rfl, by simp, by omega, by omega, m2⟩, .inr ⟨w.heap.size + 1 + 1, 1, rfl, by simp, by simp, by omega, by omega, fun j hj => ?_⟩, ?_⟩
    · have hj0 : j = 0 := by simp at hj; omega
      subst hj0
      exact s1
    · rw [← hV]
      exact ⟨cell_new W3 _ _ 18 _ rfl, cell_new W3 _ _ 19 _ rfl, cell_new W3 _ _ 20 _ rfl, cell_new W3 _ _ 21 _ rfl, cell_new W3 _ _ 22 _ rfl, cell_new W3 _ _ 23 _ rfl, cell_new W3 _ _ 24 _ rfl, cell_new W3 _ _ 25 _ rfl, cell_new W3 _ _ 26 _ rfl⟩
  · simp at hr

end Go.Proofs.YteemciknbiloiaaGreatDoor.Ih
