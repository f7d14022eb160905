/- Walks over layer 24: routes' lists cloned; copied; Right and Compile of lists that may be nil. -/
import Derived.Test.YteemciknbiloiaaGreatDoorRtE
namespace Go.Proofs.YteemciknbiloiaaGreatDoor.Ih
open Go.RowKit

attribute [local go_sem] run_store_one

/-- A list of matchers as it stands in a route: nil, or a row from B on. -/
def ClM (B : Nat) (w : World) (v : Value) (ms : List Mat) : Prop :=
  (ms = [] ∧ v = .slice none 0 0) ∨ ∃ g c, v = .slice (some ⟨g, 0, none⟩) ms.length c ∧ ms ≠ [] ∧ B ≤ g ∧ g < w.heap.size ∧ MatAt w g 0 ms

/-- A list of names as it stands in a route: nil, or a row from B on. -/
def ClS (B : Nat) (w : World) (v : Value) (ns : List ByteArray) : Prop :=
  (ns = [] ∧ v = .slice none 0 0) ∨ ∃ g c, v = .slice (some ⟨g, 0, none⟩) ns.length c ∧ ns ≠ [] ∧ ns.length ≤ c ∧ B ≤ g ∧ g < w.heap.size ∧ ∀ j, j < ns.length → w.cell? ⟨g, j, none⟩ = some (.string (ns.getD j ByteArray.empty))

theorem ClM.one {B : Nat} {w : World} {v : Value} {ms : List Mat} (h : ClM B w v ms) : v.oneCell' = true := by
  rcases h with ⟨_, rfl⟩ | ⟨g, c, rfl, _⟩ <;> rfl
theorem ClS.one {B : Nat} {w : World} {v : Value} {ns : List ByteArray} (h : ClS B w v ns) : v.oneCell' = true := by
  rcases h with ⟨_, rfl⟩ | ⟨g, c, rfl, _⟩ <;> rfl

theorem ClM.shape {B : Nat} {w : World} {v : Value} {ms : List Mat} (h : ClM B w v ms) : ∃ a n c, v = .slice a n c := by
  rcases h with ⟨_, rfl⟩ | ⟨g, c, rfl, _⟩ <;> exact ⟨_, _, _, rfl⟩
theorem ClS.shape {B : Nat} {w : World} {v : Value} {ns : List ByteArray} (h : ClS B w v ns) : ∃ a n c, v = .slice a n c := by
  rcases h with ⟨_, rfl⟩ | ⟨g, c, rfl, _⟩ <;> exact ⟨_, _, _, rfl⟩

/-- What lies from B on may be looked at alone. -/
theorem ClM.up {B : Nat} {w w' : World} {v : Value} {ms : List Mat} (h : ClM B w v ms) (hs : w.heap.size ≤ w'.heap.size) (e : ∀ k, B ≤ k → k < w.heap.size → w'.heap[k]? = w.heap[k]?) : ClM B w' v ms := by
  rcases h with h | ⟨g, c, rfl, h0, h1, h2, h3⟩
  · exact .inl h
  · refine .inr ⟨g, c, rfl, h0, h1, by omega, fun i x hx => ?_⟩
    have q : ∀ k, w'.cell? ⟨g, k, none⟩ = w.cell? ⟨g, k, none⟩ := fun k => World.cell?_of_block (w := w) (a := ⟨g, k, none⟩) (e g h1 h2)
    have := h3 i x hx
    simpa only [q] using this
theorem ClS.up {B : Nat} {w w' : World} {v : Value} {ns : List ByteArray} (h : ClS B w v ns) (hs : w.heap.size ≤ w'.heap.size) (e : ∀ k, B ≤ k → k < w.heap.size → w'.heap[k]? = w.heap[k]?) : ClS B w' v ns := by
  rcases h with h | ⟨g, c, rfl, h0, h00, h1, h2, h3⟩
  · exact .inl h
  · exact .inr ⟨g, c, rfl, h0, h00, h1, by omega, fun j hj => (World.cell?_of_block (w := w) (a := ⟨g, j, none⟩) (e g h1 h2)).trans (h3 j hj)⟩
theorem ClM.below {B : Nat} {w w' : World} {v : Value} {ms : List Mat} (h : ClM B w v ms) (hb : Below w.heap.size w w') : ClM B w' v ms := h.up hb.size (fun k _ h2 => hb.block k h2)
theorem ClS.below {B : Nat} {w w' : World} {v : Value} {ns : List ByteArray} (h : ClS B w v ns) (hb : Below w.heap.size w w') : ClS B w' v ns := h.up hb.size (fun k _ h2 => hb.block k h2)
theorem ClM.mono {B B' : Nat} {w : World} {v : Value} {ms : List Mat} (h : ClM B w v ms) (hb : B' ≤ B) : ClM B' w v ms := by
  rcases h with h | ⟨g, c, rfl, h0, h1, h2⟩
  · exact .inl h
  · exact .inr ⟨g, c, rfl, h0, by omega, h2⟩
theorem ClS.mono {B B' : Nat} {w : World} {v : Value} {ns : List ByteArray} (h : ClS B w v ns) (hb : B' ≤ B) : ClS B' w v ns := by
  rcases h with h | ⟨g, c, rfl, h0, h00, h1, h2⟩
  · exact .inl h
  · exact .inr ⟨g, c, rfl, h0, h00, by omega, h2⟩

theorem rights_nil (w : World) : Calls Tryz.prog 59 #[.slice none 0 0] w (fun e w' => e = .returned (.tuple #[.int .i64 0, .int .i64 0]) ∧ Below w.heap.size w w') := by
  go_enter Tryz.func59, Tryz.ntmps59
  go_wp2_with fail
  refine wp_loop_rounds 1 ?_
  rw [rounds_succ]
  go_wp2_with fail
  go_ret2
  exact ⟨rfl, Below.refl _ _⟩

theorem compile_nil (w : World) : Calls Tryz.prog 44 #[.slice none 0 0] w (fun e w' => ∃ xb v bs, e = .returned (.tuple #[.pointer (some ⟨xb, 0, none⟩), .int .i64 0, .int .i64 0]) ∧ Below w.heap.size w w' ∧ LsNew w' xb v bs [] w.heap.size) := by
  go_enter Tryz.func44, Tryz.ntmps44
  go_wp2_with fail
  refine (rights_nil w).mono ?_
  rintro e w1 ⟨rfl, hb1⟩
  have HB1 := Lib.hid hb1
  have hz1 := hb1.size
  have HW : Hid (∀ W, W = w1.alloc (.cells #[.slice none 0 0] 130) → Below w.heap.size w W ∧ LsNew W w1.heap.size (.slice none 0 0) [] [] w.heap.size) := by
    rintro W rfl
    refine ⟨HB1.out.trans ((Below.refl _ _).alloc hz1 _), ⟨by simp, by simp, World.ownsRow_nil _ _ _ _, rfl, fun i b m h => by simp at h, hz1, by simp, by simp, by simp, by simp [Value.ownBlock], by simp, by simp⟩⟩
  clear hb1
  go_wp2_with fail
  refine wp_loop_rounds 1 ?_
  rw [rounds_succ]
  go_wp2_with fail
  go_ret3
  exact ⟨_, _, _, rfl, (HW.out _ rfl).1, (HW.out _ rfl).2⟩

/-- Right of a route's list. -/
theorem rights_cl (w : World) (B : Nat) (v : Value) (ms : List Mat) (hT : Lib.Utf8Tabs 0 1 w) (h2 : 2 ≤ w.heap.size) (h : ClM B w v ms) (hln : ms.length ≤ 16) (hok : ∀ x, x ∈ ms → x.Good) :
    Calls Tryz.prog 59 #[v] w (fun e w' => e = .returned (.tuple #[.int .i64 0, .int .i64 0]) ∧ Below w.heap.size w w') := by
  rcases h with ⟨_, rfl⟩ | ⟨g, c, rfl, _, _, hlt, hm⟩
  · exact rights_nil w
  · exact rights_g w g 0 c ms hT h2 hm hlt hln hok

theorem compile_cl (w : World) (B : Nat) (v : Value) (ms : List Mat) (hT : Lib.Utf8Tabs 0 1 w) (h2 : 2 ≤ w.heap.size) (h : ClM B w v ms) (hln : ms.length ≤ 16) (hok : ∀ x, x ∈ ms → x.Good) :
    Calls Tryz.prog 44 #[v] w (fun e w' => ∃ xb v bs, e = .returned (.tuple #[.pointer (some ⟨xb, 0, none⟩), .int .i64 0, .int .i64 0]) ∧ Below w.heap.size w w' ∧ LsNew w' xb v bs ms w.heap.size) := by
  rcases h with ⟨rfl, rfl⟩ | ⟨g, c, rfl, _, _, hlt, hm⟩
  · exact compile_nil w
  · exact compile_g w g 0 c ms hT h2 hm hlt hln hok

end Go.Proofs.YteemciknbiloiaaGreatDoor.Ih
