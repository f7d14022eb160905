/- Walks over layer 6: New, Right of matchers. -/
import Derived.Test.YteemciknbiloiaaGreatDoorIhG
namespace Go.Proofs.YteemciknbiloiaaGreatDoor.Ih
open Go.RowKit

theorem fresh_at (X : World) (op : Int) (n v : ByteArray) : MtAt (X.alloc (Obj.cells #[Value.int IntKind.i64 op, Value.string n, Value.string v, Value.int IntKind.u32 0, Value.int IntKind.i32 0, Value.int IntKind.u32 0, Value.int IntKind.i64 0, Value.nilFunc] 148)) X.heap.size op n v 0 0 0 Value.nilFunc :=
  ⟨by simp, by simp, by simp, by simp, by simp, by simp, by simp, by simp, fun k => by simp⟩

set_option maxRecDepth 100000 in
theorem new_any (w : World) (op : Int) (n v : ByteArray) :
    Calls Tryz.prog 60 #[.agg #[.int .i64 op, .string n, .string v]] w (fun e w' => ∃ b, e = .returned (.pointer (some ⟨b, 0, none⟩)) ∧ w.heap.size ≤ b ∧ Below w.heap.size w w' ∧ ∃ says, MtAt w' b op n v 0 0 0 says) := by
  go_enter Tryz.func60, Tryz.ntmps60
  go_wp2_with fail
  go_ret
  have hz : (w.alloc (Obj.cells #[Value.int IntKind.i64 op, Value.string n, Value.string v] 71)).heap.size = w.heap.size + 1 := by simp
  refine ⟨w.heap.size + 1, rfl, by omega, ((Below.refl _ _).alloc (Nat.le_refl _) _).alloc (by omega) _, Value.nilFunc, ?_⟩
  have := fresh_at (w.alloc (Obj.cells #[Value.int IntKind.i64 op, Value.string n, Value.string v] 71)) op n v
  rwa [hz] at this

structure Mat where
  op : Int
  n : ByteArray
  v : ByteArray

def Mat.Ok (m : Mat) : Prop := MOk m.op m.n m.v

def MatAt (w : World) (b off : Nat) (l : List Mat) : Prop :=
  ∀ i x, l[i]? = some x → w.cell? ⟨b, off + i * 3, none⟩ = some (.int .i64 x.op) ∧ w.cell? ⟨b, off + i * 3 + 1, none⟩ = some (.string x.n) ∧ w.cell? ⟨b, off + i * 3 + 2, none⟩ = some (.string x.v)

theorem MatAt.below {w w' : World} {b off : Nat} {l : List Mat} (h : MatAt w b off l) (hb : Below w.heap.size w w') (hlt : b < w.heap.size) : MatAt w' b off l := fun i x hx =>
  ⟨(hb.cell (p := ⟨b, off + i * 3, none⟩) hlt).trans (h i x hx).1, (hb.cell (p := ⟨b, off + i * 3 + 1, none⟩) hlt).trans (h i x hx).2.1, (hb.cell (p := ⟨b, off + i * 3 + 2, none⟩) hlt).trans (h i x hx).2.2⟩

set_option maxHeartbeats 2000000 in
theorem rights_ok (w : World) (b off c : Nat) (l : List Mat) (hT : Lib.Utf8Tabs 0 1 w) (h2 : 2 ≤ w.heap.size) (hl : MatAt w b off l) (hlt : b < w.heap.size) (hln : l.length ≤ 16) (hok : ∀ x, x ∈ l → x.Ok) :
    Calls Tryz.prog 59 #[.slice (some ⟨b, off, none⟩) l.length c] w (fun e w' => e = .returned (.tuple #[.int .i64 0, .int .i64 0]) ∧ Below w.heap.size w w') := by
  have HL := Lib.hid hl
  have HOK := Lib.hid hok
  have HT := Lib.hid hT
  clear hl hok hT
  go_enter Tryz.func59, Tryz.ntmps59
  go_wp2_with fail
  go_loopg [12] l.length (fun g i wr => ∃ k, k + g = l.length ∧ i = .int .i64 k ∧ Below w.heap.size w wr)
  case atStart => exact ⟨0, by omega, rfl, Below.refl _ _⟩
  case round =>
    obtain ⟨k, hkg, rfl, hb⟩ := hrel
    have HB := Lib.hid hb
    have hsz := hb.size
    clear hb
    by_cases hlt2 : k < l.length
    · obtain ⟨x, hx⟩ : ∃ x, l[k]? = some x := ⟨_, List.getElem?_eq_getElem hlt2⟩
      have ⟨c1, c2, c3⟩ := HL.out.below HB.out hlt k x hx
      have o := HOK.out x (List.mem_of_getElem? hx)
      have hw1 : IntKind.i64.wrap ((k : Int) + 1) = (k : Int) + 1 := by rw [IntKind.wrap_i64] <;> omega
      have hbn : ¬ b = wr.heap.size := by omega
      obtain ⟨op, n, v⟩ := x
      have HO : Hid (MOk op n v) := Lib.hid o
      simp only at c1 c2 c3
      clear hx o
      have hW : Hid (∀ W, W = wr.alloc (.cells #[.int .i64 op, .string n, .string v] 71) → Below wr.heap.size wr W ∧ W.heap.size = wr.heap.size + 1) := by
        rintro W rfl
        exact ⟨(Below.refl _ _).alloc (Nat.le_refl _) _, by simp⟩
      go_wp2_with fail
      generalize hWe : wr.alloc (.cells #[.int .i64 op, .string n, .string v] 71) = W at *
      obtain ⟨hbW, hszW⟩ := hW.out W rfl
      clear hW hWe c1 c2 c3
      have HBW := Lib.hid hbW
      clear hbW
      refine (new_any W op n v).mono ?_
      rintro e w2 ⟨mb, rfl, hmb, hb2, says, hmt⟩
      have HB2 := Lib.hid (HB.out.trans ((HBW.out.trans (hb2.mono (by omega))).mono hsz))
      have HMT := Lib.hid (And.intro hmt.lt (Or.inl ⟨_, _, hmt⟩) : MtS w2 mb op n v 0)
      have hsz2 := hb2.size
      clear hb2 hmt
      go_wp2_with fail
      refine (right_any w2 mb 0 op n v (Utf8Tabs_below HT.out HB2.out) (by omega) (by omega) HMT.out HO.out).mono ?_
      rintro e w3 ⟨rfl, hb3, _⟩
      have HB3 := Lib.hid (HB2.out.trans (hb3.below (B := w.heap.size) (by omega) (by omega)))
      clear hb3
      go_wp2_with fail
      go_roundg (gk - 1)
      case measure => omega
      case rel => exact ⟨k + 1, by omega, by simp, HB3.out⟩
    · obtain rfl : gk = 0 := by omega
      go_wp2_with fail
      go_ret2
      exact ⟨rfl, HB.out⟩

end Go.Proofs.YteemciknbiloiaaGreatDoor.Ih
