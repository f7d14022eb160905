/- Walks over layer 24's law: awake, RouteNil. -/
import Derived.Test.YteemciknbiloiaaGreatDoorRtQ
namespace Go.Proofs.YteemciknbiloiaaGreatDoor.Ih
open Go.RowKit

attribute [local go_sem] run_store_one

theorem labs_at (W : World) : LabAt (W.alloc (.cells #[.string nJob, .string bA, .string nSev, .string bCrit] 56)) W.heap.size 0 lsA := by
  intro i x hx
  rcases i with _ | _ | i
  · cases hx
    exact ⟨cell_new W _ _ 0 _ rfl, cell_new W _ _ 1 _ rfl⟩
  · cases hx
    exact ⟨cell_new W _ _ 2 _ rfl, cell_new W _ _ 3 _ rfl⟩
  · simp at hx

set_option maxRecDepth 100000 in
set_option maxHeartbeats 1000000 in
theorem awake_route (w : World) (hT : Lib.Utf8Tabs 0 1 w) (h2 : 2 ≤ w.heap.size) :
    Calls Tryz.prog 9 #[] w (fun e w' => e = .returned (.bool true) ∧ Below w.heap.size w w') := by
  have HT := Lib.hid hT
  clear hT
  have hW : Hid (∀ X, X = w.alloc (.cells #[.string nJob, .string bA, .string nSev, .string bCrit] 56) → Below w.heap.size w X ∧ X.heap.size = w.heap.size + 1 ∧ LabAt X w.heap.size 0 lsA) := by
    rintro X rfl
    exact ⟨(Below.refl _ _).alloc (Nat.le_refl _) _, by simp, labs_at w⟩
  go_enter Tryz.func9, Tryz.ntmps9
  go_wp2_with fail
  generalize hXe : w.alloc (.cells #[.string ⟨#[106, 111, 98]⟩, .string ⟨#[97]⟩, .string ⟨#[115, 101, 118, 101, 114, 105, 116, 121]⟩, .string ⟨#[99, 114, 105, 116, 105, 99, 97, 108]⟩] 56) = X
  obtain ⟨hbX, hzX, hlX⟩ := hW.out X hXe.symm
  have HBX := Lib.hid hbX
  have HLX := Lib.hid hlX
  clear hW hXe hbX hlX
  refine (tree_ok X).mono ?_
  rintro e w1 ⟨b1, rfl, hb1l, hr1, hb1⟩
  have hz1 := hb1.size
  have HB1 := Lib.hid (HBX.out.trans (hb1.mono (by omega)))
  have HR1 := Lib.hid hr1
  have HL1 := Lib.hid (HLX.out.below hb1 (by omega))
  clear hb1 hr1 HLX HBX
  go_wp2_with fail
  refine (match_tree w1 b1 3 X.heap.size w.heap.size 2 (Utf8Tabs_below HT.out HB1.out) (by omega) HR1.out hb1l HL1.out (by omega)).mono ?_
  rintro e w2 ⟨ga, ca, rfl, hga, x0, x1, hb2⟩
  have hz2 := hb2.size
  have HB2 := Lib.hid (HB1.out.trans (hb2.mono (by omega)))
  have HL2 := Lib.hid (HL1.out.below hb2 (by omega))
  have HX2 := Lib.hid (And.intro x0 x1)
  clear hb2 x0 x1 HR1 HL1 HB1
  go_wp2_with fail
  refine (tree_ok w2).mono ?_
  rintro e w3 ⟨b3, rfl, hb3l, hr3, hb3⟩
  have hz3 := hb3.size
  have HB3 := Lib.hid (HB2.out.trans (hb3.mono (by omega)))
  have HR3 := Lib.hid hr3
  have HL3 := Lib.hid (HL2.out.below hb3 (by omega))
  have HX3 : Hid (w3.cell? ⟨ga, 0, none⟩ = some (.int .i64 1) ∧ w3.cell? ⟨ga, 1, none⟩ = some (.int .i64 2)) := Lib.hid ⟨(hb3.cell (p := ⟨ga, 0, none⟩) hga).trans HX2.out.1, (hb3.cell (p := ⟨ga, 1, none⟩) hga).trans HX2.out.2⟩
  clear hb3 hr3 HL2 HB2 HX2
  go_wp2_with fail
  refine (key_tree w3 b3 3 w2.heap.size w.heap.size 2 (Utf8Tabs_below HT.out HB3.out) (by omega) HR3.out hb3l HL3.out (by omega)).mono ?_
  rintro e w4 ⟨rfl, hb4⟩
  have hz4 := hb4.size
  have HB4 := Lib.hid (HB3.out.trans (hb4.mono (by omega)))
  have HX4 : Hid (w4.cell? ⟨ga, 0, none⟩ = some (.int .i64 1) ∧ w4.cell? ⟨ga, 1, none⟩ = some (.int .i64 2)) := Lib.hid ⟨(hb4.cell (p := ⟨ga, 0, none⟩) (by show ga < w3.heap.size; omega)).trans HX3.out.1, (hb4.cell (p := ⟨ga, 1, none⟩) (by show ga < w3.heap.size; omega)).trans HX3.out.2⟩
  clear hb4 HL3 HB3 HX3 HR3
  have hN : Hid (∀ Y, Y = w4.alloc (.cells #[.int .i64 1, .int .i64 2] 3) → Below w.heap.size w Y ∧ Y.cell? ⟨ga, 0, none⟩ = some (.int .i64 1) ∧ Y.cell? ⟨ga, 1, none⟩ = some (.int .i64 2) ∧ Y.cell? ⟨w4.heap.size, 0, none⟩ = some (.int .i64 1) ∧ Y.cell? ⟨w4.heap.size, 1, none⟩ = some (.int .i64 2)) := by
    rintro Y rfl
    have hA : Below w4.heap.size w4 (w4.alloc (.cells #[.int .i64 1, .int .i64 2] 3)) := (Below.refl _ _).alloc (Nat.le_refl _) _
    exact ⟨HB4.out.trans (hA.mono (by omega)), (hA.cell (p := ⟨ga, 0, none⟩) (by show ga < w4.heap.size; omega)).trans HX4.out.1, (hA.cell (p := ⟨ga, 1, none⟩) (by show ga < w4.heap.size; omega)).trans HX4.out.2, cell_new w4 _ _ 0 _ rfl, cell_new w4 _ _ 1 _ rfl⟩
  go_wp2_with fail
  generalize hYe : w4.alloc (.cells #[.int .i64 1, .int .i64 2] 3) = Y
  obtain ⟨hbY, a0, a1, b0, b1'⟩ := hN.out Y hYe.symm
  have HBY := Lib.hid hbY
  clear hN hYe hbY HX4 HB4
  refine (numbers_same Y ga w4.heap.size ca 2 1 2 a0 a1 b0 b1').mono ?_
  rintro e w5 ⟨rfl, n, rfl⟩
  go_wp2_with fail
  go_ret
  exact ⟨rfl, HBY.out.trans ⟨rfl, rfl, rfl, Nat.le_refl _, fun _ _ => rfl⟩⟩

theorem zero_new (w : World) : ZeroAt (w.alloc (.cells #[.int .i64 0, .string ⟨#[]⟩, .slice none 0 0, .slice none 0 0, .bool false, .int .i64 0, .int .i64 0, .int .i64 0, .bool false] 33)) w.heap.size := ⟨by simp, ⟨by simp, cell_new w _ _ 0 _ rfl, cell_new w _ _ 1 _ rfl, cell_new w _ _ 2 _ rfl, cell_new w _ _ 3 _ rfl, cell_new w _ _ 4 _ rfl, cell_new w _ _ 5 _ rfl, cell_new w _ _ 6 _ rfl, cell_new w _ _ 7 _ rfl, cell_new w _ _ 8 _ rfl, fun k => by simp⟩⟩

theorem ZeroAt.below {w w' : World} {g : Nat} (h : ZeroAt w g) (hb : Below w.heap.size w w') : ZeroAt w' g := ⟨Nat.lt_of_lt_of_le h.1 hb.size, h.2.like (hb.block _ h.1) hb.size⟩

theorem zero_three (w : World) {V : World} (hV : V = ((w.alloc (.cells #[.int .i64 0, .string ⟨#[]⟩, .slice none 0 0, .slice none 0 0, .bool false, .int .i64 0, .int .i64 0, .int .i64 0, .bool false] 33)).alloc (.cells #[.int .i64 0, .string ⟨#[]⟩, .slice none 0 0, .slice none 0 0, .bool false, .int .i64 0, .int .i64 0, .int .i64 0, .bool false] 33)).alloc (.cells #[.int .i64 0, .string ⟨#[]⟩, .slice none 0 0, .slice none 0 0, .bool false, .int .i64 0, .int .i64 0, .int .i64 0, .bool false] 33)) : Below w.heap.size w V ∧ ZeroAt V (w.heap.size + 1) ∧ ZeroAt V (w.heap.size + 1 + 1) := by
  subst hV
  have z1 : (w.alloc (.cells #[.int .i64 0, .string ⟨#[]⟩, .slice none 0 0, .slice none 0 0, .bool false, .int .i64 0, .int .i64 0, .int .i64 0, .bool false] 33)).heap.size = w.heap.size + 1 := by simp
  have hA := zero_new (w.alloc (.cells #[.int .i64 0, .string ⟨#[]⟩, .slice none 0 0, .slice none 0 0, .bool false, .int .i64 0, .int .i64 0, .int .i64 0, .bool false] 33))
  rw [z1] at hA
  generalize hW1 : w.alloc (.cells #[.int .i64 0, .string ⟨#[]⟩, .slice none 0 0, .slice none 0 0, .bool false, .int .i64 0, .int .i64 0, .int .i64 0, .bool false] 33) = W1 at *
  have z2 : (W1.alloc (.cells #[.int .i64 0, .string ⟨#[]⟩, .slice none 0 0, .slice none 0 0, .bool false, .int .i64 0, .int .i64 0, .int .i64 0, .bool false] 33)).heap.size = w.heap.size + 1 + 1 := by simp [z1]
  have hB := zero_new (W1.alloc (.cells #[.int .i64 0, .string ⟨#[]⟩, .slice none 0 0, .slice none 0 0, .bool false, .int .i64 0, .int .i64 0, .int .i64 0, .bool false] 33))
  rw [z2] at hB
  generalize hW2 : W1.alloc (.cells #[.int .i64 0, .string ⟨#[]⟩, .slice none 0 0, .slice none 0 0, .bool false, .int .i64 0, .int .i64 0, .int .i64 0, .bool false] 33) = W2 at *
  have b1 : Below w.heap.size w W1 := by rw [← hW1]; exact (Below.refl _ _).alloc (Nat.le_refl _) _
  have b2 : ∀ n, n ≤ W1.heap.size → Below n W1 W2 := fun n hn => by rw [← hW2]; exact (Below.refl _ _).alloc hn _
  have b3 : ∀ n, n ≤ W2.heap.size → Below n W2 (W2.alloc (.cells #[.int .i64 0, .string ⟨#[]⟩, .slice none 0 0, .slice none 0 0, .bool false, .int .i64 0, .int .i64 0, .int .i64 0, .bool false] 33)) := fun n hn => (Below.refl _ _).alloc hn _
  exact ⟨(b1.trans (b2 _ (by omega))).trans (b3 _ (by omega)), hA.below (b3 _ (Nat.le_refl _)), hB⟩

set_option maxRecDepth 100000 in
set_option maxHeartbeats 1000000 in
theorem law_routeNil (w : World) (s : Value) (i : Int) (hT : Lib.Utf8Tabs 0 1 w) (h2 : 2 ≤ w.heap.size) :
    Calls Tryz.prog 3 #[s, .int .i64 i] w (fun e w' => e = .returned (.bool true) ∧ Below w.heap.size w w') := by
  have HT := Lib.hid hT
  clear hT
  go_enter Tryz.func3, Tryz.ntmps3
  go_wp2_with fail
  refine (match_nil_tree w s).mono ?_
  rintro e w1 ⟨rfl, rfl⟩
  go_wp2_with fail
  refine (key_nil_tree w1 i s).mono ?_
  rintro e w2 ⟨rfl, hb2⟩
  have HB2 := Lib.hid hb2
  have hz2 := hb2.size
  clear hb2
  go_wp2_with fail
  refine (route_nil_tree w2 i).mono ?_
  rintro e w3 ⟨rfl, hb3⟩
  have hz3 := hb3.size
  have HB3 := Lib.hid (HB2.out.trans (hb3.mono (by omega)))
  clear hb3 HB2
  go_wp2_with fail
  generalize hVe : ((w3.alloc (.cells #[.int .i64 0, .string ⟨#[]⟩, .slice none 0 0, .slice none 0 0, .bool false, .int .i64 0, .int .i64 0, .int .i64 0, .bool false] 33)).alloc (.cells #[.int .i64 0, .string ⟨#[]⟩, .slice none 0 0, .slice none 0 0, .bool false, .int .i64 0, .int .i64 0, .int .i64 0, .bool false] 33)).alloc (.cells #[.int .i64 0, .string ⟨#[]⟩, .slice none 0 0, .slice none 0 0, .bool false, .int .i64 0, .int .i64 0, .int .i64 0, .bool false] 33) = V
  obtain ⟨hbV, hz1, hz2'⟩ := zero_three w3 hVe.symm
  have HBV := Lib.hid (HB3.out.trans (hbV.mono (by omega)))
  clear hVe hbV HB3
  refine (same_zero V _ _ 1 1 hz1 hz2').mono ?_
  rintro e w4 ⟨rfl, hb4⟩
  have hzV := HBV.out.size
  have hz4 := hb4.size
  have HB4 := Lib.hid (HBV.out.trans (hb4.mono (by omega)))
  clear hb4 hz1 hz2' HBV
  go_wp2_with fail
  refine (len_nil_tree w4).mono ?_
  rintro e w5 ⟨rfl, rfl⟩
  go_wp2_with fail
  refine (awake_route w5 (Utf8Tabs_below HT.out HB4.out) (by omega)).mono ?_
  rintro e w6 ⟨rfl, hb6⟩
  have HB6 := Lib.hid (HB4.out.trans (hb6.mono (by omega)))
  clear hb6 HB4
  go_wp2_with fail
  go_ret
  exact ⟨rfl, HB6.out⟩

end Go.Proofs.YteemciknbiloiaaGreatDoor.Ih
