/- Walks over layer 4's values and right label sets. -/
import Derived.Test.YteemciknbiloiaaGreatDoorIhB
namespace Go.Proofs.YteemciknbiloiaaGreatDoor.Ih
open Go.RowKit

theorem value_ok (w : World) (s : ByteArray) (hT : Lib.Utf8Tabs 0 1 w) (h : ValueOk s) :
    Calls Tryz.prog 23 #[.string s] w (fun e w' => e = .returned (.int .i64 0) ∧ Below w.heap.size w w') := by
  obtain ⟨h1, h2, h3⟩ := h
  have htl := toList_ne h1
  have hie : s.toList.isEmpty = false := by rw [List.isEmpty_eq_false_iff]; exact htl
  have HT := Lib.hid hT
  clear hT
  go_enter Tryz.func23, Tryz.ntmps23
  go_wp2_with fail
  refine (Tryz.utf8_ValidString s w (by omega) HT.out).mono ?_
  rintro e w1 ⟨rfl, hb⟩
  rw [h3]
  have HB := Lib.hid hb
  clear hb
  go_wp2_with fail
  go_ret
  exact ⟨rfl, HB.out⟩

set_option maxHeartbeats 2000000 in
theorem right_ok (w : World) (b off c : Nat) (l : List Lab) (hT : Lib.Utf8Tabs 0 1 w) (hl : LabAt w b off l) (hlt : b < w.heap.size) (hln : l.length ≤ 16)
    (hok : ∀ x, x ∈ l → LabOk x) (hso : ∀ i x y, l[i]? = some x → l[i + 1]? = some y → Op.bytesLess y.1.toList x.1.toList = false ∧ (y.1.toList == x.1.toList) = false) :
    Calls Tryz.prog 10 #[.slice (some ⟨b, off, none⟩) l.length c] w (fun e w' => e = .returned (.tuple #[.int .i64 0, .int .i64 0]) ∧ Below w.heap.size w w') := by
  have HL := Lib.hid hl
  have HOK := Lib.hid hok
  have HSO := Lib.hid hso
  have HT := Lib.hid hT
  clear hl hok hso hT
  go_enter Tryz.func10, Tryz.ntmps10
  go_wp2_with fail
  go_loopg [12] l.length (fun g i wr => ∃ k, k + g = l.length ∧ i = .int .i64 k ∧ Below w.heap.size w wr)
  case atStart => exact ⟨0, by omega, rfl, Below.refl _ _⟩
  case round =>
    obtain ⟨k, hkg, rfl, hb⟩ := hrel
    have HB := Lib.hid hb
    have hsz := hb.size
    clear hb
    by_cases hlt2 : k < l.length
    · obtain ⟨x, hx⟩ : ∃ x, l[k]? = some x := ⟨_, List.getElem?_eq_getElem hlt2⟩
      have ⟨c1, c2⟩ := HL.out.below HB.out hlt k x hx
      have ⟨o1, o2, o3⟩ := HOK.out x (List.mem_of_getElem? hx)
      have HX := Lib.hid hx
      have HV := Lib.hid o3
      have hw1 : IntKind.i64.wrap ((k : Int) + 1) = (k : Int) + 1 := by rw [IntKind.wrap_i64] <;> omega
      have hbn : ¬ b = wr.heap.size := by omega
      obtain ⟨n, v⟩ := x
      simp only at c1 c2 o1 o2
      clear hx o3
      have hW : Hid (∀ W, W = wr.alloc (.cells #[.string n, .string v] 56) → Below wr.heap.size wr W ∧ W.heap.size = wr.heap.size + 1 ∧ W.cell? ⟨wr.heap.size, 0, none⟩ = some (.string n) ∧ W.cell? ⟨wr.heap.size, 1, none⟩ = some (.string v)) := by
        rintro W rfl
        exact ⟨(Below.refl _ _).alloc (Nat.le_refl _) _, by simp, by simp, by simp⟩
      go_wp2_with fail
      generalize hWe : wr.alloc (.cells #[.string n, .string v] 56) = W at *
      obtain ⟨hbW, hszW, d1, d2⟩ := hW.out W rfl
      clear hW hWe c1 c2
      have HBW := Lib.hid hbW
      clear hbW
      refine (name_any W n (by omega)).mono ?_
      rintro e w2 ⟨rfl, hb2⟩
      rw [o1]
      have HB2 := Lib.hid (HBW.out.trans (hb2.mono (by omega)))
      have e2 : w2.cell? ⟨wr.heap.size, 1, none⟩ = some (.string v) := (hb2.cell (p := ⟨wr.heap.size, 1, none⟩) (by show wr.heap.size < W.heap.size; omega)).trans d2
      have e1 : w2.cell? ⟨wr.heap.size, 0, none⟩ = some (.string n) := (hb2.cell (p := ⟨wr.heap.size, 0, none⟩) (by show wr.heap.size < W.heap.size; omega)).trans d1
      have hsz2 := hb2.size
      clear hb2 d1 d2
      go_wp2_with fail
      refine (value_ok w2 v (Utf8Tabs_below HT.out (HB.out.trans (HB2.out.mono hsz))) HV.out).mono ?_
      rintro e w3 ⟨rfl, hb3⟩
      have HB3 := Lib.hid (HB.out.trans ((HB2.out.trans (hb3.mono (by omega))).mono hsz))
      have f1 : w3.cell? ⟨wr.heap.size, 0, none⟩ = some (.string n) := (hb3.cell (p := ⟨wr.heap.size, 0, none⟩) (by show wr.heap.size < w2.heap.size; omega)).trans e1
      clear hb3 e1 e2
      go_wp2_with fail
      by_cases hk0 : k = 0
      · subst hk0
        go_quiet (fail)
        go_wp2_with fail
        go_roundg (gk - 1)
        case measure => omega
        case rel => exact ⟨1, by omega, rfl, below_drewNv HB3.out _⟩
      · obtain ⟨k', rfl⟩ : ∃ k', k = k' + 1 := ⟨k - 1, by omega⟩
        obtain ⟨y, hy⟩ : ∃ y, l[k']? = some y := ⟨_, List.getElem?_eq_getElem (by omega)⟩
        have ⟨g1, _⟩ := HL.out.below HB3.out hlt k' y hy
        obtain ⟨yn, yv⟩ := y
        simp only at g1
        have hgt : (0 : Int) < ((k' + 1 : Nat) : Int) := by omega
        have hw2 : IntKind.i64.wrap (((k' + 1 : Nat) : Int) - 1) = (k' : Int) := by rw [IntKind.wrap_i64] <;> omega
        have hk'l : k' < l.length := by omega
        have ⟨s1, s2⟩ := HSO.out k' _ _ hy HX.out
        simp only at s1 s2
        clear hy HX
        go_quiet (fail)
        go_wp2_with fail
        go_roundg (gk - 1)
        case measure => omega
        case rel => exact ⟨k' + 2, by omega, by simp; omega, below_drewNv HB3.out _⟩
    · obtain rfl : gk = 0 := by omega
      go_wp2_with fail
      go_ret2
      exact ⟨rfl, HB.out⟩

end Go.Proofs.YteemciknbiloiaaGreatDoor.Ih
