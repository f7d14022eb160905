/- Walks over layer 4's values, right label sets, Get. -/
import Derived.Test.YteemciknbiloiaaGreatDoorIhA
import Derived.Test.YteemciknbiloiaaGreatDoorShelfV
import Derived.BigQuiet
namespace Go.Proofs.YteemciknbiloiaaGreatDoor.Ih
open Go.RowKit

theorem name_any (w : World) (s : ByteArray) (hs : s.size ≤ 140737488355328) :
    Calls Tryz.prog 22 #[.string s] w (fun e w' => e = .returned (.bool (namedB s 64 false)) ∧ Below w.heap.size w w') := by
  go_enter Tryz.func22, Tryz.ntmps22
  go_wp2_with fail
  refine (named_any w s 64 false hs).mono ?_
  rintro e w1 ⟨rfl, hb⟩
  have HB := Lib.hid hb
  clear hb
  go_wp2_with fail
  go_ret
  exact ⟨rfl, HB.out⟩

def ValueOk (s : ByteArray) : Prop := 0 < s.size ∧ s.size ≤ 256 ∧ Lib.validD s.data.toList = true

theorem toList_ne {s : ByteArray} (h : 0 < s.size) : ¬ s.toList = [] := by
  rw [Lib.toList_data]
  intro h1
  rw [Lib.size_eq, h1] at h
  simp at h

abbrev Lab := ByteArray × ByteArray
def LabAt (w : World) (b off : Nat) (l : List Lab) : Prop :=
  ∀ i x, l[i]? = some x → w.cell? ⟨b, off + i * 2, none⟩ = some (.string x.1) ∧ w.cell? ⟨b, off + i * 2 + 1, none⟩ = some (.string x.2)

theorem LabAt.below {w w' : World} {b off : Nat} {l : List Lab} (h : LabAt w b off l) (hb : Below w.heap.size w w') (hlt : b < w.heap.size) : LabAt w' b off l := fun i x hx =>
  ⟨(hb.cell (p := ⟨b, off + i * 2, none⟩) hlt).trans (h i x hx).1, (hb.cell (p := ⟨b, off + i * 2 + 1, none⟩) hlt).trans (h i x hx).2⟩

set_option maxHeartbeats 1000000 in
theorem get_any (w : World) (b off c : Nat) (l : List Lab) (name : ByteArray) (hl : LabAt w b off l) (hlt : b < w.heap.size) (hln : l.length ≤ 1000000) :
    Calls Tryz.prog 26 #[.slice (some ⟨b, off, none⟩) l.length c, .string name] w (fun e w' => e = .returned (.string (((l.find? (fun x => x.1.toList == name.toList)).map (·.2)).getD ⟨#[]⟩)) ∧ Below w.heap.size w w') := by
  obtain ⟨ans, hans⟩ : ∃ a, (((l.find? (fun x => x.1.toList == name.toList)).map (·.2)).getD ⟨#[]⟩) = a := ⟨_, rfl⟩
  rw [hans]
  have HL := Lib.hid hl
  have HA := Lib.hid hans
  clear hl hans
  go_enter Tryz.func26, Tryz.ntmps26
  go_wp2_with fail
  go_loopg [9] l.length (fun g i wr => ∃ k, k + g = l.length ∧ i = .int .i64 k ∧ Below w.heap.size w wr ∧ (((l.drop k).find? (fun x => x.1.toList == name.toList)).map (·.2)).getD ⟨#[]⟩ = ans)
  case atStart => exact ⟨0, by omega, rfl, Below.refl _ _, by simpa using HA.out⟩
  case round =>
    obtain ⟨k, hkg, rfl, hb, han⟩ := hrel
    have HB := Lib.hid hb
    have hsz := hb.size
    clear hb
    by_cases hlt2 : k < l.length
    · obtain ⟨x, hx⟩ : ∃ x, l[k]? = some x := ⟨_, List.getElem?_eq_getElem hlt2⟩
      have ⟨c1, c2⟩ := HL.out.below HB.out hlt k x hx
      have hdr : l.drop k = x :: l.drop (k + 1) := by
        rw [List.drop_eq_getElem_cons hlt2]
        congr
        rw [List.getElem?_eq_getElem hlt2] at hx
        exact Option.some.inj hx
      rw [hdr] at han
      have HAN := Lib.hid han
      have hw1 : IntKind.i64.wrap ((k : Int) + 1) = (k : Int) + 1 := by rw [IntKind.wrap_i64] <;> omega
      obtain ⟨n, v⟩ := x
      clear hx hdr han
      simp only at c1 c2
      have hcas : (n.toList == name.toList) = true ∧ ans = v ∨ (n.toList == name.toList) = false ∧ (((l.drop (k + 1)).find? (fun x => x.1.toList == name.toList)).map (·.2)).getD ⟨#[]⟩ = ans := by
        have h1 := HAN.out
        cases hq : (n.toList == name.toList) with
        | true => rw [List.find?_cons_of_pos (by simpa using hq)] at h1; exact .inl ⟨rfl, h1.symm⟩
        | false => rw [List.find?_cons_of_neg (by simpa using hq)] at h1; exact .inr ⟨rfl, h1⟩
      have HC := Lib.hid hcas
      clear hcas HAN
      obtain ⟨q, hq⟩ : ∃ q, (n.toList == name.toList) = q := ⟨_, rfl⟩
      cases q with
      | true =>
        have hav : ans = v := HC.out.elim (fun h => h.2) (fun h => by rw [hq] at h; cases h.1)
        subst hav
        go_wp2_with fail
        go_ret
        exact ⟨rfl, HB.out.trans ((Below.refl _ _).alloc hsz _)⟩
      | false =>
        have hav := HC.out.elim (fun h => by rw [hq] at h; cases h.1) (fun h => h.2)
        have HAV := Lib.hid hav
        clear hav HC
        go_wp2_with fail
        go_roundg (gk - 1)
        case measure => omega
        case rel => exact ⟨k + 1, by omega, by simp, HB.out.trans ((Below.refl _ _).alloc hsz _), HAV.out⟩
    · obtain rfl : gk = 0 := by omega
      rw [List.drop_of_length_le (by omega)] at han
      obtain rfl : ans = ⟨#[]⟩ := by rw [← han]; rfl
      go_wp2_with fail
      go_ret
      exact ⟨rfl, HB.out⟩

def LabOk (x : Lab) : Prop := namedB x.1 64 false = true ∧ x.1.size ≤ 64 ∧ ValueOk x.2

end Go.Proofs.YteemciknbiloiaaGreatDoor.Ih
