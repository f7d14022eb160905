/- Walks over layer 6's matcher: Right, Value, Labels, of a plain matcher, asked or not. -/
import Derived.Test.YteemciknbiloiaaGreatDoorIhF
namespace Go.Proofs.YteemciknbiloiaaGreatDoor.Ih
open Go.RowKit

/-- A plain matcher in memory, asked or not; its function value's variables lie from B on. -/
def MtS (w : World) (b : Nat) (op : Int) (n v : ByteArray) (B : Nat) : Prop :=
  b < w.heap.size ∧ ((∃ why says, MtAt w b op n v 0 0 why says) ∨ ∃ f, MtAt w b op n v 1 0 0 f ∧ Says w f op v B b)

def labGet (l : List Lab) (name : ByteArray) : ByteArray := (((l.find? (fun x => x.1.toList == name.toList)).map (·.2)).getD ⟨#[]⟩)

theorem MtS.name {w : World} {b B : Nat} {op : Int} {n v : ByteArray} (h : MtS w b op n v B) : w.cell? ⟨b, 1, none⟩ = some (.string n) :=
  h.2.elim (fun ⟨_, _, h⟩ => h.c1) (fun ⟨_, h, _⟩ => h.c1)

theorem MtS.below {w w' : World} {b B : Nat} {op : Int} {n v : ByteArray} (h : MtS w b op n v B) (hb : Below w.heap.size w w') : MtS w' b op n v B :=
  ⟨Nat.lt_of_lt_of_le h.1 hb.size, h.2.imp (fun ⟨y, f, k⟩ => ⟨y, f, k.like (hb.block b h.1) hb.size⟩) (fun ⟨f, k, s⟩ => ⟨f, k.like (hb.block b h.1) hb.size, s.but (.of hb)⟩)⟩

theorem right_any (w : World) (b B : Nat) (op : Int) (n v : ByteArray) (hT : Lib.Utf8Tabs 0 1 w) (h2 : 2 ≤ b) (hB : B ≤ w.heap.size) (h : MtS w b op n v B) (hm : MOk op n v) :
    Calls Tryz.prog 74 #[.pointer (some ⟨b, 0, none⟩)] w (fun e w' => e = .returned (.int .i64 0) ∧ But b w w' ∧ ∃ f, MtAt w' b op n v 1 0 0 f ∧ Says w' f op v B b) := by
  rcases h.2 with ⟨why, says, h⟩ | ⟨f, h, hs⟩
  · exact (right_first w b op n v why says hT h2 h hm).mono (fun e w' ⟨he, hb, f, h3, hs⟩ => ⟨he, hb, f, h3, hs.mono hB⟩)
  · exact (right_done w b op n v f h).mono (fun e w' ⟨he, hw⟩ => ⟨he, by rw [hw]; exact But.refl _ _, f, by rw [hw]; exact h, by rw [hw]; exact hs⟩)

set_option maxRecDepth 100000 in
theorem value_any (w : World) (b B : Nat) (op : Int) (n v x : ByteArray) (hT : Lib.Utf8Tabs 0 1 w) (h2 : 2 ≤ b) (hB : B ≤ w.heap.size) (h : MtS w b op n v B) (hm : MOk op n v) :
    Calls Tryz.prog 75 #[.pointer (some ⟨b, 0, none⟩), .string x] w (fun e w' => e = .returned (.bool (mSays op v x)) ∧ But b w w' ∧ MtS w' b op n v B) := by
  obtain ⟨r, hr⟩ : ∃ r, mSays op v x = r := ⟨_, rfl⟩
  rw [hr]
  have H := Lib.hid h
  have HM := Lib.hid hm
  have HT := Lib.hid hT
  clear h hm hT
  go_enter Tryz.func75, Tryz.ntmps75
  go_wp2_with fail
  refine (right_any w b B op n v HT.out h2 hB H.out HM.out).mono ?_
  rintro e w1 ⟨rfl, hb, f, h3, hs⟩
  have c0 := h3.c0
  have c7 := h3.c7
  have HB := Lib.hid hb
  have HS := Lib.hid (And.intro h3.lt (Or.inr ⟨f, h3, hs⟩) : MtS w1 b op n v B)
  have hs' := hs
  obtain ⟨m, t, rfl, _⟩ := hs'
  have HSY := Lib.hid hs
  clear hb h3 hs
  go_wp2_with fail
  refine (says_any w1 _ op v x B b HSY.out m t rfl).mono ?_
  rintro e w2 ⟨rfl, rfl⟩
  rw [hr]
  clear hr
  cases r <;> (go_wp2_with fail; go_ret; exact ⟨rfl, HB.out, HS.out⟩)

set_option maxRecDepth 100000 in
theorem labels_any (w : World) (b B : Nat) (op : Int) (n v : ByteArray) (lb lo c : Nat) (l : List Lab) (hl : LabAt w lb lo l) (hlt : lb < w.heap.size) (hln : l.length ≤ 1000000) (hT : Lib.Utf8Tabs 0 1 w) (h2 : 2 ≤ b) (hB : B ≤ w.heap.size) (h : MtS w b op n v B) (hm : MOk op n v) :
    Calls Tryz.prog 61 #[.pointer (some ⟨b, 0, none⟩), .slice (some ⟨lb, lo, none⟩) l.length c] w (fun e w' => e = .returned (.bool (mSays op v (labGet l n))) ∧ But b w w' ∧ MtS w' b op n v B) := by
  have c1 := h.name
  have H := Lib.hid h
  have HM := Lib.hid hm
  have HT := Lib.hid hT
  have HL := Lib.hid hl
  clear h hm hT hl
  go_enter Tryz.func61, Tryz.ntmps61
  go_wp2_with fail
  refine (get_any w lb lo c l n HL.out hlt hln).mono ?_
  rintro e w1 ⟨rfl, hb1⟩
  rw [show ((l.find? (fun x => x.1.toList == n.toList)).map (·.2)).getD ⟨#[]⟩ = labGet l n from rfl]
  have HB1 := Lib.hid hb1
  have HS1 := Lib.hid (H.out.below hb1)
  have hz1 := hb1.size
  clear hb1 c1
  obtain ⟨x, hx⟩ : ∃ x, labGet l n = x := ⟨_, rfl⟩
  rw [hx]
  obtain ⟨r, hr⟩ : ∃ r, mSays op v x = r := ⟨_, rfl⟩
  go_wp2_with fail
  refine (value_any w1 b B op n v x (Utf8Tabs_below HT.out HB1.out) h2 (by omega) HS1.out HM.out).mono ?_
  rintro e w2 ⟨rfl, hb2, h3⟩
  have HB2 := Lib.hid ((But.of HB1.out).trans hb2 : But b w w2)
  have H3 := Lib.hid h3
  clear hb2 h3
  rw [hr]
  go_wp2_with fail
  cases r <;> (go_wp2_with fail; go_ret; exact ⟨by rw [hx, hr]; rfl, HB2.out, H3.out⟩)

end Go.Proofs.YteemciknbiloiaaGreatDoor.Ih
