/- Walks over layer 6: a compiled list of one matcher asked; layer 23: names, right. -/
import Derived.Test.YtjojhlkbcjhonaaDoorIhI
namespace Go.Proofs.YtjojhlkbcjhonaaDoor.Ih
open Go.RowKit

theorem MtS.but {w w' : World} {b B k : Nat} {op : Int} {n v : ByteArray} (h : MtS w b op n v B) (hb : But k w w') (hk : k < B) (hne : k ≠ b) : MtS w' b op n v B := by
  have hbk : w'.heap[b]? = w.heap[b]? := hb.block b h.1 (fun e => hne e.symm)
  refine ⟨Nat.lt_of_lt_of_le h.1 hb.size, h.2.imp (fun ⟨y, f, q⟩ => ⟨y, f, q.like hbk hb.size⟩) (fun ⟨f, q, s⟩ => ⟨f, q.like hbk hb.size, ?_⟩)⟩
  obtain ⟨m, t, hf, h1, h2, h3, h4, h5, h6, h7, h8⟩ := s
  exact ⟨m, t, hf, h1, h2, h3, h4, Nat.lt_of_lt_of_le h5 hb.size, Nat.lt_of_lt_of_le h6 hb.size, (hb.cell (p := ⟨m, 2, none⟩) h5 (by show m ≠ k; omega)).trans h7, (hb.cell (p := ⟨t, 0, none⟩) h6 (by show t ≠ k; omega)).trans h8⟩

theorem ListAt.but {w w' : World} {xb gb mb k B : Nat} {m : Mat} (h : ListAt w xb gb mb m B) (hb : But k w w') (hk : k < B) (h1 : k ≠ xb) (h2 : k ≠ gb) (h3 : k ≠ mb) : ListAt w' xb gb mb m B where
  cell := h.cell.imp fun _ c => (hb.cell (p := ⟨xb, 0, none⟩) (Nat.lt_of_lt_of_le h.lt1 h.le) (fun e => h1 e.symm)).trans c
  row := (hb.cell (p := ⟨gb, 0, none⟩) (Nat.lt_of_lt_of_le h.lt2 h.le) (fun e => h2 e.symm)).trans h.row
  mt := h.mt.but hb hk h3
  lt1 := h.lt1
  lt2 := h.lt2
  lt3 := h.lt3
  le := Nat.le_trans h.le hb.size
  ne1 := h.ne1
  ne2 := h.ne2

theorem ListAt.below {w w' : World} {xb gb mb B : Nat} {m : Mat} (h : ListAt w xb gb mb m B) (hb : Below w.heap.size w w') : ListAt w' xb gb mb m B where
  cell := h.cell.imp fun _ c => (hb.cell (p := ⟨xb, 0, none⟩) (Nat.lt_of_lt_of_le h.lt1 h.le)).trans c
  row := (hb.cell (p := ⟨gb, 0, none⟩) (Nat.lt_of_lt_of_le h.lt2 h.le)).trans h.row
  mt := h.mt.below hb
  lt1 := h.lt1
  lt2 := h.lt2
  lt3 := h.lt3
  le := Nat.le_trans h.le hb.size
  ne1 := h.ne1
  ne2 := h.ne2

/-- Asked, its own matcher alone may have turned. -/
theorem ListAt.asked {w w' : World} {xb gb mb B : Nat} {m : Mat} (h : ListAt w xb gb mb m B) (hb : But mb w w') (hm : MtS w' mb m.op m.n m.v B) : ListAt w' xb gb mb m B where
  cell := h.cell.imp fun _ c => (hb.cell (p := ⟨xb, 0, none⟩) (Nat.lt_of_lt_of_le h.lt1 h.le) (fun e => h.ne1 e.symm)).trans c
  row := (hb.cell (p := ⟨gb, 0, none⟩) (Nat.lt_of_lt_of_le h.lt2 h.le) (fun e => h.ne2 e.symm)).trans h.row
  mt := hm
  lt1 := h.lt1
  lt2 := h.lt2
  lt3 := h.lt3
  le := Nat.le_trans h.le hb.size
  ne1 := h.ne1
  ne2 := h.ne2

/-- A list that is asked later: nothing but what is above B may be new. -/
theorem ListAt.up {w : World} {xb gb mb B B' : Nat} {m : Mat} (h : ListAt w xb gb mb m B) (hB : B ≤ B') (hle : B' ≤ w.heap.size) (hf : Fresh1 w mb m) : ListAt w xb gb mb m B' where
  cell := h.cell
  row := h.row
  mt := ⟨h.mt.1, .inl (hf.elim fun s k => ⟨0, s, k⟩)⟩
  lt1 := by have := h.lt1; omega
  lt2 := by have := h.lt2; omega
  lt3 := by have := h.lt3; omega
  le := hle
  ne1 := h.ne1
  ne2 := h.ne2

set_option maxRecDepth 100000 in
set_option maxHeartbeats 2000000 in
theorem list_labels (w : World) (xb gb mb B : Nat) (m : Mat) (lb lo c : Nat) (l : List Lab) (hl : LabAt w lb lo l) (hlt : lb < w.heap.size) (hln : l.length ≤ 1000000) (hT : Lib.Utf8Tabs 0 1 w) (h2 : 2 ≤ mb) (h : ListAt w xb gb mb m B) (hm : m.Ok) :
    Calls Tryd.prog 52 #[.pointer (some ⟨xb, 0, none⟩), .slice (some ⟨lb, lo, none⟩) l.length c] w (fun e w' => e = .returned (.bool (mSays m.op m.v (labGet l m.n))) ∧ But mb w w' ∧ ListAt w' xb gb mb m B) := by
  obtain ⟨r, hr⟩ : ∃ r, mSays m.op m.v (labGet l m.n) = r := ⟨_, rfl⟩
  rw [hr]
  obtain ⟨cap, c0⟩ := h.cell
  have c1 := h.row
  have H := Lib.hid h
  have HM := Lib.hid hm
  have HT := Lib.hid hT
  have HL := Lib.hid hl
  clear h hm hT hl
  go_enter Tryd.func52, Tryd.ntmps52
  go_wp2_with fail
  go_loopg [14] 1 (fun g i wr => (g = 1 ∧ i = .int .i64 0 ∧ wr = w) ∨ (g = 0 ∧ i = .int .i64 1 ∧ r = true ∧ But mb w wr ∧ ListAt wr xb gb mb m B))
  case atStart => exact .inl ⟨rfl, rfl, rfl⟩
  case round =>
    rcases hrel with ⟨rfl, rfl, rfl⟩ | ⟨rfl, rfl, rfl, hb, hL⟩
    · go_wp2_with fail
      refine (labels_any wr mb B m.op m.n m.v lb lo c l HL.out hlt hln HT.out h2 H.out.le H.out.mt HM.out).mono ?_
      rintro e w2 ⟨rfl, hb2, hm2⟩
      rw [hr]
      have HB2 := Lib.hid hb2
      have HL2 := Lib.hid (H.out.asked hb2 hm2)
      clear hb2 hm2
      cases r with
      | true =>
        go_wp2_with fail
        go_roundg 0
        case measure => omega
        case rel => exact .inr ⟨rfl, rfl, trivial, HB2.out, HL2.out⟩
      | false =>
        go_wp2_with fail
        go_ret
        exact ⟨rfl, HB2.out, HL2.out⟩
    · have HB := Lib.hid hb
      have HL2 := Lib.hid hL
      clear hb hL
      go_wp2_with fail
      go_ret
      exact ⟨rfl, HB.out, HL2.out⟩

end Go.Proofs.YtjojhlkbcjhonaaDoor.Ih
