/- Layer 6's matcher, plain ones alone: asked or not; Right, Value. -/
import Derived.Test.YteemciknbiloiaaGreatDoorIhG
import Derived.Test.YteemciknbiloiaaGreatDoorIhH
namespace Go.Proofs.YteemciknbiloiaaGreatDoor.Ih
open Go.RowKit

/-- What a plain matcher's function value is; nothing of it lies below B. -/
def SaysG (w : World) (f : Value) (op : Int) (v : ByteArray) (B : Nat) : Prop :=
  ∃ m t, f = .func (.func 92) #[] #[.pointer (some ⟨m, 0, none⟩), .pointer (some ⟨t, 0, none⟩)] ∧ B ≤ m ∧ B ≤ t ∧ m < w.heap.size ∧ t < w.heap.size ∧ w.cell? ⟨m, 2, none⟩ = some (.string v) ∧ w.cell? ⟨t, 0, none⟩ = some (.bool (op == 2))

theorem SaysG.of {w : World} {f : Value} {op : Int} {v : ByteArray} {B b : Nat} (h : Says w f op v B b) : SaysG w f op v B := by
  obtain ⟨m, t, hf, h1, h2, _, _, h5, h6, h7, h8⟩ := h
  exact ⟨m, t, hf, h1, h2, h5, h6, h7, h8⟩

theorem SaysG.up {w w' : World} {f : Value} {op : Int} {v : ByteArray} {B : Nat} (h : SaysG w f op v B) (e : ∀ k, B ≤ k → k < w.heap.size → w'.heap[k]? = w.heap[k]?) (hs : w.heap.size ≤ w'.heap.size) : SaysG w' f op v B := by
  obtain ⟨m, t, hf, h1, h2, h5, h6, h7, h8⟩ := h
  exact ⟨m, t, hf, h1, h2, Nat.lt_of_lt_of_le h5 hs, Nat.lt_of_lt_of_le h6 hs, (World.cell?_of_block (w := w) (a := ⟨m, 2, none⟩) (e m h1 h5)).trans h7, (World.cell?_of_block (w := w) (a := ⟨t, 0, none⟩) (e t h2 h6)).trans h8⟩

theorem SaysG.mono {w : World} {f : Value} {op : Int} {v : ByteArray} {B B' : Nat} (h : SaysG w f op v B) (hB : B' ≤ B) : SaysG w f op v B' := by
  obtain ⟨m, t, hf, h1, h2, h⟩ := h
  exact ⟨m, t, hf, by omega, by omega, h⟩

theorem SaysG.but {w w' : World} {f : Value} {op : Int} {v : ByteArray} {B b : Nat} (h : SaysG w f op v B) (hb : But b w w') (hB : b < B) : SaysG w' f op v B :=
  h.up (fun k h1 h2 => hb.block k h2 (by omega)) hb.size

abbrev GOk (op : Int) (n v : ByteArray) : Prop := MOk op n v
/-- What is wrong of a plain matcher that is right: nothing. -/
def rightP (_op : Int) (_n _v : ByteArray) : Int := 0
def SaidG (op : Int) (v x : ByteArray) (r : Bool) : Prop := r = mSays op v x

/-- A matcher in memory, asked or not; what its function value hangs on lies from B on. -/
def MtG (w : World) (b : Nat) (op : Int) (n v : ByteArray) (B : Nat) : Prop :=
  b < B ∧ B ≤ w.heap.size ∧ ((∃ why says, MtAt w b op n v 0 0 why says) ∨ ∃ f, MtAt w b op n v 1 0 0 f ∧ SaysG w f op v B)

theorem MtG.name {w : World} {b B : Nat} {op : Int} {n v : ByteArray} (h : MtG w b op n v B) : w.cell? ⟨b, 1, none⟩ = some (.string n) :=
  h.2.2.elim (fun ⟨_, _, h⟩ => h.c1) (fun ⟨_, h, _⟩ => h.c1)

/-- Another block below B may turn. -/
theorem MtG.but {w w' : World} {b B k : Nat} {op : Int} {n v : ByteArray} (h : MtG w b op n v B) (hb : But k w w') (hk : k < B) (hne : k ≠ b) : MtG w' b op n v B :=
  have hbk : w'.heap[b]? = w.heap[b]? := hb.block b (by have := h.1; have := h.2.1; omega) (fun e => hne e.symm)
  ⟨h.1, Nat.le_trans h.2.1 hb.size, h.2.2.imp (fun ⟨y, f, q⟩ => ⟨y, f, q.like hbk hb.size⟩) (fun ⟨f, q, s⟩ => ⟨f, q.like hbk hb.size, s.but hb hk⟩)⟩

theorem MtG.below {w w' : World} {b B : Nat} {op : Int} {n v : ByteArray} (h : MtG w b op n v B) (hb : Below w.heap.size w w') : MtG w' b op n v B :=
  ⟨h.1, Nat.le_trans h.2.1 hb.size, h.2.2.imp (fun ⟨y, f, q⟩ => ⟨y, f, q.like (hb.block b (by have := h.1; have := h.2.1; omega)) hb.size⟩) (fun ⟨f, q, s⟩ => ⟨f, q.like (hb.block b (by have := h.1; have := h.2.1; omega)) hb.size, s.up (fun k _ h2 => hb.block k h2) hb.size⟩)⟩

/-- Nobody has asked it yet: it may be asked later. -/
theorem MtG.fresh {w : World} {b B : Nat} {op : Int} {n v : ByteArray} {why : Int} {says : Value} (h : MtAt w b op n v 0 0 why says) (hb : b < B) (hB : B ≤ w.heap.size) : MtG w b op n v B := ⟨hb, hB, .inl ⟨_, _, h⟩⟩

theorem MtG.done {w : World} {b B : Nat} {op : Int} {n v : ByteArray} {f : Value} (hb : b < B) (hB : B ≤ w.heap.size) (h : MtAt w b op n v 1 0 0 f) (hs : SaysG w f op v B) : MtG w b op n v B := ⟨hb, hB, .inr ⟨f, h, hs⟩⟩

theorem right_g (w : World) (b B : Nat) (op : Int) (n v : ByteArray) (hT : Lib.Utf8Tabs 0 1 w) (h2 : 2 ≤ b) (h : MtG w b op n v B) (ho : GOk op n v) :
    Calls Tryz.prog 74 #[.pointer (some ⟨b, 0, none⟩)] w (fun e w' => e = .returned (.int .i64 (rightP op n v)) ∧ But b w w' ∧ ∃ f, MtAt w' b op n v 1 0 0 f ∧ SaysG w' f op v B) := by
  obtain ⟨hbB, hBw, ⟨why, says, h⟩ | ⟨f, h, hs⟩⟩ := h
  · exact (right_first w b op n v why says hT h2 h ho).mono (fun e w' ⟨he, hb, f, h3, hs⟩ => ⟨he, hb, f, h3, (SaysG.of hs).mono hBw⟩)
  · exact (right_done w b op n v f h).mono (fun e w' ⟨he, hw⟩ => ⟨he, by rw [hw]; exact But.refl _ _, f, by rw [hw]; exact h, by rw [hw]; exact hs⟩)

/-- What Value says. -/
def ValSaid (op : Int) (n v x : ByteArray) (e : Ending) : Prop := ∃ r : Bool, e = .returned (.bool r) ∧ (rightP op n v ≠ 0 → r = false) ∧ (rightP op n v = 0 → SaidG op v x r)

theorem says_e (w : World) (op : Int) (v x : ByteArray) (m t : Nat) (h7 : w.cell? ⟨m, 2, none⟩ = some (.string v)) (h8 : w.cell? ⟨t, 0, none⟩ = some (.bool (op == 2))) :
    Calls Tryz.prog 92 #[.string x, .pointer (some ⟨m, 0, none⟩), .pointer (some ⟨t, 0, none⟩)] w (fun e w' => e = .returned (.bool (mSays op v x)) ∧ w' = w) := by
  go_enter Tryz.func92, Tryz.ntmps92
  go_wp2_with fail
  go_ret
  exact ⟨rfl, rfl⟩

set_option maxRecDepth 100000 in
set_option maxHeartbeats 1000000 in
theorem value_g (w : World) (b B : Nat) (op : Int) (n v x : ByteArray) (hT : Lib.Utf8Tabs 0 1 w) (h2 : 2 ≤ b) (h : MtG w b op n v B) (ho : GOk op n v) :
    Calls Tryz.prog 75 #[.pointer (some ⟨b, 0, none⟩), .string x] w (fun e w' => ValSaid op n v x e ∧ But b w w' ∧ MtG w' b op n v B) := by
  have hbB := h.1
  have hBw := h.2.1
  have HC := Lib.hid (right_g w b B op n v hT h2 h ho)
  clear h hT ho
  go_enter Tryz.func75, Tryz.ntmps75
  go_wp2_with fail
  refine HC.out.mono ?_
  rintro e w1 ⟨rfl, hb, f, h3, hs⟩
  clear HC
  rw [show rightP op n v = 0 from rfl]
  have c7 := h3.c7
  have HB := Lib.hid hb
  have HM : Hid (MtG w1 b op n v B) := MtG.done hbB (Nat.le_trans hBw hb.size) h3 hs
  have hs' := hs
  obtain ⟨m, t, rfl, h1', h2', h5, h6, h7, h8⟩ := hs'
  have HCE := Lib.hid (says_e w1 op v x m t h7 h8)
  obtain ⟨r, hr⟩ : ∃ r, mSays op v x = r := ⟨_, rfl⟩
  rw [hr] at HCE
  have HR := Lib.hid hr
  clear hb h3 hs h7 h8 hr
  go_wp2_with fail
  refine HCE.out.mono ?_
  rintro e w2 ⟨rfl, rfl⟩
  cases r <;> (go_wp2_with fail; go_ret; exact ⟨⟨_, rfl, fun hh => absurd rfl hh, fun _ => HR.out.symm⟩, HB.out, HM.out⟩)

/-- What it means that a matcher matches a value. -/
def HoldsG (m : Mat) (x : ByteArray) : Prop := mSays m.op m.v x = true

theorem holds_of {m : Mat} {x : ByteArray} {r : Bool} (_h0 : rightP m.op m.n m.v = 0) (h : SaidG m.op m.v x r) : r = true ↔ HoldsG m x := by
  unfold SaidG at h
  rw [h]
  exact Iff.rfl

end Go.Proofs.YteemciknbiloiaaGreatDoor.Ih
