/- Walks over layer 6's matcher: what it says, made once. -/
import Derived.Test.YteemciknbiloiaaGreatDoorIhC
import Derived.Laws.NewBlocks
namespace Go.Proofs.YteemciknbiloiaaGreatDoor.Ih
open Go.RowKit

/-- The frame of a matcher's walks: of the blocks that were there, b's alone may have turned. -/
structure But (b : Nat) (w w' : World) : Prop where
  os : w'.os = w.os
  tape : w'.tape = w.tape
  output : w'.output = w.output
  size : w.heap.size ≤ w'.heap.size
  block : ∀ k, k < w.heap.size → k ≠ b → w'.heap[k]? = w.heap[k]?

theorem But.refl (b : Nat) (w : World) : But b w w := ⟨rfl, rfl, rfl, Nat.le_refl _, fun _ _ _ => rfl⟩
theorem But.trans {b : Nat} {w1 w2 w3 : World} (h : But b w1 w2) (k : But b w2 w3) : But b w1 w3 :=
  ⟨k.os.trans h.os, k.tape.trans h.tape, k.output.trans h.output, Nat.le_trans h.size k.size, fun i hi hn => (k.block i (Nat.lt_of_lt_of_le hi h.size) hn).trans (h.block i hi hn)⟩
theorem But.of {b : Nat} {w w' : World} (h : Below w.heap.size w w') : But b w w' := ⟨h.os, h.tape, h.output, h.size, fun k hk _ => h.block k hk⟩
theorem But.set {b : Nat} {w w' : World} (h : But b w w') (k : Nat) (u : Value) : But b w (w'.setCell ⟨b, k, none⟩ u) :=
  h.trans ⟨rfl, rfl, rfl, by simp [World.setCell], fun i _ hn => Below.heap_setCell _ _ _ _ hn⟩
theorem But.drew {b : Nat} {w w' : World} (h : But b w w') : But b w w'.drew := ⟨h.os, h.tape, h.output, h.size, h.block⟩
theorem But.alloc {b : Nat} {w w' : World} (h : But b w w') (o : Obj) : But b w (w'.alloc o) :=
  h.trans (.of ((Below.refl _ _).alloc (Nat.le_refl _) _))
theorem But.below {b B : Nat} {w w' : World} (h : But b w w') (hb : B ≤ b) (hB : B ≤ w.heap.size) : Below B w w' :=
  ⟨h.os, h.tape, h.output, h.size, fun k hk => h.block k (by omega) (by omega)⟩
theorem But.cell {b : Nat} {w w' : World} (h : But b w w') {p : Addr} (hp : p.block < w.heap.size) (hn : p.block ≠ b) : w'.cell? p = w.cell? p := World.cell?_of_block (w := w) (h.block p.block hp hn)

structure MtAt (w : World) (b : Nat) (op : Int) (n v : ByteArray) (dn st why : Int) (says : Value) : Prop where
  lt : b < w.heap.size
  c0 : w.cell? ⟨b, 0, none⟩ = some (.int .i64 op)
  c1 : w.cell? ⟨b, 1, none⟩ = some (.string n)
  c2 : w.cell? ⟨b, 2, none⟩ = some (.string v)
  c3 : w.cell? ⟨b, 3, none⟩ = some (.int .u32 dn)
  c4 : w.cell? ⟨b, 4, none⟩ = some (.int .i32 st)
  c6 : w.cell? ⟨b, 6, none⟩ = some (.int .i64 why)
  c7 : w.cell? ⟨b, 7, none⟩ = some says
  fz : ∀ k, w.frozen? ⟨b, k, none⟩ = false

theorem MtAt.like {w w' : World} {b : Nat} {op : Int} {n v : ByteArray} {dn st why : Int} {says : Value} (h : MtAt w b op n v dn st why says) (hb : w'.heap[b]? = w.heap[b]?) (hs : w.heap.size ≤ w'.heap.size) : MtAt w' b op n v dn st why says := by
  have e : ∀ k, w'.cell? ⟨b, k, none⟩ = w.cell? ⟨b, k, none⟩ := fun k => World.cell?_of_block (w := w) (a := ⟨b, k, none⟩) hb
  exact ⟨Nat.lt_of_lt_of_le h.lt hs, (e 0).trans h.c0, (e 1).trans h.c1, (e 2).trans h.c2, (e 3).trans h.c3, (e 4).trans h.c4, (e 6).trans h.c6, (e 7).trans h.c7,
    fun k => (World.frozen?_of_block (w := w) (a := ⟨b, k, none⟩) hb).trans (h.fz k)⟩

theorem other {w : World} {b i k : Nat} {u : Value} {x : Option Value} (h : w.cell? ⟨b, k, none⟩ = x) (hn : i ≠ k) : (w.setCell ⟨b, i, none⟩ u).cell? ⟨b, k, none⟩ = x :=
  (World.cell?_setCell_other _ ⟨b, i, none⟩ ⟨b, k, none⟩ _ (fun e => hn (by injection e))).trans h

theorem MtAt.set3 {w : World} {b : Nat} {op : Int} {n v : ByteArray} {dn st why : Int} {says : Value} (h : MtAt w b op n v dn st why says) (x : Int) : MtAt (w.setCell ⟨b, 3, none⟩ (.int .u32 x)) b op n v x st why says :=
  ⟨by simpa [World.setCell] using h.lt, other h.c0 (by decide), other h.c1 (by decide), other h.c2 (by decide), World.cell?_setCell_same _ _ _ h.c3, other h.c4 (by decide), other h.c6 (by decide), other h.c7 (by decide), fun k => by simpa using h.fz k⟩
theorem MtAt.set4 {w : World} {b : Nat} {op : Int} {n v : ByteArray} {dn st why : Int} {says : Value} (h : MtAt w b op n v dn st why says) (x : Int) : MtAt (w.setCell ⟨b, 4, none⟩ (.int .i32 x)) b op n v dn x why says :=
  ⟨by simpa [World.setCell] using h.lt, other h.c0 (by decide), other h.c1 (by decide), other h.c2 (by decide), other h.c3 (by decide), World.cell?_setCell_same _ _ _ h.c4, other h.c6 (by decide), other h.c7 (by decide), fun k => by simpa using h.fz k⟩
theorem MtAt.set6 {w : World} {b : Nat} {op : Int} {n v : ByteArray} {dn st why : Int} {says : Value} (h : MtAt w b op n v dn st why says) (x : Int) : MtAt (w.setCell ⟨b, 6, none⟩ (.int .i64 x)) b op n v dn st x says :=
  ⟨by simpa [World.setCell] using h.lt, other h.c0 (by decide), other h.c1 (by decide), other h.c2 (by decide), other h.c3 (by decide), other h.c4 (by decide), World.cell?_setCell_same _ _ _ h.c6, other h.c7 (by decide), fun k => by simpa using h.fz k⟩
theorem MtAt.set7 {w : World} {b : Nat} {op : Int} {n v : ByteArray} {dn st why : Int} {says : Value} (h : MtAt w b op n v dn st why says) (x : Value) : MtAt (w.setCell ⟨b, 7, none⟩ x) b op n v dn st why x :=
  ⟨by simpa [World.setCell] using h.lt, other h.c0 (by decide), other h.c1 (by decide), other h.c2 (by decide), other h.c3 (by decide), other h.c4 (by decide), other h.c6 (by decide), World.cell?_setCell_same _ _ _ h.c7, fun k => by simpa using h.fz k⟩
theorem MtAt.drew {w : World} {b : Nat} {op : Int} {n v : ByteArray} {dn st why : Int} {says : Value} (h : MtAt w b op n v dn st why says) : MtAt w.drew b op n v dn st why says := h.like rfl (Nat.le_refl _)
theorem MtAt.alloc {w : World} {b : Nat} {op : Int} {n v : ByteArray} {dn st why : Int} {says : Value} (h : MtAt w b op n v dn st why says) (o : Obj) : MtAt (w.alloc o) b op n v dn st why says :=
  h.like (Below.heap_alloc _ _ _ h.lt) (by simp)

/-- A matcher's parts are right (a plain one). -/
structure MOk (op : Int) (n v : ByteArray) : Prop where
  op1 : 1 ≤ op
  op2 : op ≤ 2
  name : namedB n 64 false = true
  nlen : n.size ≤ 64
  value : Lib.validD v.data.toList = true
  vlen : v.size ≤ 256

set_option maxRecDepth 100000 in
theorem wrong_ok (w : World) (op : Int) (n v : ByteArray) (hT : Lib.Utf8Tabs 0 1 w) (hm : MOk op n v) :
    Calls Tryz.prog 91 #[.agg #[.int .i64 op, .string n, .string v]] w (fun e w' => e = .returned (.int .i64 0) ∧ Below w.heap.size w w') := by
  obtain ⟨o1, o2, hn, hnl, hv, hvl⟩ := hm
  have HT := Lib.hid hT
  have HV := Lib.hid hv
  clear hT hv
  have h1 : ¬ op < 1 := by omega
  have h2 : ¬ 4 < op := by omega
  have hW : Hid (∀ W, W = w.alloc (.cells #[.int .i64 op, .string n, .string v] 71) → Below w.heap.size w W ∧ W.heap.size = w.heap.size + 1 ∧ W.cell? ⟨w.heap.size, 0, none⟩ = some (.int .i64 op) ∧ W.cell? ⟨w.heap.size, 1, none⟩ = some (.string n) ∧ W.cell? ⟨w.heap.size, 2, none⟩ = some (.string v)) := by
    rintro W rfl
    exact ⟨(Below.refl _ _).alloc (Nat.le_refl _) _, by simp, by simp, by simp, by simp⟩
  go_enter Tryz.func91, Tryz.ntmps91
  go_wp2_with fail
  generalize hWe : w.alloc (.cells #[.int .i64 op, .string n, .string v] 71) = W at *
  obtain ⟨hbW, hszW, d0, d1, d2⟩ := hW.out W rfl
  clear hW hWe
  have HBW := Lib.hid hbW
  clear hbW
  refine (name_any W n (by omega)).mono ?_
  rintro e w2 ⟨rfl, hb2⟩
  rw [hn]
  have HB2 := Lib.hid (HBW.out.trans (hb2.mono (by omega)))
  have e2 : w2.cell? ⟨w.heap.size, 2, none⟩ = some (.string v) := (hb2.cell (p := ⟨w.heap.size, 2, none⟩) (by show w.heap.size < W.heap.size; omega)).trans d2
  have hsz2 := hb2.size
  clear hb2 d0 d1 d2
  go_wp2_with fail
  refine (Tryz.utf8_ValidString v w2 (by omega) (Utf8Tabs_below HT.out HB2.out)).mono ?_
  rintro e w3 ⟨rfl, hb3⟩
  rw [HV.out]
  have HB3 := Lib.hid (HB2.out.trans (hb3.mono (by omega)))
  have f2 : w3.cell? ⟨w.heap.size, 2, none⟩ = some (.string v) := (hb3.cell (p := ⟨w.heap.size, 2, none⟩) (by show w.heap.size < w2.heap.size; omega)).trans e2
  clear hb3 e2
  go_wp2_with fail
  go_ret
  exact ⟨rfl, HB3.out⟩

/-- What a matcher's function value is. -/
def Says (w : World) (f : Value) (op : Int) (v : ByteArray) (B b : Nat) : Prop :=
  ∃ m t, f = .func (.func 92) #[] #[.pointer (some ⟨m, 0, none⟩), .pointer (some ⟨t, 0, none⟩)] ∧ B ≤ m ∧ B ≤ t ∧ m ≠ b ∧ t ≠ b ∧ m < w.heap.size ∧ t < w.heap.size ∧ w.cell? ⟨m, 2, none⟩ = some (.string v) ∧ w.cell? ⟨t, 0, none⟩ = some (.bool (op == 2))

end Go.Proofs.YteemciknbiloiaaGreatDoor.Ih
