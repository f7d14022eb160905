/- Walks over layer 5's reader: what a class holds while it is read. -/
import Derived.Test.YtgcmjidphoklkaaGreatDoorRxWe
namespace Go.Proofs.YtgcmjidphoklkaaGreatDoor.Rx
open Go.RowKit Go.Sort

theorem grownBy_of_below {w w' : World} (h : Below w.heap.size w w') : w.grownBy w' none := ⟨h.os, h.tape, h.output, h.size, fun k hk _ => h.block k hk⟩

theorem owned_slice {W : World} {base : Nat} {e : TypeId} {size : Nat} {v : Value} {k : Nat} {xs : List Value} (h : W.ownsRow base e size v (k + 1) xs) : ∃ g cap, v = .slice (some ⟨g, 0, none⟩) (k + 1) cap := by
  rcases h.2 with ⟨_, h0⟩ | ⟨g, cap, _, hv, _⟩
  · omega
  · exact ⟨g, cap, hv⟩

/-- The variable at block lb holds a list of functions, each a set of runes; its row and what they need lie behind it. -/
structure LRep (w : World) (lb : Nat) (v : Value) (xs : List Value) (fs : List (Int → Bool)) (C : List Nat) : Prop where
  cell : w.cell? ⟨lb, 0, none⟩ = some v
  free : w.frozen? ⟨lb, 0, none⟩ = false
  own : w.ownsRow (lb + 1) 40 1 v fs.length xs
  all : AllP w C xs fs
  inb : InB (lb + 1) w.heap.size C
  sep : ∀ g, v.ownBlock = some g → g ∉ C

theorem LRep.lt {w : World} {lb : Nat} {v : Value} {xs : List Value} {fs : List (Int → Bool)} {C : List Nat} (h : LRep w lb v xs fs C) : lb < w.heap.size := by
  have h1 := h.cell
  unfold World.cell? at h1
  rcases Nat.lt_or_ge lb w.heap.size with h2 | h2
  · exact h2
  · rw [Array.getElem?_eq_none h2] at h1; cases h1

theorem LRep.below {w w' : World} {lb : Nat} {v : Value} {xs : List Value} {fs : List (Int → Bool)} {C : List Nat} (h : LRep w lb v xs fs C) (hb : Below w.heap.size w w') : LRep w' lb v xs fs C where
  cell := (hb.cell (p := ⟨lb, 0, none⟩) h.lt).trans h.cell
  free := (hb.frozen (p := ⟨lb, 0, none⟩) h.lt).trans h.free
  own := h.own.kept (grownBy_of_below hb) (by cases v.ownBlock <;> simp)
  all := h.all.like (Like.of_below hb fun k hk => (h.inb k hk).2)
  inb := h.inb.mono (Nat.le_refl _) hb.size
  sep := h.sep

theorem LRep.setAt {w : World} {lb b : Nat} {v u : Value} {o : Nat} {xs : List Value} {fs : List (Int → Bool)} {C : List Nat} (h : LRep w lb v xs fs C) (hb : b < lb) : LRep (w.setCell ⟨b, o, none⟩ u) lb v xs fs C where
  cell := (World.cell?_of_block (w := w) (setCell_block_ne w ⟨b, o, none⟩ u lb (by simp; omega))).trans h.cell
  free := (World.frozen?_of_block (w := w) (setCell_block_ne w ⟨b, o, none⟩ u lb (by simp; omega))).trans h.free
  own := ownsRow_setCell_below h.own (by simp; omega) u
  all := h.all.like ⟨fun k hk => setCell_block_ne w ⟨b, o, none⟩ u k (by have := h.inb k hk; simp; omega), by rw [setCell_size]; exact Nat.le_refl _⟩
  inb := by rw [setCell_size]; exact h.inb
  sep := h.sep

theorem LRep.moved {w w' : World} {lb b j : Nat} {v : Value} {xs : List Value} {fs : List (Int → Bool)} {C : List Nat} (h : LRep w lb v xs fs C) (hb : b < lb) (m : Moved w w' b j) : LRep w' lb v xs fs C :=
  (h.setAt (o := 1) (u := .int .i64 j) hb).below (by rw [setCell_size]; exact m)

theorem LRep.slice {w : World} {lb : Nat} {v : Value} {xs : List Value} {fs : List (Int → Bool)} {C : List Nat} (h : LRep w lb v xs fs C) :
    (fs = [] ∧ v = .slice none 0 0) ∨ (∃ g cap, v = .slice (some ⟨g, 0, none⟩) fs.length cap ∧ 0 < fs.length) ∨ (∃ g cap, v = .slice (some ⟨g, 0, none⟩) 0 cap ∧ fs = []) := by
  rcases h.own.2 with ⟨hv, h0⟩ | ⟨g, cap, cur, hv, _⟩
  · exact .inl ⟨List.length_eq_zero_iff.1 h0, hv⟩
  · by_cases h0 : 0 < fs.length
    · exact .inr (.inl ⟨g, cap, hv, h0⟩)
    · have : fs = [] := List.length_eq_zero_iff.1 (by omega)
      exact .inr (.inr ⟨g, cap, by rw [hv, this]; rfl, this⟩)

/-- One function more. -/
theorem LRep.push {W w1 : World} {lb : Nat} {v v' x : Value} {xs : List Value} {fs : List (Int → Bool)} {C D : List Nat} {p : Int → Bool} (h : LRep W lb v xs fs C) (hp : IsP W D x p) (hD : InB (lb + 1) W.heap.size D)
    (hsep : ∀ g, v.ownBlock = some g → g ∉ D) (hown : w1.ownsRow (lb + 1) 40 1 v' (fs.length + 1) (xs ++ [x])) (hg : W.grownBy w1 v.ownBlock) (hat : v'.ownBlock = v.ownBlock ∨ v'.ownBlock = some W.heap.size) :
    LRep (w1.setCell ⟨lb, 0, none⟩ v') lb v' (xs ++ [x]) (fs ++ [p]) (C ++ D) := by
  have hlb : some lb ≠ v.ownBlock := fun e => by have := h.own.lt lb e.symm; omega
  have hblk := hg.block lb h.lt hlb
  have hc : w1.cell? ⟨lb, 0, none⟩ = some v := (World.cell?_of_block (w := W) hblk).trans h.cell
  have hCD : InB (lb + 1) W.heap.size (C ++ D) := h.inb.append hD
  have hs : ∀ g, v.ownBlock = some g → g ∉ C ++ D := fun g e hm => (List.mem_append.1 hm).elim (h.sep g e) (hsep g e)
  refine ⟨cell?_setCell_at hc, ?_, ?_, ?_, ?_, ?_⟩
  · rw [World.frozen?_setCell]; exact (World.frozen?_of_block (w := W) hblk).trans h.free
  · have := ownsRow_setCell_below hown (a := ⟨lb, 0, none⟩) (by simp) v'
    simpa using this
  · refine ((h.all.more (fun k hk => List.mem_append_left D hk)).snoc (hp.more fun k hk => List.mem_append_right C hk)).like ⟨fun k hk => ?_, ?_⟩
    · have := hCD k hk
      rw [setCell_block_ne _ _ _ _ (by simp; omega)]
      exact hg.block k this.2 (fun e => hs k e.symm hk)
    · rw [setCell_size]; exact hg.size
  · rw [setCell_size]; exact hCD.mono (Nat.le_refl _) hg.size
  · intro g e hm
    rcases hat with hat | hat
    · exact hs g (hat ▸ e) hm
    · rw [hat] at e; cases e
      have := hCD _ hm; omega

/-- The function that a class makes. -/
theorem LRep.isP {w : World} {lb : Nat} {v : Value} {xs : List Value} {fs : List (Int → Bool)} {C : List Nat} (h : LRep w lb v xs fs C) (hn : 0 < fs.length) (hm : fs.length ≤ 1000) :
    ∃ D, IsP w D (.func (.func 106) #[] #[.pointer (some ⟨lb, 0, none⟩)]) (fun c => fs.any fun f => f c) ∧ InB lb w.heap.size D := by
  rcases h.slice with ⟨h0, _⟩ | ⟨g, cap, hv, _⟩ | ⟨_, _, _, h0⟩
  · rw [h0] at hn; simp at hn
  · subst hv
    have hg := h.own.lt g rfl
    refine ⟨lb :: g :: C, ⟨_, _, rfl, enters Tryz.func106 (by kernel_rfl) rfl, fun w' hl c => ?_⟩, ?_⟩
    · refine class1_any w' lb g cap xs fs C c ((hl.cell (p := ⟨lb, 0, none⟩) (by simp)).trans h.cell) (fun j hj => ?_) hm (h.all.like (hl.sub fun k hk => by simp [hk])) (fun k hk => ?_) ?_
      · exact (hl.cell (p := ⟨g, j, none⟩) (by simp)).trans (h.own.cellAt j (by omega))
      · exact Nat.lt_of_lt_of_le (h.inb k hk).2 hl.2
      · exact Nat.lt_of_lt_of_le hg.2 hl.2
    · exact ((h.inb.mono (by omega) (Nat.le_refl _)).cons (by omega) hg.2).cons (Nat.le_refl _) h.lt
  · rw [h0] at hn; simp at hn

theorem isP_range {w : World} {a b : Nat} {x y : Int} (h1 : w.cell? ⟨a, 3, none⟩ = some (.int .i32 x)) (h2 : w.cell? ⟨b, 3, none⟩ = some (.int .i32 y)) :
    IsP w [a, b] (.func (.func 108) #[] #[.pointer (some ⟨a, 0, none⟩), .pointer (some ⟨b, 0, none⟩)]) (fun c => decide (x ≤ c) && decide (c ≤ y)) :=
  ⟨_, _, rfl, enters Tryz.func108 (by kernel_rfl) rfl, fun w' hl c => class2_any w' a b x y c ((hl.cell (p := ⟨a, 3, none⟩) (by simp)).trans h1) ((hl.cell (p := ⟨b, 3, none⟩) (by simp)).trans h2)⟩

/-- The state at the head of a class's round: the reader at i, the part's own block r untouched, the functions so far. -/
structure CSt (w0 : World) (b : Nat) (s : ByteArray) (r lb i : Nat) (v : Value) (xs : List Value) (fs : List (Int → Bool)) (C : List Nat) (w : World) : Prop where
  mv : Moved w0 w b i
  le : i ≤ s.size
  len : fs.length ≤ i
  z : Z9 w r
  l : LRep w lb v xs fs C

theorem CSt.below {w0 w w' : World} {b : Nat} {s : ByteArray} {r lb i : Nat} {v : Value} {xs : List Value} {fs : List (Int → Bool)} {C : List Nat} (h : CSt w0 b s r lb i v xs fs C w) (hr : r < lb) (hb : Below w.heap.size w w') : CSt w0 b s r lb i v xs fs C w' where
  mv := h.mv.below hb
  le := h.le
  len := h.len
  z := h.z.like (hb.block r (by have := h.l.lt; omega))
  l := h.l.below hb

theorem CSt.moved {w0 w w' : World} {b : Nat} {s : ByteArray} {r lb i j : Nat} {v : Value} {xs : List Value} {fs : List (Int → Bool)} {C : List Nat} (h : CSt w0 b s r lb i v xs fs C w) (hr : r < lb) (hb : b < r) (m : Moved w w' b j) (hj : j ≤ s.size) (hij : i ≤ j) : CSt w0 b s r lb j v xs fs C w' where
  mv := h.mv.trans m
  le := hj
  len := Nat.le_trans h.len hij
  z := h.z.like (by rw [Below.block m r (by have := h.l.lt; omega)]; exact setCell_block_ne _ _ _ _ (by simp; omega))
  l := h.l.moved (by omega) m

theorem CSt.push {w0 w w1 : World} {b : Nat} {s : ByteArray} {r lb i : Nat} {v v' x : Value} {xs : List Value} {fs : List (Int → Bool)} {C D : List Nat} {p : Int → Bool} (h : CSt w0 b s r lb i v xs fs C w) (hr : r < lb) (hw : w0.heap.size ≤ r)
    (hn : fs.length + 1 ≤ i) (hp : IsP w D x p) (hD : InB (lb + 1) w.heap.size D) (hsep : ∀ g, v.ownBlock = some g → g ∉ D) (o : Obj) (hown : w1.ownsRow (lb + 1) 40 1 v' (fs.length + 1) (xs ++ [x]))
    (hg : (w.alloc o).grownBy w1 v.ownBlock) (hat : v'.ownBlock = v.ownBlock ∨ v'.ownBlock = some (w.alloc o).heap.size) : CSt w0 b s r lb i v' (xs ++ [x]) (fs ++ [p]) (C ++ D) (w1.setCell ⟨lb, 0, none⟩ v') := by
  have hB : Below w.heap.size w (w.alloc o) := (Below.refl _ _).alloc (Nat.le_refl _) _
  have hL : LRep (w.alloc o) lb v xs fs C := h.l.below hB
  have hlt := h.l.lt
  have hown0 : ∀ k, v.ownBlock = some k → lb + 1 ≤ k := fun k hk => (h.l.own.lt k hk).1
  have hms := h.mv.size
  refine ⟨?_, h.le, by simpa using hn, ?_, hL.push (hp.like (Like.of_below hB fun k hk => (hD k hk).2)) (hD.mono (Nat.le_refl _) (by simp)) hsep hown hg hat⟩
  · unfold Moved
    exact (((Below.trans h.mv (hB.mono hms)).grown hg (by simp; omega) (fun k hk => by have := hown0 k hk; omega)).setCell (p := ⟨lb, 0, none⟩) (by simp; omega) v')
  · refine h.z.like ?_
    rw [setCell_block_ne _ _ _ _ (by simp; omega), hg.block r (by simp; omega) (fun e => by have := hown0 r e.symm; omega)]
    exact hB.block r (by omega)

theorem peekN_pos {s : ByteArray} {i : Nat} (h : i < s.size) : 1 ≤ peekN s i := by
  unfold peekN; rw [if_pos h]; unfold Utf8.decode; dsimp only
  repeat' split
  all_goals simp

def OkAt (e : Nat) (r : PRes (One × Nat)) : Prop := ∀ o j, r = .ok (o, j) → j = e
theorem OkAt.ite {e : Nat} {c : Prop} [Decidable c] {a b : PRes (One × Nat)} (h1 : OkAt e a) (h2 : OkAt e b) : OkAt e (if c then a else b) := by
  split
  · exact h1
  · exact h2
theorem OkAt.ok (e : Nat) (o : One) : OkAt e (.ok (o, e)) := fun _ _ h => by injection h with h; injection h with _ h; exact h.symm
theorem OkAt.err (e : Nat) (x : PErr) : OkAt e (.error x) := fun _ _ h => by injection h

theorem escapeP_bd {s : ByteArray} {i j : Nat} {o : One} (hi : i < s.size) (h : escapeP s i = .ok (o, j)) : i < j ∧ j ≤ s.size := by
  have h1 := peekN_le s (i + 1) (by omega)
  have k : OkAt (i + 1 + peekN s (i + 1)) (escapeP s i) := by
    unfold escapeP
    dsimp only
    repeat' (refine OkAt.ite ?_ ?_)
    all_goals first | exact OkAt.ok _ _ | exact OkAt.err _ _
  have e := k o j h
  omega

theorem memberP_bd {s : ByteArray} {i j : Nat} {o : One} (hi : i < s.size) (h : memberP s i = .ok (o, j)) : i < j ∧ j ≤ s.size := by
  unfold memberP at h
  split at h
  · exact escapeP_bd hi h
  · injection h with h; injection h with _ h2
    have h1 := peekN_le s i (by omega)
    have h3 := peekN_pos hi
    omega

end Go.Proofs.YtgcmjidphoklkaaGreatDoor.Rx
