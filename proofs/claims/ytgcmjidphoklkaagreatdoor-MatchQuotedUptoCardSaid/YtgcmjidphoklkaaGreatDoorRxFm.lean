/- Fronts in memory. -/
import Derived.Test.YtgcmjidphoklkaaGreatDoorRxKa
import Derived.Test.YtgcmjidphoklkaaGreatDoorRxFr
import Derived.Deep.AppendLies
namespace Go.Proofs.YtgcmjidphoklkaaGreatDoor.Rx
open Go.RowKit Go.Sort

abbrev intsN (l : List Nat) : List Value := l.map fun x : Nat => Value.int .i64 (x : Int)
abbrev boolsN (l : List Bool) : List Value := l.map Value.bool

theorem ownsRow_like {w w' : World} {base : Nat} {e : TypeId} {size : Nat} {v : Value} {n : Nat} {xs : List Value} (h : w.ownsRow base e size v n xs) (hb : ∀ g, v.ownBlock = some g → w'.heap[g]? = w.heap[g]?) : w'.ownsRow base e size v n xs := by
  obtain ⟨h1, h2⟩ := h
  refine ⟨h1, ?_⟩
  rcases h2 with h2 | ⟨g, cap, cur, hv, hg, hh, r⟩
  · exact .inl h2
  · exact .inr ⟨g, cap, cur, hv, hg, by rw [hb g (by rw [hv]; rfl)]; exact hh, r⟩

theorem ownsRow_pop {w : World} {base : Nat} {e : TypeId} {g n cap : Nat} {xs ys : List Value} (h : w.ownsRow base e 1 (.slice (some ⟨g, 0, none⟩) (n + 1) cap) (n + 1) xs) (hy : xs.take n = ys) : w.ownsRow base e 1 (.slice (some ⟨g, 0, none⟩) n cap) n ys := by
  obtain ⟨h1, h2⟩ := h
  rcases h2 with ⟨h2, _⟩ | ⟨g', cap', cur, hv, hg, hh, hn, hc, hs, ht⟩
  · simp at h2
  · simp only [Value.slice.injEq, Option.some.injEq, Addr.mk.injEq, and_true, true_and] at hv
    obtain ⟨rfl, rfl⟩ := hv
    refine ⟨by rw [← hy, List.length_take]; omega, .inr ⟨g, cap, cur, rfl, hg, hh, by omega, hc, hs, ?_⟩⟩
    rw [← hy, ← ht, List.take_take]
    congr 1
    omega

/-- A front's cells. -/
structure Ft (fb : Nat) (mv rv : Value) (lo : Nat) (met : List Bool) (runes : List Nat) (w : World) : Prop where
  c0 : w.cell? ⟨fb, 0, none⟩ = some mv
  c1 : w.cell? ⟨fb, 1, none⟩ = some rv
  fz : ∀ j, w.frozen? ⟨fb, j, none⟩ = false
  om : w.ownsRow lo 4 1 mv met.length (boolsN met)
  orr : w.ownsRow lo 3 1 rv runes.length (intsN runes)
  nm : mv.ownBlock ≠ some fb
  nr : rv.ownBlock ≠ some fb
  nmr : ∀ g, mv.ownBlock = some g → rv.ownBlock ≠ some g

theorem Ft.like {fb lo : Nat} {mv rv : Value} {met : List Bool} {runes : List Nat} {w w' : World} (h : Ft fb mv rv lo met runes w) (e : ∀ k, (k = fb ∨ mv.ownBlock = some k ∨ rv.ownBlock = some k) → w'.heap[k]? = w.heap[k]?) : Ft fb mv rv lo met runes w' :=
  have ef : w'.heap[fb]? = w.heap[fb]? := e fb (.inl rfl)
  ⟨(World.cell?_of_block (w := w) ef).trans h.c0, (World.cell?_of_block (w := w) ef).trans h.c1, fun j => (World.frozen?_of_block (w := w) (a := ⟨fb, j, none⟩) ef).trans (h.fz j), ownsRow_like h.om fun g hg => e g (.inr (.inl hg)), ownsRow_like h.orr fun g hg => e g (.inr (.inr hg)), h.nm, h.nr, h.nmr⟩

theorem Ft.lt {fb lo : Nat} {mv rv : Value} {met : List Bool} {runes : List Nat} {w : World} (h : Ft fb mv rv lo met runes w) : fb < w.heap.size := by
  have h0 := h.c0
  unfold World.cell? at h0
  rcases Nat.lt_or_ge fb w.heap.size with h | h
  · exact h
  · simp [Array.getElem?_eq_none h] at h0

theorem Ft.row {fb lo : Nat} {mv rv : Value} {met : List Bool} {runes : List Nat} {w : World} (h : Ft fb mv rv lo met runes w) (hn : 0 < met.length) : ∃ gm cap, mv = .slice (some ⟨gm, 0, none⟩) met.length cap ∧ lo ≤ gm ∧ gm < w.heap.size ∧ gm ≠ fb ∧ rv.ownBlock ≠ some gm := by
  obtain ⟨g, cap, hv, h1, h2⟩ := h.om.form hn
  exact ⟨g, cap, hv, h1, h2, fun e => h.nm (by rw [hv, ← e]; rfl), h.nmr g (by rw [hv]; rfl)⟩

/-- What a front's walk leaves as it was. -/
structure FMoved (fb : Nat) (mv rv rv' : Value) (w w' : World) : Prop where
  os : w'.os = w.os
  tape : w'.tape = w.tape
  output : w'.output = w.output
  size : w.heap.size ≤ w'.heap.size
  keep : ∀ k, k < w.heap.size → k ≠ fb → mv.ownBlock ≠ some k → rv.ownBlock ≠ some k → w'.heap[k]? = w.heap[k]?
  own : rv'.ownBlock = rv.ownBlock ∨ ∃ g, rv'.ownBlock = some g ∧ w.heap.size ≤ g

theorem FMoved.refl {fb : Nat} {mv rv : Value} {w : World} : FMoved fb mv rv rv w w := ⟨rfl, rfl, rfl, Nat.le_refl _, fun _ _ _ _ _ => rfl, .inl rfl⟩

theorem FMoved.trans {fb : Nat} {mv rv rv1 rv2 : Value} {w w1 w2 : World} (h : FMoved fb mv rv rv1 w w1) (h2 : FMoved fb mv rv1 rv2 w1 w2) : FMoved fb mv rv rv2 w w2 where
  os := h2.os.trans h.os
  tape := h2.tape.trans h.tape
  output := h2.output.trans h.output
  size := Nat.le_trans h.size h2.size
  keep := fun k hk hne hm hr => by
    have hs := h.size
    refine (h2.keep k (by omega) hne hm fun e => ?_).trans (h.keep k hk hne hm hr)
    rcases h.own with h1 | ⟨g, h1, hg⟩
    · exact hr (h1 ▸ e)
    · rw [h1] at e
      injection e with e
      omega
  own := by
    have hs := h.size
    rcases h2.own with h1 | ⟨g, h1, hg⟩
    · rcases h.own with h3 | ⟨g, h3, hg⟩
      · exact .inl (h1.trans h3)
      · exact .inr ⟨g, h1.trans h3, hg⟩
    · exact .inr ⟨g, h1, by omega⟩

theorem FMoved.below {fb lo : Nat} {mv rv rv' : Value} {met : List Bool} {runes : List Nat} {w w' : World} (m : FMoved fb mv rv rv' w w') (h : Ft fb mv rv lo met runes w) (hfb : lo ≤ fb) (hlo : lo ≤ w.heap.size) : Below lo w w' :=
  ⟨m.os, m.tape, m.output, m.size, fun k hk => m.keep k (by omega) (by omega) (fun e => by have := (h.om.lt k e).1; omega) (fun e => by have := (h.orr.lt k e).1; omega)⟩

/-- What is new, or lies in another row, is no matter. -/
theorem FMoved.other {fb : Nat} {mv rv rv1 : Value} {row : Option Nat} {w w1 w2 : World} (h : FMoved fb mv rv rv1 w w1) (hg : w1.grownBy w2 row) (hr : ∀ k, row = some k → w.heap.size ≤ k) : FMoved fb mv rv rv1 w w2 :=
  ⟨hg.os.trans h.os, hg.tape.trans h.tape, hg.output.trans h.output, Nat.le_trans h.size hg.size, fun k hk hne hm hv => (hg.block k (by have := h.size; omega) (fun e => by have := hr k e.symm; omega)).trans (h.keep k hk hne hm hv), h.own⟩

theorem Ft.other {fb lo : Nat} {mv rv : Value} {met : List Bool} {runes : List Nat} {row : Option Nat} {w w' : World} (h : Ft fb mv rv lo met runes w) (hg : w.grownBy w' row) (hr : ∀ k, row = some k → k ≠ fb ∧ mv.ownBlock ≠ some k ∧ rv.ownBlock ≠ some k) : Ft fb mv rv lo met runes w' := by
  refine h.like fun k hk => hg.block k ?_ fun e => ?_
  · rcases hk with rfl | hk | hk
    · exact h.lt
    · exact (h.om.lt k hk).2
    · exact (h.orr.lt k hk).2
  · have := hr k e.symm
    rcases hk with rfl | hk | hk
    · exact this.1 rfl
    · exact this.2.1 hk
    · exact this.2.2 hk

theorem met_step {fb lo gm cap y : Nat} {rv : Value} {met : List Bool} {runes : List Nat} {w : World} (h : Ft fb (.slice (some ⟨gm, 0, none⟩) met.length cap) rv lo met runes w) :
    Ft fb (.slice (some ⟨gm, 0, none⟩) met.length cap) rv lo (met.set y true) runes (w.setCell ⟨gm, y, none⟩ (.bool true)) ∧ FMoved fb (.slice (some ⟨gm, 0, none⟩) met.length cap) rv rv w (w.setCell ⟨gm, y, none⟩ (.bool true)) := by
  have hne : fb ≠ gm := fun e => h.nm (by rw [e]; rfl)
  have hr : rv.ownBlock ≠ some gm := h.nmr gm rfl
  have ef : (w.setCell ⟨gm, y, none⟩ (.bool true)).heap[fb]? = w.heap[fb]? := setCell_block_ne _ _ _ _ hne
  refine ⟨⟨(World.cell?_of_block (w := w) ef).trans h.c0, (World.cell?_of_block (w := w) ef).trans h.c1, fun j => (World.frozen?_of_block (w := w) (a := ⟨fb, j, none⟩) ef).trans (h.fz j), ?_, ownsRow_like h.orr fun g hg => setCell_block_ne _ _ _ _ (fun e => hr (by rw [hg, e])), h.nm, h.nr, h.nmr⟩, ?_⟩
  · have := (h.om.stored y (.bool true)).1
    rw [List.length_set]
    rw [show boolsN (met.set y true) = (boolsN met).set y (.bool true) from List.map_set]
    exact this
  · exact ⟨rfl, rfl, rfl, by rw [setCell_size]; exact Nat.le_refl _, fun k _ _ hm _ => setCell_block_ne _ _ _ _ (fun e => hm (by rw [e]; rfl)), .inl rfl⟩

theorem runes_step {fb lo gg cap' y : Nat} {mv rv : Value} {met : List Bool} {runes : List Nat} {w w2 : World} {o : Obj} (h : Ft fb mv rv lo met runes w)
    (hown : w2.ownsRow lo 3 1 (.slice (some ⟨gg, 0, none⟩) (runes.length + 1) cap') (runes.length + 1) (intsN runes ++ [.int .i64 (y : Int)])) (hg : (w.alloc o).grownBy w2 rv.ownBlock) (hat : rv.ownBlock = some gg ∨ gg = w.heap.size + 1) :
    w2.cell? ⟨fb, 1, none⟩ = some rv ∧ w2.frozen? ⟨fb, 1, none⟩ = false ∧
      Ft fb mv (.slice (some ⟨gg, 0, none⟩) (runes.length + 1) cap') lo met (runes ++ [y]) (w2.setCell ⟨fb, 1, none⟩ (.slice (some ⟨gg, 0, none⟩) (runes.length + 1) cap')) ∧
      FMoved fb mv rv (.slice (some ⟨gg, 0, none⟩) (runes.length + 1) cap') w (w2.setCell ⟨fb, 1, none⟩ (.slice (some ⟨gg, 0, none⟩) (runes.length + 1) cap')) ∧ (∀ k, k < w.heap.size → k ≠ fb → rv.ownBlock ≠ some k → (w2.setCell ⟨fb, 1, none⟩ (.slice (some ⟨gg, 0, none⟩) (runes.length + 1) cap')).heap[k]? = w.heap[k]?) := by
  have hlt := h.lt
  have hsz : w.heap.size + 1 ≤ w2.heap.size := by have := hg.size; simpa using this
  have hbl : ∀ k, k < w.heap.size → rv.ownBlock ≠ some k → w2.heap[k]? = w.heap[k]? := fun k hk hr => (hg.block k (by simp; omega) (fun e => hr e.symm)).trans (Below.heap_alloc _ _ _ hk)
  have ef := hbl fb hlt h.nr
  have c1 := (World.cell?_of_block (w := w) (a := ⟨fb, 1, none⟩) ef).trans h.c1
  have f1 : ∀ j, w2.frozen? ⟨fb, j, none⟩ = false := fun j => (World.frozen?_of_block (w := w) (a := ⟨fb, j, none⟩) ef).trans (h.fz j)
  have hgf : gg ≠ fb := by
    rcases hat with e | e
    · intro e2; subst e2; exact h.nr e
    · omega
  have hst : ∀ k, k ≠ fb → (w2.setCell ⟨fb, 1, none⟩ (.slice (some ⟨gg, 0, none⟩) (runes.length + 1) cap')).heap[k]? = w2.heap[k]? := fun k hk => setCell_block_ne _ _ _ _ hk
  refine ⟨c1, f1 1, ⟨?_, World.cell?_setCell_same _ _ _ c1, fun j => by rw [World.frozen?_setCell]; exact f1 j, ?_, ?_, h.nm, fun e => hgf (by injection e), fun g hgm e => ?_⟩, ?_, ?_⟩
  · exact (World.cell?_setCell_other w2 ⟨fb, 1, none⟩ ⟨fb, 0, none⟩ _ (by simp)).trans ((World.cell?_of_block (w := w) (a := ⟨fb, 0, none⟩) ef).trans h.c0)
  · refine ownsRow_like h.om fun g hgm => ?_
    rw [hst g (fun e => h.nm (by rw [hgm, e])), hbl g (h.om.lt g hgm).2 (h.nmr g hgm)]
  · rw [List.length_append]
    rw [show intsN (runes ++ [y]) = intsN runes ++ [.int .i64 (y : Int)] by simp]
    exact ownsRow_like hown fun g hgm => hst g (by have : gg = g := (by injection hgm); omega)
  · have : gg = g := by injection e
    subst this
    rcases hat with e2 | e2
    · exact h.nmr gg hgm e2
    · have := (h.om.lt gg hgm).2; omega
  · refine ⟨hg.os, hg.tape, hg.output, by rw [setCell_size]; omega, fun k hk hne hm hr => by rw [hst k hne, hbl k hk hr], ?_⟩
    rcases hat with e2 | e2
    · exact .inl (by rw [e2]; rfl)
    · exact .inr ⟨gg, rfl, by omega⟩
  · intro k hk hne hr
    rw [hst k hne, hbl k hk hr]

end Go.Proofs.YtgcmjidphoklkaaGreatDoor.Rx
