/- The graph in memory: a node's way is laid later; parts that are built again and again. -/
import Derived.Test.YtgcmjidphoklkaaGreatDoorRxGf
namespace Go.Proofs.YtgcmjidphoklkaaGreatDoor.Rx
open Go.RowKit Go.Sort
variable {lw : Nat}

theorem flatN_set : ∀ (l : List NdM) (i : Nat) (n : NdM) (a : Int), l[i]? = some n → (flatN l).set (i * 3 + 1) (.int .i64 a) = flatN (l.set i ⟨n.is, a, n.b⟩)
  | [], i, n, a, h => by simp at h
  | m :: l, 0, n, a, h => by
    simp only [List.getElem?_cons_zero, Option.some.injEq] at h
    subst h
    simp [flatN]
  | m :: l, i + 1, n, a, h => by
    have e : (i + 1) * 3 + 1 = i * 3 + 1 + 3 := by omega
    rw [e]
    have := flatN_set l i n a (by simpa using h)
    simp [flatN, this]

theorem flatN_get : ∀ (l : List NdM) (i : Nat) (n : NdM), l[i]? = some n → (flatN l)[i * 3]? = some n.is ∧ (flatN l)[i * 3 + 1]? = some (.int .i64 n.a) ∧ (flatN l)[i * 3 + 2]? = some (.int .i64 n.b)
  | [], i, n, h => by simp at h
  | m :: l, 0, n, h => by
    simp only [List.getElem?_cons_zero, Option.some.injEq] at h
    subst h
    simp [flatN]
  | m :: l, i + 1, n, h => by
    have e : (i + 1) * 3 = i * 3 + 3 := by omega
    have := flatN_get l i n (by simpa using h)
    rw [e, show i * 3 + 3 + 1 = i * 3 + 1 + 3 by omega, show i * 3 + 3 + 2 = i * 3 + 2 + 3 by omega]
    simpa [flatN] using this

theorem NRep.get {w : World} {B : Nat} : ∀ {ns : List NdM} {N : List Nd} {i : Nat} {d : Nd}, NRep lw w B ns N → N[i]? = some d → ∃ n, ns[i]? = some n ∧ NodeIs lw w B n d
  | [], [], i, d, _, hi => by simp at hi
  | n :: _, _ :: _, 0, d, h, hi => by
    simp only [List.getElem?_cons_zero, Option.some.injEq] at hi
    subst hi
    exact ⟨n, rfl, h.1⟩
  | _ :: _, _ :: _, i + 1, d, h, hi => by
    obtain ⟨n, h1, h2⟩ := NRep.get h.2 (by simpa using hi)
    exact ⟨n, by simpa using h1, h2⟩
  | [], _ :: _, _, _, h, _ => h.elim
  | _ :: _, [], _, _, h, _ => h.elim

theorem NRep.set {w : World} {B : Nat} {n : NdM} {d : Nd} (hd : NodeIs lw w B n d) : ∀ {ns : List NdM} {N : List Nd} (i : Nat), NRep lw w B ns N → NRep lw w B (ns.set i n) (N.set i d)
  | [], [], _, _ => trivial
  | _ :: _, _ :: _, 0, h => ⟨hd, h.2⟩
  | _ :: _, _ :: _, i + 1, h => ⟨h.1, NRep.set hd i h.2⟩
  | [], _ :: _, _, h => h.elim
  | _ :: _, [], _, h => h.elim

theorem Gr.row {rb : Nat} {v : Value} {ns : List NdM} {w : World} (h : Gr rb v ns w) (hn : 0 < ns.length) : ∃ g cap, v = .slice (some ⟨g, 0, none⟩) ns.length cap ∧ rb - 1 ≤ g ∧ g < w.heap.size ∧ g ≠ rb := by
  rcases h.own.2 with ⟨_, h0⟩ | ⟨g, cap, cur, hv, hg, hb, _⟩
  · omega
  · refine ⟨g, cap, hv, hg, ?_, fun e => h.ne (by rw [hv, ← e]; rfl)⟩
    rcases Nat.lt_or_ge g w.heap.size with hl | hl
    · exact hl
    · rw [Array.getElem?_eq_none hl] at hb; cases hb

/-- The nodes' cells, as they are read. -/
theorem Gr.node {rb g cap : Nat} {ns : List NdM} {w : World} {i : Nat} {n : NdM} (h : Gr rb (.slice (some ⟨g, 0, none⟩) ns.length cap) ns w) (hi : ns[i]? = some n) :
    w.cell? ⟨g, i * 3, none⟩ = some n.is ∧ w.cell? ⟨g, i * 3 + 1, none⟩ = some (.int .i64 n.a) ∧ w.cell? ⟨g, i * 3 + 2, none⟩ = some (.int .i64 n.b) ∧ (∀ j, w.frozen? ⟨g, j, none⟩ = false) := by
  have hl := (List.getElem?_eq_some_iff.1 hi).1
  have hf := flatN_get ns i n hi
  exact ⟨by rw [h.own.cellAt _ (by omega)]; exact hf.1, by rw [h.own.cellAt _ (by omega)]; exact hf.2.1, by rw [h.own.cellAt _ (by omega)]; exact hf.2.2, fun j => h.own.frozenAt j⟩

theorem Gr.stored {rb g cap : Nat} {ns : List NdM} {w : World} {i : Nat} {n : NdM} (h : Gr rb (.slice (some ⟨g, 0, none⟩) ns.length cap) ns w) (hi : ns[i]? = some n) (a : Int) :
    Gr rb (.slice (some ⟨g, 0, none⟩) ns.length cap) (ns.set i ⟨n.is, a, n.b⟩) (w.setCell ⟨g, i * 3 + 1, none⟩ (.int .i64 a)) := by
  have hg : rb ≠ g := fun e => h.ne (by rw [e]; rfl)
  have hb : (w.setCell ⟨g, i * 3 + 1, none⟩ (.int .i64 a)).heap[rb]? = w.heap[rb]? := setCell_block_ne _ _ _ _ hg
  refine ⟨(World.cell?_of_block (w := w) hb).trans h.cell, (World.frozen?_of_block (w := w) hb).trans h.free, ?_, h.ne⟩
  have := (h.own.stored (i * 3 + 1) (.int .i64 a)).1
  rw [flatN_set ns i n a hi] at this
  rw [List.length_set]
  exact this

theorem GMoved.stored {rb g j : Nat} {v0 v : Value} {w0 w : World} (m : GMoved rb v0 v w0 w) (hv : v.ownBlock = some g) (hg : g ≠ rb) (hlo : rb - 1 ≤ g) (u : Value) : GMoved rb v0 v w0 (w.setCell ⟨g, j, none⟩ u) where
  below := m.below.setCell (p := ⟨g, j, none⟩) hlo u
  self := (setCell_block_ne _ _ _ _ (fun e => hg e.symm)).trans m.self
  keep := fun k hk hne ho => by
    refine (setCell_block_ne _ _ _ _ fun e => ?_).trans (m.keep k hk hne ho)
    simp only at e
    subst e
    rcases m.own with h | ⟨g', h, hg'⟩
    · exact ho (h ▸ hv)
    · rw [hv] at h
      injection h with h
      omega
  own := m.own

/-- An older part of the graph stays. -/
theorem add_old {k : Re} (hw : Re.WF k) (x : Nat) (N : List Nd) (i : Nat) (hi : i < N.length) : (Re.add k x N).2[i]? = N[i]? := (Re.add_piece k hw x N).old i hi

theorem iter_len {f : Nat → List Nd → Nat × List Nd} (hf : ∀ x N, N.length ≤ (f x N).2.length) : ∀ (j : Nat) (y : Nat × List Nd), y.2.length ≤ (iter f j y).2.length
  | 0, _ => Nat.le_refl _
  | j + 1, y => Nat.le_trans (hf y.1 y.2) (iter_len hf j _)

theorem optional_len (k : Re) (next : Nat) (x : Nat) (N : List Nd) : N.length ≤ (optional (Re.add k) next x N).2.length := by
  have := add_len k x N; simp only [optional, List.length_append, List.length_singleton]; omega

/-- A loop that builds: g rounds are left, and they lead to X. -/
def LpRel (lw : Nat) (w0 : World) (rb : Nat) (v0 : Value) (f : Nat → List Nd → Nat × List Nd) (X : Nat × List Nd) (n : Int) (g : Nat) (at_ i : Value) (wr : World) : Prop :=
  ∃ (x : Nat × List Nd) (q : Int) (v : Value) (ns : List NdM), iter f g x = X ∧ i = .int .i64 q ∧ 0 ≤ q ∧ q ≤ 99 ∧ g = (n - q).toNat ∧ at_ = .int .i64 x.1 ∧ Gr rb v ns wr ∧ NRep lw wr (rb - 1) ns x.2 ∧ GMoved rb v0 v w0 wr

end Go.Proofs.YtgcmjidphoklkaaGreatDoor.Rx
