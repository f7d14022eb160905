/- The graph in memory and the graph of the plain theory. -/
import Derived.Test.YtgcmjidphoklkaaGreatDoorRxGa
namespace Go.Proofs.YtgcmjidphoklkaaGreatDoor.Rx
open Go.RowKit Go.Sort
variable {lw : Nat}

/-- The node n is d; what it needs lies below B. -/
def NodeIs (lw : Nat) (w : World) (B : Nat) (n : NdM) : Nd → Prop
  | .rune p a => (∃ C, (∀ k, k ∈ C → lw ≤ k ∧ k < B) ∧ IsP w C n.is p) ∧ n.a = a ∧ n.b = 0
  | .ways a b => n.is = .nilFunc ∧ n.a = a ∧ n.b = b

def NRep (lw : Nat) (w : World) (B : Nat) : List NdM → List Nd → Prop
  | [], [] => True
  | n :: ns, d :: N => NodeIs lw w B n d ∧ NRep lw w B ns N
  | _, _ => False

theorem NRep.length {w : World} {B : Nat} : ∀ {ns : List NdM} {N : List Nd}, NRep lw w B ns N → ns.length = N.length
  | [], [], _ => rfl
  | _ :: _, _ :: _, h => by simp [NRep.length h.2]
  | [], _ :: _, h => h.elim
  | _ :: _, [], h => h.elim

theorem NodeIs.like {w w' : World} {B : Nat} {n : NdM} {d : Nd} (h : NodeIs lw w B n d) (e : ∀ k, lw ≤ k → k < B → w'.heap[k]? = w.heap[k]?) (hs : w.heap.size ≤ w'.heap.size) : NodeIs lw w' B n d := by
  cases d with
  | rune p a =>
    obtain ⟨⟨C, hC, hp⟩, h1⟩ := h
    exact ⟨⟨C, hC, hp.like ⟨fun k hk => e k (hC k hk).1 (hC k hk).2, hs⟩⟩, h1⟩
  | ways a b => exact h

theorem NRep.like {w w' : World} {B : Nat} (e : ∀ k, lw ≤ k → k < B → w'.heap[k]? = w.heap[k]?) (hs : w.heap.size ≤ w'.heap.size) : ∀ {ns : List NdM} {N : List Nd}, NRep lw w B ns N → NRep lw w' B ns N
  | [], [], _ => trivial
  | _ :: _, _ :: _, h => ⟨h.1.like e hs, h.2.like e hs⟩
  | [], _ :: _, h => h.elim
  | _ :: _, [], h => h.elim

theorem NRep.snoc {w : World} {B : Nat} {n : NdM} {d : Nd} (hd : NodeIs lw w B n d) : ∀ {ns : List NdM} {N : List Nd}, NRep lw w B ns N → NRep lw w B (ns ++ [n]) (N ++ [d])
  | [], [], _ => ⟨hd, trivial⟩
  | _ :: _, _ :: _, h => ⟨h.1, h.2.snoc hd⟩
  | [], _ :: _, h => h.elim
  | _ :: _, [], h => h.elim

theorem GMoved.size {rb : Nat} {v v' : Value} {w w' : World} (h : GMoved rb v v' w w') : w.heap.size ≤ w'.heap.size := h.below.size

theorem GMoved.block {rb : Nat} {v v' : Value} {w w' : World} (h : GMoved rb v v' w w') {k : Nat} (hk : k + 1 < rb) : w'.heap[k]? = w.heap[k]? :=
  h.below.block k (by omega)

theorem GMoved.trans {rb : Nat} {v v1 v2 : Value} {w w1 w2 : World} (h : GMoved rb v v1 w w1) (h2 : GMoved rb v1 v2 w1 w2) : GMoved rb v v2 w w2 where
  below := h.below.trans h2.below
  self := by
    have h3 := setCell_self_block h.self 10 v2
    rw [setCell_twice] at h3
    exact h2.self.trans h3
  keep := fun k hk hne ho => by
    have hs := h.size
    refine (h2.keep k (by omega) hne fun e => ?_).trans (h.keep k hk hne ho)
    rcases h.own with h1 | ⟨g, h1, hg⟩
    · exact ho (h1 ▸ e)
    · rw [h1] at e
      injection e with e
      omega
  own := by
    have hs := h.size
    rcases h2.own with h1 | ⟨g, h1, hg⟩
    · rcases h.own with h3 | ⟨g, h3, hg⟩
      · exact .inl (h1.trans h3)
      · exact .inr ⟨g, h1.trans h3, hg⟩
    · exact .inr ⟨g, h1, by omega⟩

theorem PV.gmoved {N : Re → Int} {r : Re} {c : P9} {K C : List Nat} {rb : Nat} {v v' : Value} {w w' : World} (h : PV N w r c K C) (hK : ∀ k, k ∈ K ++ C → lw ≤ k ∧ k + 1 < rb) (m : GMoved rb v v' w w') : PV N w' r c K C :=
  h.like ⟨fun k hk => m.block (hK k hk).2, m.size⟩

/-- What adding a part does. -/
def Adds (lw rb : Nat) (v : Value) (w : World) (x : Nat × List Nd) (e : Ending) (w' : World) : Prop :=
  e = .returned (.int .i64 x.1) ∧ ∃ v' ns', Gr rb v' ns' w' ∧ NRep lw w' (rb - 1) ns' x.2 ∧ GMoved rb v v' w w'

def AddSaid (r : Re) : Prop := ∀ (lw : Nat) (w : World) (rb : Nat) (v : Value) (ns : List NdM) (N : List Nd) (c : P9) (K C : List Nat) (next : Nat), PV Re.cnt w r c K C → (∀ k, k ∈ K ++ C → lw ≤ k ∧ k + 1 < rb) → Gr rb v ns w → NRep lw w (rb - 1) ns N → rb < w.heap.size →
  (Re.add r next N).2.length ≤ 1000000 → Calls Tryz.prog 44 #[.pointer (some ⟨rb, 0, none⟩), c.agg, .int .i64 next] w (Adds lw rb v w (Re.add r next N))

end Go.Proofs.YtgcmjidphoklkaaGreatDoor.Rx
