/- Layer 24's New: the tree while it is made. -/
import Derived.Test.YteemciknbiloiaaGreatDoorRtL
namespace Go.Proofs.YteemciknbiloiaaGreatDoor.Ih
open Go.RowKit

attribute [local go_sem] run_store_one

/-- The blocks of a tree that turn while it is made. -/
def dyn (tb kb : Nat) (lv sv kv : Value) : List Nat := tb :: kb :: (lv.ownBlock.toList ++ (sv.ownBlock.toList ++ kv.ownBlock.toList))

theorem mem_dyn {tb kb d : Nat} {lv sv kv : Value} : d ∈ dyn tb kb lv sv kv ↔ d = tb ∨ d = kb ∨ lv.ownBlock = some d ∨ sv.ownBlock = some d ∨ kv.ownBlock = some d := by
  simp [dyn]

def kidsOf (n : Nat) : List Value := (List.range n).map fun (i : Nat) => .int .i64 ((i : Int) + 1)

/-- A tree while it is made: the routes of its first row, of its second, how many kids the first one has. -/
structure TrAt (w : World) (tb kb lo n : Nat) (lv sv kv : Value) (pl ps : List (Rt × Rec)) (m : Nat) : Prop where
  ltt : tb < w.heap.size
  ltk : kb < w.heap.size
  t0 : w.cell? ⟨tb, 0, none⟩ = some lv
  t1 : w.cell? ⟨tb, 1, none⟩ = some sv
  t2 : w.cell? ⟨tb, 2, none⟩ = some (.slice (some ⟨kb, 0, none⟩) n n)
  tf : ∀ k, w.frozen? ⟨tb, k, none⟩ = false
  k0 : w.cell? ⟨kb, 0, none⟩ = some kv
  kr : ∀ j, 0 < j → j < n → w.cell? ⟨kb, j, none⟩ = some (.slice none 0 0)
  kf : ∀ k, w.frozen? ⟨kb, k, none⟩ = false
  ol : w.ownsRow lo 33 9 lv pl.length (flatR pl)
  os : w.ownsRow lo 63 1 sv ps.length (ps.map fun p => saysFn p.2)
  ok : w.ownsRow lo 3 1 kv m (kidsOf m)
  ntk : tb ≠ kb
  nl : ∀ g, lv.ownBlock = some g → g ≠ tb ∧ g ≠ kb ∧ sv.ownBlock ≠ some g ∧ kv.ownBlock ≠ some g
  ns : ∀ g, sv.ownBlock = some g → g ≠ tb ∧ g ≠ kb ∧ kv.ownBlock ≠ some g
  nk : ∀ g, kv.ownBlock = some g → g ≠ tb ∧ g ≠ kb
  off : ∀ p, p ∈ pl → Off (dyn tb kb lv sv kv) w (fun w' => RecAt w' p.1 p.2)
  hi : ∀ p, p ∈ pl → p.2.lo ≤ p.2.hi ∧ p.2.hi ≤ w.heap.size ∧ ∀ d, d ∈ dyn tb kb lv sv kv → d < p.2.lo ∨ p.2.hi ≤ d
  sep : pl.Pairwise fun a b => a.2.hi ≤ b.2.lo
  base : ∀ p, p ∈ pl → lo ≤ p.2.lo

theorem TrAt.below {w w' : World} {tb kb lo n : Nat} {lv sv kv : Value} {pl ps : List (Rt × Rec)} {m : Nat} (h : TrAt w tb kb lo n lv sv kv pl ps m) (hb : Below w.heap.size w w') : TrAt w' tb kb lo n lv sv kv pl ps m where
  ltt := Nat.lt_of_lt_of_le h.ltt hb.size
  ltk := Nat.lt_of_lt_of_le h.ltk hb.size
  t0 := (hb.cell (p := ⟨tb, 0, none⟩) h.ltt).trans h.t0
  t1 := (hb.cell (p := ⟨tb, 1, none⟩) h.ltt).trans h.t1
  t2 := (hb.cell (p := ⟨tb, 2, none⟩) h.ltt).trans h.t2
  tf := fun k => (hb.frozen (p := ⟨tb, k, none⟩) h.ltt).trans (h.tf k)
  k0 := (hb.cell (p := ⟨kb, 0, none⟩) h.ltk).trans h.k0
  kr := fun j h1 h2 => (hb.cell (p := ⟨kb, j, none⟩) h.ltk).trans (h.kr j h1 h2)
  kf := fun k => (hb.frozen (p := ⟨kb, k, none⟩) h.ltk).trans (h.kf k)
  ol := ownsRow_agree h.ol fun g hg => hb.block g (h.ol.lt g hg).2
  os := ownsRow_agree h.os fun g hg => hb.block g (h.os.lt g hg).2
  ok := ownsRow_agree h.ok fun g hg => hb.block g (h.ok.lt g hg).2
  ntk := h.ntk
  nl := h.nl
  ns := h.ns
  nk := h.nk
  off := fun p hp => (h.off p hp).below hb
  hi := fun p hp => ⟨(h.hi p hp).1, Nat.le_trans (h.hi p hp).2.1 hb.size, (h.hi p hp).2.2⟩
  sep := h.sep
  base := h.base

/-- One route more in the first row. -/
theorem TrAt.addL {Z V1 : World} {tb kb lo n g cap : Nat} {lv sv kv : Value} {pl ps : List (Rt × Rec)} {m : Nat} {p : Rt × Rec} (h : TrAt Z tb kb lo n lv sv kv pl ps m)
    (hown : V1.ownsRow lo 33 9 (.slice (some ⟨g, 0, none⟩) (pl.length + 1) cap) (pl.length + 1) (flatR pl ++ rtCells p.1 p.2)) (hgrow : Z.grownBy V1 lv.ownBlock) (hat : lv.ownBlock = some g ∨ Z.heap.size ≤ g)
    (hp : Off (dyn tb kb lv sv kv) Z (fun w' => RecAt w' p.1 p.2)) (h1 : p.2.lo ≤ p.2.hi) (h2 : p.2.hi ≤ Z.heap.size) (h3 : ∀ d, d ∈ dyn tb kb lv sv kv → d < p.2.lo ∨ p.2.hi ≤ d) (h4 : ∀ q, q ∈ pl → q.2.hi ≤ p.2.lo) (h5 : lo ≤ p.2.lo) :
    V1.cell? ⟨tb, 0, none⟩ = some lv ∧ V1.frozen? ⟨tb, 0, none⟩ = false ∧ TrAt (V1.setCell ⟨tb, 0, none⟩ (.slice (some ⟨g, 0, none⟩) (pl.length + 1) cap)) tb kb lo n (.slice (some ⟨g, 0, none⟩) (pl.length + 1) cap) sv kv (pl ++ [p]) ps m := by
  have hs := hgrow.size
  have hgo : ∀ d, (Value.slice (some ⟨g, 0, none⟩) (pl.length + 1) cap).ownBlock = some d ↔ g = d := fun d => by simp [Value.ownBlock]
  have gne : ∀ d, d < Z.heap.size → lv.ownBlock ≠ some d → g ≠ d := fun d hd hn e => by
    rcases hat with q | q
    · exact hn (by rw [q, e])
    · omega
  have ltb : lv.ownBlock ≠ some tb := fun e => (h.nl tb e).1 rfl
  have lkb : lv.ownBlock ≠ some kb := fun e => (h.nl kb e).2.1 rfl
  have e1 : ∀ k, k < Z.heap.size → lv.ownBlock ≠ some k → V1.heap[k]? = Z.heap[k]? := fun k hk hn => hgrow.block k hk (fun e => hn e.symm)
  have e2 : ∀ k, k < Z.heap.size → lv.ownBlock ≠ some k → k ≠ tb → (V1.setCell ⟨tb, 0, none⟩ (.slice (some ⟨g, 0, none⟩) (pl.length + 1) cap)).heap[k]? = Z.heap[k]? := fun k hk hn ht => (Below.heap_setCell _ _ _ _ ht).trans (e1 k hk hn)
  have c1 : ∀ j, V1.cell? ⟨tb, j, none⟩ = Z.cell? ⟨tb, j, none⟩ := fun j => World.cell?_of_block (w := Z) (a := ⟨tb, j, none⟩) (e1 tb h.ltt ltb)
  have f1 : ∀ j, V1.frozen? ⟨tb, j, none⟩ = Z.frozen? ⟨tb, j, none⟩ := fun j => World.frozen?_of_block (w := Z) (a := ⟨tb, j, none⟩) (e1 tb h.ltt ltb)
  have ck : ∀ j, (V1.setCell ⟨tb, 0, none⟩ (.slice (some ⟨g, 0, none⟩) (pl.length + 1) cap)).cell? ⟨kb, j, none⟩ = Z.cell? ⟨kb, j, none⟩ := fun j => World.cell?_of_block (w := Z) (a := ⟨kb, j, none⟩) (e2 kb h.ltk lkb (fun e => h.ntk e.symm))
  have fk : ∀ j, (V1.setCell ⟨tb, 0, none⟩ (.slice (some ⟨g, 0, none⟩) (pl.length + 1) cap)).frozen? ⟨kb, j, none⟩ = Z.frozen? ⟨kb, j, none⟩ := fun j => World.frozen?_of_block (w := Z) (a := ⟨kb, j, none⟩) (e2 kb h.ltk lkb (fun e => h.ntk e.symm))
  have hgt : g ≠ tb := gne tb h.ltt ltb
  have hgk : g ≠ kb := gne kb h.ltk lkb
  have hz : (V1.setCell ⟨tb, 0, none⟩ (.slice (some ⟨g, 0, none⟩) (pl.length + 1) cap)).heap.size = V1.heap.size := setCell_size _ _ _
  have hsv : ∀ d, sv.ownBlock = some d → d < Z.heap.size ∧ lv.ownBlock ≠ some d ∧ d ≠ tb := fun d hd => ⟨(h.os.lt d hd).2, fun e => (h.nl d e).2.2.1 hd, (h.ns d hd).1⟩
  have hkv : ∀ d, kv.ownBlock = some d → d < Z.heap.size ∧ lv.ownBlock ≠ some d ∧ d ≠ tb := fun d hd => ⟨(h.ok.lt d hd).2, fun e => (h.nl d e).2.2.2 hd, (h.nk d hd).1⟩
  have hD : ∀ d, d ∈ dyn tb kb (.slice (some ⟨g, 0, none⟩) (pl.length + 1) cap) sv kv → d ∈ dyn tb kb lv sv kv ∨ Z.heap.size ≤ d := fun d hd => by
    rw [mem_dyn, hgo] at hd
    rw [mem_dyn]
    rcases hd with q | q | q | q | q
    · exact .inl (.inl q)
    · exact .inl (.inr (.inl q))
    · rcases hat with a | a
      · exact .inl (.inr (.inr (.inl (by rw [a, q]))))
      · exact .inr (by omega)
    · exact .inl (.inr (.inr (.inr (.inl q))))
    · exact .inl (.inr (.inr (.inr (.inr q))))
  have hoff : ∀ q : Rt × Rec, Off (dyn tb kb lv sv kv) Z (fun w' => RecAt w' q.1 q.2) → Off (dyn tb kb (.slice (some ⟨g, 0, none⟩) (pl.length + 1) cap) sv kv) (V1.setCell ⟨tb, 0, none⟩ (.slice (some ⟨g, 0, none⟩) (pl.length + 1) cap)) (fun w' => RecAt w' q.1 q.2) := fun q hq =>
    hq.step (by rw [hz]; exact hs) (fun k hk hn => e2 k hk (fun e => hn (mem_dyn.2 (.inr (.inr (.inl e))))) (fun e => hn (mem_dyn.2 (.inl e)))) hD
  refine ⟨(c1 0).trans h.t0, (f1 0).trans (h.tf 0), ?_⟩
  refine ⟨by rw [hz]; exact Nat.lt_of_lt_of_le h.ltt hs, by rw [hz]; exact Nat.lt_of_lt_of_le h.ltk hs, World.cell?_setCell_same _ _ _ ((c1 0).trans h.t0), otherR ((c1 1).trans h.t1) (by decide), otherR ((c1 2).trans h.t2) (by decide), fun k => by rw [World.frozen?_setCell]; exact (f1 k).trans (h.tf k),
    (ck 0).trans h.k0, fun j a b => (ck j).trans (h.kr j a b), fun k => (fk k).trans (h.kf k), ?_, ?_, ?_, h.ntk, ?_, h.ns, h.nk, ?_, ?_, ?_, ?_⟩
  · have q : (V1.setCell ⟨tb, 0, none⟩ (.slice (some ⟨g, 0, none⟩) (pl.length + 1) cap)).ownsRow lo 33 9 (.slice (some ⟨g, 0, none⟩) (pl.length + 1) cap) (pl.length + 1) (flatR pl ++ rtCells p.1 p.2) := ownsRow_agree hown fun d hd => Below.heap_setCell _ _ _ _ (by rw [← (hgo d).1 hd]; exact hgt)
    rw [List.length_append, flatR_append]
    simpa [flatR] using q
  · exact ownsRow_agree h.os fun d hd => e2 d (hsv d hd).1 (hsv d hd).2.1 (hsv d hd).2.2
  · exact ownsRow_agree h.ok fun d hd => e2 d (hkv d hd).1 (hkv d hd).2.1 (hkv d hd).2.2
  · intro d hd
    have hd' := (hgo d).1 hd
    subst hd'
    exact ⟨hgt, hgk, fun e => gne g (hsv g e).1 (hsv g e).2.1 rfl, fun e => gne g (hkv g e).1 (hkv g e).2.1 rfl⟩
  · intro q hq
    rcases List.mem_append.1 hq with a | a
    · exact hoff q (h.off q a)
    · rw [List.mem_singleton.1 a]; exact hoff p hp
  · intro q hq
    have h6 : ∀ q : Rt × Rec, q.2.hi ≤ Z.heap.size → (∀ d, d ∈ dyn tb kb lv sv kv → d < q.2.lo ∨ q.2.hi ≤ d) → ∀ d, d ∈ dyn tb kb (.slice (some ⟨g, 0, none⟩) (pl.length + 1) cap) sv kv → d < q.2.lo ∨ q.2.hi ≤ d := fun q a b d hd => by
      rcases hD d hd with c | c
      · exact b d c
      · exact .inr (by omega)
    rcases List.mem_append.1 hq with a | a
    · obtain ⟨x1, x2, x3⟩ := h.hi q a
      exact ⟨x1, by rw [hz]; omega, h6 q x2 x3⟩
    · rw [List.mem_singleton.1 a]
      exact ⟨h1, by rw [hz]; omega, h6 p h2 h3⟩
  · exact List.pairwise_append.2 ⟨h.sep, List.pairwise_singleton _ _, fun a ha b hb => by rw [List.mem_singleton.1 hb]; exact h4 a ha⟩
  · intro q hq
    rcases List.mem_append.1 hq with a | a
    · exact h.base q a
    · rw [List.mem_singleton.1 a]; exact h5

/-- One route more in the second row. -/
theorem TrAt.addS {Z V1 : World} {tb kb lo n g cap : Nat} {lv sv kv : Value} {pl ps : List (Rt × Rec)} {m : Nat} {p : Rt × Rec} (h : TrAt Z tb kb lo n lv sv kv pl ps m)
    (hown : V1.ownsRow lo 63 1 (.slice (some ⟨g, 0, none⟩) (ps.length + 1) cap) (ps.length + 1) ((ps.map fun p => saysFn p.2) ++ [saysFn p.2])) (hgrow : Z.grownBy V1 sv.ownBlock) (hat : sv.ownBlock = some g ∨ Z.heap.size ≤ g) :
    V1.cell? ⟨tb, 1, none⟩ = some sv ∧ V1.frozen? ⟨tb, 1, none⟩ = false ∧ TrAt (V1.setCell ⟨tb, 1, none⟩ (.slice (some ⟨g, 0, none⟩) (ps.length + 1) cap)) tb kb lo n lv (.slice (some ⟨g, 0, none⟩) (ps.length + 1) cap) kv pl (ps ++ [p]) m := by
  have hs := hgrow.size
  have hgo : ∀ d, (Value.slice (some ⟨g, 0, none⟩) (ps.length + 1) cap).ownBlock = some d ↔ g = d := fun d => by simp [Value.ownBlock]
  have gne : ∀ d, d < Z.heap.size → sv.ownBlock ≠ some d → g ≠ d := fun d hd hn e => by
    rcases hat with q | q
    · exact hn (by rw [q, e])
    · omega
  have ltb : sv.ownBlock ≠ some tb := fun e => (h.ns tb e).1 rfl
  have lkb : sv.ownBlock ≠ some kb := fun e => (h.ns kb e).2.1 rfl
  have e1 : ∀ k, k < Z.heap.size → sv.ownBlock ≠ some k → V1.heap[k]? = Z.heap[k]? := fun k hk hn => hgrow.block k hk (fun e => hn e.symm)
  have e2 : ∀ k, k < Z.heap.size → sv.ownBlock ≠ some k → k ≠ tb → (V1.setCell ⟨tb, 1, none⟩ (.slice (some ⟨g, 0, none⟩) (ps.length + 1) cap)).heap[k]? = Z.heap[k]? := fun k hk hn ht => (Below.heap_setCell _ _ _ _ ht).trans (e1 k hk hn)
  have c1 : ∀ j, V1.cell? ⟨tb, j, none⟩ = Z.cell? ⟨tb, j, none⟩ := fun j => World.cell?_of_block (w := Z) (a := ⟨tb, j, none⟩) (e1 tb h.ltt ltb)
  have f1 : ∀ j, V1.frozen? ⟨tb, j, none⟩ = Z.frozen? ⟨tb, j, none⟩ := fun j => World.frozen?_of_block (w := Z) (a := ⟨tb, j, none⟩) (e1 tb h.ltt ltb)
  have ck : ∀ j, (V1.setCell ⟨tb, 1, none⟩ (.slice (some ⟨g, 0, none⟩) (ps.length + 1) cap)).cell? ⟨kb, j, none⟩ = Z.cell? ⟨kb, j, none⟩ := fun j => World.cell?_of_block (w := Z) (a := ⟨kb, j, none⟩) (e2 kb h.ltk lkb (fun e => h.ntk e.symm))
  have fk : ∀ j, (V1.setCell ⟨tb, 1, none⟩ (.slice (some ⟨g, 0, none⟩) (ps.length + 1) cap)).frozen? ⟨kb, j, none⟩ = Z.frozen? ⟨kb, j, none⟩ := fun j => World.frozen?_of_block (w := Z) (a := ⟨kb, j, none⟩) (e2 kb h.ltk lkb (fun e => h.ntk e.symm))
  have hgt : g ≠ tb := gne tb h.ltt ltb
  have hgk : g ≠ kb := gne kb h.ltk lkb
  have hz : (V1.setCell ⟨tb, 1, none⟩ (.slice (some ⟨g, 0, none⟩) (ps.length + 1) cap)).heap.size = V1.heap.size := setCell_size _ _ _
  have hlv : ∀ d, lv.ownBlock = some d → d < Z.heap.size ∧ sv.ownBlock ≠ some d ∧ d ≠ tb := fun d hd => ⟨(h.ol.lt d hd).2, (h.nl d hd).2.2.1, (h.nl d hd).1⟩
  have hkv : ∀ d, kv.ownBlock = some d → d < Z.heap.size ∧ sv.ownBlock ≠ some d ∧ d ≠ tb := fun d hd => ⟨(h.ok.lt d hd).2, fun e => (h.ns d e).2.2 hd, (h.nk d hd).1⟩
  have hD : ∀ d, d ∈ dyn tb kb lv (.slice (some ⟨g, 0, none⟩) (ps.length + 1) cap) kv → d ∈ dyn tb kb lv sv kv ∨ Z.heap.size ≤ d := fun d hd => by
    rw [mem_dyn, hgo] at hd
    rw [mem_dyn]
    rcases hd with q | q | q | q | q
    · exact .inl (.inl q)
    · exact .inl (.inr (.inl q))
    · exact .inl (.inr (.inr (.inl q)))
    · rcases hat with a | a
      · exact .inl (.inr (.inr (.inr (.inl (by rw [a, q])))))
      · exact .inr (by omega)
    · exact .inl (.inr (.inr (.inr (.inr q))))
  refine ⟨(c1 1).trans h.t1, (f1 1).trans (h.tf 1), ?_⟩
  refine ⟨by rw [hz]; exact Nat.lt_of_lt_of_le h.ltt hs, by rw [hz]; exact Nat.lt_of_lt_of_le h.ltk hs, otherR ((c1 0).trans h.t0) (by decide), World.cell?_setCell_same _ _ _ ((c1 1).trans h.t1), otherR ((c1 2).trans h.t2) (by decide), fun k => by rw [World.frozen?_setCell]; exact (f1 k).trans (h.tf k),
    (ck 0).trans h.k0, fun j a b => (ck j).trans (h.kr j a b), fun k => (fk k).trans (h.kf k), ?_, ?_, ?_, h.ntk, ?_, ?_, h.nk, ?_, ?_, h.sep, h.base⟩
  · exact ownsRow_agree h.ol fun d hd => e2 d (hlv d hd).1 (hlv d hd).2.1 (hlv d hd).2.2
  · have q : (V1.setCell ⟨tb, 1, none⟩ (.slice (some ⟨g, 0, none⟩) (ps.length + 1) cap)).ownsRow lo 63 1 (.slice (some ⟨g, 0, none⟩) (ps.length + 1) cap) (ps.length + 1) ((ps.map fun p => saysFn p.2) ++ [saysFn p.2]) := ownsRow_agree hown fun d hd => Below.heap_setCell _ _ _ _ (by rw [← (hgo d).1 hd]; exact hgt)
    rw [List.length_append, List.map_append]
    simpa using q
  · exact ownsRow_agree h.ok fun d hd => e2 d (hkv d hd).1 (hkv d hd).2.1 (hkv d hd).2.2
  · intro d hd
    obtain ⟨a1, a2, a3, a4⟩ := h.nl d hd
    exact ⟨a1, a2, fun e => gne d (hlv d hd).1 a3 ((hgo d).1 e), a4⟩
  · intro d hd
    have hd' := (hgo d).1 hd
    subst hd'
    exact ⟨hgt, hgk, fun e => gne g (hkv g e).1 (hkv g e).2.1 rfl⟩
  · intro q hq
    exact (h.off q hq).step (by rw [hz]; exact hs) (fun k hk hn => e2 k hk (fun e => hn (mem_dyn.2 (.inr (.inr (.inr (.inl e)))))) (fun e => hn (mem_dyn.2 (.inl e)))) hD
  · intro q hq
    obtain ⟨x1, x2, x3⟩ := h.hi q hq
    refine ⟨x1, by rw [hz]; omega, fun d hd => ?_⟩
    rcases hD d hd with c | c
    · exact x3 d c
    · exact .inr (by omega)

theorem kidsOf_succ (m : Nat) : kidsOf (m + 1) = kidsOf m ++ [.int .i64 ((m : Int) + 1)] := by simp [kidsOf, List.range_succ]

/-- One kid more. -/
theorem TrAt.addK {Z V1 : World} {tb kb lo n g cap : Nat} {lv sv kv : Value} {pl ps : List (Rt × Rec)} {m : Nat} (h : TrAt Z tb kb lo n lv sv kv pl ps m)
    (hown : V1.ownsRow lo 3 1 (.slice (some ⟨g, 0, none⟩) (m + 1) cap) (m + 1) (kidsOf m ++ [.int .i64 ((m : Int) + 1)])) (hgrow : Z.grownBy V1 kv.ownBlock) (hat : kv.ownBlock = some g ∨ Z.heap.size ≤ g) :
    V1.cell? ⟨kb, 0, none⟩ = some kv ∧ V1.frozen? ⟨kb, 0, none⟩ = false ∧ TrAt (V1.setCell ⟨kb, 0, none⟩ (.slice (some ⟨g, 0, none⟩) (m + 1) cap)) tb kb lo n lv sv (.slice (some ⟨g, 0, none⟩) (m + 1) cap) pl ps (m + 1) := by
  have hs := hgrow.size
  have hgo : ∀ d, (Value.slice (some ⟨g, 0, none⟩) (m + 1) cap).ownBlock = some d ↔ g = d := fun d => by simp [Value.ownBlock]
  have gne : ∀ d, d < Z.heap.size → kv.ownBlock ≠ some d → g ≠ d := fun d hd hn e => by
    rcases hat with q | q
    · exact hn (by rw [q, e])
    · omega
  have ltb : kv.ownBlock ≠ some tb := fun e => (h.nk tb e).1 rfl
  have lkb : kv.ownBlock ≠ some kb := fun e => (h.nk kb e).2 rfl
  have e1 : ∀ k, k < Z.heap.size → kv.ownBlock ≠ some k → V1.heap[k]? = Z.heap[k]? := fun k hk hn => hgrow.block k hk (fun e => hn e.symm)
  have e2 : ∀ k, k < Z.heap.size → kv.ownBlock ≠ some k → k ≠ kb → (V1.setCell ⟨kb, 0, none⟩ (.slice (some ⟨g, 0, none⟩) (m + 1) cap)).heap[k]? = Z.heap[k]? := fun k hk hn ht => (Below.heap_setCell _ _ _ _ ht).trans (e1 k hk hn)
  have c1 : ∀ j, V1.cell? ⟨kb, j, none⟩ = Z.cell? ⟨kb, j, none⟩ := fun j => World.cell?_of_block (w := Z) (a := ⟨kb, j, none⟩) (e1 kb h.ltk lkb)
  have f1 : ∀ j, V1.frozen? ⟨kb, j, none⟩ = Z.frozen? ⟨kb, j, none⟩ := fun j => World.frozen?_of_block (w := Z) (a := ⟨kb, j, none⟩) (e1 kb h.ltk lkb)
  have ck : ∀ j, (V1.setCell ⟨kb, 0, none⟩ (.slice (some ⟨g, 0, none⟩) (m + 1) cap)).cell? ⟨tb, j, none⟩ = Z.cell? ⟨tb, j, none⟩ := fun j => World.cell?_of_block (w := Z) (a := ⟨tb, j, none⟩) (e2 tb h.ltt ltb h.ntk)
  have fk : ∀ j, (V1.setCell ⟨kb, 0, none⟩ (.slice (some ⟨g, 0, none⟩) (m + 1) cap)).frozen? ⟨tb, j, none⟩ = Z.frozen? ⟨tb, j, none⟩ := fun j => World.frozen?_of_block (w := Z) (a := ⟨tb, j, none⟩) (e2 tb h.ltt ltb h.ntk)
  have hgt : g ≠ tb := gne tb h.ltt ltb
  have hgk : g ≠ kb := gne kb h.ltk lkb
  have hz : (V1.setCell ⟨kb, 0, none⟩ (.slice (some ⟨g, 0, none⟩) (m + 1) cap)).heap.size = V1.heap.size := setCell_size _ _ _
  have hlv : ∀ d, lv.ownBlock = some d → d < Z.heap.size ∧ kv.ownBlock ≠ some d ∧ d ≠ kb := fun d hd => ⟨(h.ol.lt d hd).2, (h.nl d hd).2.2.2, (h.nl d hd).2.1⟩
  have hsv : ∀ d, sv.ownBlock = some d → d < Z.heap.size ∧ kv.ownBlock ≠ some d ∧ d ≠ kb := fun d hd => ⟨(h.os.lt d hd).2, (h.ns d hd).2.2, (h.ns d hd).2.1⟩
  have hD : ∀ d, d ∈ dyn tb kb lv sv (.slice (some ⟨g, 0, none⟩) (m + 1) cap) → d ∈ dyn tb kb lv sv kv ∨ Z.heap.size ≤ d := fun d hd => by
    rw [mem_dyn, hgo] at hd
    rw [mem_dyn]
    rcases hd with q | q | q | q | q
    · exact .inl (.inl q)
    · exact .inl (.inr (.inl q))
    · exact .inl (.inr (.inr (.inl q)))
    · exact .inl (.inr (.inr (.inr (.inl q))))
    · rcases hat with a | a
      · exact .inl (.inr (.inr (.inr (.inr (by rw [a, q])))))
      · exact .inr (by omega)
  refine ⟨(c1 0).trans h.k0, (f1 0).trans (h.kf 0), ?_⟩
  refine ⟨by rw [hz]; exact Nat.lt_of_lt_of_le h.ltt hs, by rw [hz]; exact Nat.lt_of_lt_of_le h.ltk hs, (ck 0).trans h.t0, (ck 1).trans h.t1, (ck 2).trans h.t2, fun k => (fk k).trans (h.tf k),
    World.cell?_setCell_same _ _ _ ((c1 0).trans h.k0), fun j a b => otherR ((c1 j).trans (h.kr j a b)) (by omega), fun k => by rw [World.frozen?_setCell]; exact (f1 k).trans (h.kf k), ?_, ?_, ?_, h.ntk, ?_, ?_, ?_, ?_, ?_, h.sep, h.base⟩
  · exact ownsRow_agree h.ol fun d hd => e2 d (hlv d hd).1 (hlv d hd).2.1 (hlv d hd).2.2
  · exact ownsRow_agree h.os fun d hd => e2 d (hsv d hd).1 (hsv d hd).2.1 (hsv d hd).2.2
  · rw [kidsOf_succ]
    exact ownsRow_agree hown fun d hd => Below.heap_setCell _ _ _ _ (by rw [← (hgo d).1 hd]; exact hgk)
  · intro d hd
    obtain ⟨a1, a2, a3, a4⟩ := h.nl d hd
    exact ⟨a1, a2, a3, fun e => gne d (hlv d hd).1 a4 ((hgo d).1 e)⟩
  · intro d hd
    obtain ⟨a1, a2, a3⟩ := h.ns d hd
    exact ⟨a1, a2, fun e => gne d (hsv d hd).1 a3 ((hgo d).1 e)⟩
  · intro d hd
    have hd' := (hgo d).1 hd
    subst hd'
    exact ⟨hgt, hgk⟩
  · intro q hq
    exact (h.off q hq).step (by rw [hz]; exact hs) (fun k hk hn => e2 k hk (fun e => hn (mem_dyn.2 (.inr (.inr (.inr (.inr e)))))) (fun e => hn (mem_dyn.2 (.inr (.inl e))))) hD
  · intro q hq
    obtain ⟨x1, x2, x3⟩ := h.hi q hq
    refine ⟨x1, by rw [hz]; omega, fun d hd => ?_⟩
    rcases hD d hd with c | c
    · exact x3 d c
    · exact .inr (by omega)

end Go.Proofs.YteemciknbiloiaaGreatDoor.Ih
