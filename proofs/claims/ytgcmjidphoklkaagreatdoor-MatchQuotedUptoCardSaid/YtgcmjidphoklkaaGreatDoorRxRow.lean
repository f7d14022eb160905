/- What a row holds while it is read. -/
import Derived.Test.YtgcmjidphoklkaaGreatDoorRxWj
namespace Go.Proofs.YtgcmjidphoklkaaGreatDoor.Rx
open Go.RowKit Go.Sort

abbrev P9.list (c : P9) : List Value := [.int .i64 c.kind, c.is, .bool c.plain, .int .i32 c.r, c.kids, .int .i64 c.least, .int .i64 c.most, .bool c.brace, .int .i64 c.n]
def flat (cs : List P9) : List Value := cs.flatMap P9.list

theorem flat_cons (c : P9) (cs : List P9) : flat (c :: cs) = c.list ++ flat cs := by simp [flat]
theorem flat_snoc (c : P9) (cs : List P9) : flat (cs ++ [c]) = flat cs ++ c.list := by simp [flat]
theorem flat_length (cs : List P9) : (flat cs).length = cs.length * 9 := by
  induction cs with
  | nil => rfl
  | cons c cs ih => rw [flat_cons]; simp [ih]; omega

abbrev noN : Re → Int := fun _ => 0

def AllRe (w : World) : List Re → List P9 → List Nat → List Nat → Prop
  | [], [], K, C => K = [] ∧ C = []
  | r :: l, c :: cs, K, C => ∃ K1 K2 C1 C2, K = K1 ++ K2 ∧ C = C1 ++ C2 ∧ PV noN w r c K1 C1 ∧ AllRe w l cs K2 C2
  | _, _, _, _ => False

theorem AllRe.length {w : World} : ∀ {l : List Re} {cs : List P9} {K C : List Nat}, AllRe w l cs K C → l.length = cs.length
  | [], [], _, _, _ => rfl
  | [], _ :: _, _, _, h => h.elim
  | _ :: _, [], _, _, h => h.elim
  | _ :: _, _ :: _, _, _, ⟨_, _, _, _, _, _, _, h⟩ => by simp [h.length]

theorem AllRe.like {w w' : World} : ∀ {l : List Re} {cs : List P9} {K C : List Nat}, Like (K ++ C) w w' → AllRe w l cs K C → AllRe w' l cs K C
  | [], [], _, _, _, h => h
  | [], _ :: _, _, _, _, h => h.elim
  | _ :: _, [], _, _, _, h => h.elim
  | r :: l, c :: cs, K, C, hl, ⟨K1, K2, C1, C2, e1, e2, hp, h⟩ => by
    subst e1 e2
    refine ⟨K1, K2, C1, C2, rfl, rfl, hp.like (hl.sub fun k hk => ?_), h.like (hl.sub fun k hk => ?_)⟩
    · rcases List.mem_append.1 hk with hk | hk <;> simp [hk]
    · rcases List.mem_append.1 hk with hk | hk <;> simp [hk]

theorem AllRe.snoc {w : World} {r : Re} {c : P9} {K1 C1 : List Nat} (hp : PV noN w r c K1 C1) : ∀ {l : List Re} {cs : List P9} {K C : List Nat}, AllRe w l cs K C → AllRe w (l ++ [r]) (cs ++ [c]) (K ++ K1) (C ++ C1)
  | [], [], _, _, ⟨e1, e2⟩ => by subst e1 e2; exact ⟨K1, [], C1, [], by simp, by simp, hp, rfl, rfl⟩
  | [], _ :: _, _, _, h => h.elim
  | _ :: _, [], _, _, h => h.elim
  | a :: l, d :: cs, _, _, ⟨K2, K3, C2, C3, e1, e2, hq, h⟩ => by
    subst e1 e2
    exact ⟨K2, K3 ++ K1, C2, C3 ++ C1, by simp, by simp, hq, h.snoc hp⟩

theorem Cells9.of_list {w : World} {b o : Nat} {c : P9} (h : ∀ j : Nat, j < 9 → w.cell? ⟨b, o + j, none⟩ = c.list[j]?) : Cells9 w b o c :=
  ⟨h 0 (by omega), h 1 (by omega), h 2 (by omega), h 3 (by omega), h 4 (by omega), h 5 (by omega), h 6 (by omega), h 7 (by omega), h 8 (by omega)⟩

theorem KidsAt.of_row {w : World} {b : Nat} : ∀ (l : List Re) (cs : List P9) (o : Nat) (K C : List Nat), (∀ j : Nat, j < cs.length * 9 → w.cell? ⟨b, o + j, none⟩ = (flat cs)[j]?) → AllRe w l cs K C → KidsAt w (PVL noN w l) b o K C
  | [], [], _, _, _, _, h => h
  | [], _ :: _, _, _, _, _, h => h.elim
  | _ :: _, [], _, _, _, _, h => h.elim
  | r :: l, c :: cs, o, K, C, hc, ⟨K1, K2, C1, C2, e1, e2, hp, h⟩ => by
    subst e1 e2
    refine ⟨c, K1, K2, C1, C2, rfl, rfl, Cells9.of_list fun j hj => ?_, hp, KidsAt.of_row l cs (o + 9) K2 C2 (fun j hj => ?_) h⟩
    · rw [hc j (by simp; omega), flat_cons, List.getElem?_append_left (by simpa using hj)]
    · have := hc (9 + j) (by simp; omega)
      rw [flat_cons, List.getElem?_append_right (by simp)] at this
      rw [show o + 9 + j = o + (9 + j) by omega, this]
      simp

/-- The cells of a row. -/
abbrev rowC (v : Value) : P9 := ⟨1, .nilFunc, false, 0, v, 0, 0, false, 0⟩

theorem Sep.append {K1 K2 C1 C2 : List Nat} {B : Nat} (h1 : Sep K1 C1) (h2 : Sep K2 C2) (hl : ∀ k, k ∈ K1 ++ C1 → k < B) (hr : ∀ k, k ∈ K2 ++ C2 → B ≤ k) : Sep (K1 ++ K2) (C1 ++ C2) := by
  refine ⟨List.nodup_append.2 ⟨h1.nodup, h2.nodup, fun a ha b hb e => ?_⟩, fun k hk hc => ?_⟩
  · have := hl a (by simp [ha]); have := hr b (by simp [hb]); omega
  · rcases List.mem_append.1 hk with hk | hk <;> rcases List.mem_append.1 hc with hc | hc
    · exact h1.apart k hk hc
    · have := hl k (by simp [hk]); have := hr k (by simp [hc]); omega
    · have := hl k (by simp [hc]); have := hr k (by simp [hk]); omega
    · exact h2.apart k hk hc

structure RowSt (w0 : World) (b r p j : Nat) (l : List Re) (cs : List P9) (v : Value) (K C : List Nat) (w : World) : Prop where
  mv : Moved w0 w b j
  le : j ≤ w.heap.size + j
  z : Z9 w r
  cp : Cells9 w p 0 (rowC v)
  fp : ∀ o, w.frozen? ⟨p, o, none⟩ = false
  own : w.ownsRow (p + 1) 92 9 v l.length (flat cs)
  all : AllRe w l cs K C
  inb : InB (p + 1) w.heap.size (K ++ C)
  sep : Sep K C
  osep : ∀ g, v.ownBlock = some g → g ∉ K ++ C
  nil : l = [] → v = .slice none 0 0
  len : l.length ≤ j

theorem RowSt.like {w0 w w' : World} {b r p j j' : Nat} {l : List Re} {cs : List P9} {v : Value} {K C : List Nat} (h : RowSt w0 b r p j l cs v K C w) (hm : Moved w0 w' b j') (hj : j ≤ j') (hs : w.heap.size ≤ w'.heap.size) (hb : b < r) (hr : r < p)
    (e : ∀ k, k < w.heap.size → k ≠ b → w'.heap[k]? = w.heap[k]?) : RowSt w0 b r p j' l cs v K C w' where
  mv := hm
  le := by omega
  z := h.z.like (e r h.z.lt (by omega))
  cp := h.cp.like (e p h.cp.lt (by omega))
  fp := fun o => (World.frozen?_of_block (w := w) (w' := w') (a := ⟨p, o, none⟩) (e p h.cp.lt (by omega))).trans (h.fp o)
  own := by
    refine ⟨h.own.1, ?_⟩
    rcases h.own.2 with hn | ⟨g, cap, cur, hv, hg, hgg, rest⟩
    · exact .inl hn
    · refine .inr ⟨g, cap, cur, hv, hg, ?_, rest⟩
      rw [e g (Array.getElem?_eq_some_iff.1 hgg).1 (by omega)]; exact hgg
  all := h.all.like ⟨fun k hk => e k (h.inb k hk).2 (by have := h.inb k hk; omega), hs⟩
  inb := h.inb.mono (Nat.le_refl _) hs
  sep := h.sep
  osep := h.osep
  nil := h.nil
  len := by have := h.len; omega

theorem RowSt.below {w0 w w' : World} {b r p j : Nat} {l : List Re} {cs : List P9} {v : Value} {K C : List Nat} (h : RowSt w0 b r p j l cs v K C w) (hbr : b < r) (hr : r < p) (hb : Below w.heap.size w w') : RowSt w0 b r p j l cs v K C w' :=
  h.like (h.mv.below hb) (Nat.le_refl _) hb.size hbr hr fun k hk _ => hb.block k hk

theorem RowSt.moved {w0 w w' : World} {b r p j j' : Nat} {l : List Re} {cs : List P9} {v : Value} {K C : List Nat} (h : RowSt w0 b r p j l cs v K C w) (hbr : b < r) (hr : r < p) (m : Moved w w' b j') (hj : j ≤ j') : RowSt w0 b r p j' l cs v K C w' :=
  h.like (h.mv.trans m) hj m.size hbr hr fun k hk hne => by rw [Below.block m k hk]; exact setCell_block_ne _ _ _ _ hne

theorem RowSt.push {w0 w w1 : World} {b r p j B g cap : Nat} {l : List Re} {cs : List P9} {v : Value} {K C K1 C1 : List Nat} {t : Re} {c : P9} (h : RowSt w0 b r p j l cs v K C w) (hw : w0.heap.size ≤ r) (hr : r < p)
    (hF : Fresh B w t c K1 C1) (hB : ∀ k, k ∈ K ++ C → k < B) (hBo : ∀ g, v.ownBlock = some g → g < B) (hBp : p < B) (hj : l.length + 1 ≤ j) (o : Obj)
    (hown : w1.ownsRow (p + 1) 92 9 (.slice (some ⟨g, 0, none⟩) (l.length + 1) cap) (l.length + 1) (flat cs ++ c.list))
    (hg : (w.alloc o).grownBy w1 v.ownBlock) (hat : v.ownBlock = some g ∨ g = w.heap.size + 1) :
    RowSt w0 b r p j (l ++ [t]) (cs ++ [c]) (.slice (some ⟨g, 0, none⟩) (l.length + 1) cap) (K ++ K1) (C ++ C1) (w1.setCell ⟨p, 4, none⟩ (.slice (some ⟨g, 0, none⟩) (l.length + 1) cap)) := by
  have hms := h.mv.size
  have hA : Below w.heap.size w (w.alloc o) := (Below.refl _ _).alloc (Nat.le_refl _) _
  have hown0 : ∀ k, v.ownBlock = some k → p + 1 ≤ k := fun k hk => (h.own.lt k hk).1
  have e : ∀ k, k < w.heap.size → v.ownBlock ≠ some k → w1.heap[k]? = w.heap[k]? := fun k hk hne => by
    rw [hg.block k (by simp; omega) (fun e => hne e.symm)]; exact hA.block k hk
  have hpn : v.ownBlock ≠ some p := fun e => by have := hown0 p e; omega
  have hs1 : w.heap.size + 1 ≤ w1.heap.size := by have := hg.size; simpa using this
  have ep := e p h.cp.lt hpn
  have hcp := h.cp.like ep
  refine ⟨?_, by omega, ?_, ?_, ?_, ?_, ?_, ?_, ?_, ?_, fun h => by simp at h, by simpa using hj⟩
  · unfold Moved
    exact ((Below.trans h.mv (hA.mono hms)).grown hg (by simp; omega) (fun k hk => by have := hown0 k hk; omega)).setCell (p := ⟨p, 4, none⟩) (by simp; omega) _
  · refine h.z.like ?_
    rw [setCell_block_ne _ _ _ _ (by simp; omega)]
    exact e r h.z.lt (fun e => by have := hown0 r e; omega)
  · have ne : ∀ o : Nat, o ≠ 4 → ∀ u, w1.cell? ⟨p, o, none⟩ = some u → (w1.setCell ⟨p, 4, none⟩ (.slice (some ⟨g, 0, none⟩) (l.length + 1) cap)).cell? ⟨p, o, none⟩ = some u := fun o ho u hu => by
      rw [World.cell?_setCell_other _ _ _ _ (by intro e; simp only [Addr.mk.injEq] at e; omega)]; exact hu
    exact ⟨ne _ (by omega) _ hcp.c0, ne _ (by omega) _ hcp.c1, ne _ (by omega) _ hcp.c2, ne _ (by omega) _ hcp.c3, cell?_setCell_at hcp.c4, ne _ (by omega) _ hcp.c5, ne _ (by omega) _ hcp.c6, ne _ (by omega) _ hcp.c7, ne _ (by omega) _ hcp.c8⟩
  · intro o
    rw [World.frozen?_setCell]
    exact (World.frozen?_of_block (w := w) (w' := w1) (a := ⟨p, o, none⟩) ep).trans (h.fp o)
  · have := ownsRow_setCell_below hown (a := ⟨p, 4, none⟩) (by simp) (.slice (some ⟨g, 0, none⟩) (l.length + 1) cap)
    rw [flat_snoc]
    simpa using this
  · have hl : Like ((K ++ K1) ++ (C ++ C1)) w (w1.setCell ⟨p, 4, none⟩ (.slice (some ⟨g, 0, none⟩) (l.length + 1) cap)) := by
      refine ⟨fun k hk => ?_, by rw [setCell_size]; omega⟩
      have hk' : k ∈ K ++ C ∨ k ∈ K1 ++ C1 := by
        simp only [List.mem_append] at hk ⊢
        rcases hk with (hk | hk) | (hk | hk) <;> simp [hk]
      have hkp : k ≠ p ∧ k < w.heap.size ∧ v.ownBlock ≠ some k := by
        rcases hk' with hk' | hk'
        · have := h.inb k hk'
          exact ⟨by omega, this.2, fun e => h.osep k e hk'⟩
        · have := hF.inb k hk'
          exact ⟨by omega, this.2, fun e => by have := hBo k e; omega⟩
      rw [setCell_block_ne _ _ _ _ (by simp; omega)]
      exact e k hkp.2.1 hkp.2.2
    exact (h.all.snoc hF.pv).like hl
  · rw [setCell_size]
    intro k hk
    have hk' : k ∈ K ++ C ∨ k ∈ K1 ++ C1 := by
      simp only [List.mem_append] at hk ⊢
      rcases hk with (hk | hk) | (hk | hk) <;> simp [hk]
    rcases hk' with hk' | hk'
    · have := h.inb k hk'; omega
    · have := hF.inb k hk'; omega
  · exact h.sep.append hF.sep hB (fun k hk => (hF.inb k hk).1)
  · intro g' hg' hk
    simp only [Value.ownBlock, Option.some.injEq] at hg'
    subst hg'
    have hk' : g ∈ K ++ C ∨ g ∈ K1 ++ C1 := by
      simp only [List.mem_append] at hk ⊢
      rcases hk with (hk | hk) | (hk | hk) <;> simp [hk]
    rcases hat with hat | hat
    · rcases hk' with hk' | hk'
      · exact h.osep g hat hk'
      · have := hF.inb g hk'; have := hBo g hat; omega
    · rcases hk' with hk' | hk'
      · have := h.inb g hk'; omega
      · have := hF.inb g hk'; omega

/-- A row that has been read. -/
theorem RowSt.fresh {w0 w : World} {b r p j : Nat} {l : List Re} {cs : List P9} {v : Value} {K C : List Nat} (h : RowSt w0 b r p j l cs v K C w) : ∃ K', Fresh (p + 1) w (.row l) (rowC v) K' C := by
  cases l with
  | nil =>
    have hv := h.nil rfl
    have ha := h.all
    cases cs with
    | cons => exact ha.elim
    | nil =>
      obtain ⟨hK, hC⟩ := ha
      subst hK hC
      exact ⟨[], ⟨rfl, rfl, rfl, rfl, rfl, rfl, rfl, rfl, .inl ⟨rfl, hv, rfl, rfl⟩⟩, by simpa using h.inb, Sep.none _⟩
  | cons t l =>
    obtain ⟨g, cap, hv⟩ := owned_slice (k := l.length) (by simpa using h.own)
    have hown := h.own
    rw [hv] at hown
    have hlen := h.all.length
    have hg := h.own.lt g (by rw [hv]; rfl)
    have hgs := h.osep g (by rw [hv]; rfl)
    have hf : ∀ o, w.frozen? ⟨g, o, none⟩ = false := by
      intro o
      rcases hown.2 with ⟨hn, _⟩ | ⟨g', cap', cur, hv', _, hgg, _⟩
      · cases hn
      · simp only [Value.slice.injEq, Option.some.injEq, Addr.mk.injEq, and_true] at hv'
        rw [← hv'.1] at hgg
        simp only [World.frozen?, hgg]
        simp
    refine ⟨g :: K, ⟨rfl, rfl, rfl, rfl, rfl, rfl, rfl, rfl, .inr ⟨g, cap, K, ?_, rfl, hf, ?_⟩⟩, ?_, h.sep.cons (fun hm => hgs (by simp [hm])) (fun hm => hgs (by simp [hm]))⟩
    · rw [PVL_length]; exact hv
    · refine KidsAt.of_row _ cs 0 K C (fun j hj => ?_) h.all
      rw [Nat.zero_add]
      exact hown.cellAt j (by simp only [List.length_cons] at hlen; omega)
    · exact h.inb.cons hg.1 hg.2

end Go.Proofs.YtgcmjidphoklkaaGreatDoor.Rx
