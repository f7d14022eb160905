/- How parts lie in memory. -/
import Derived.Test.YtgcmjidphoklkaaGreatDoorRxWf
namespace Go.Proofs.YtgcmjidphoklkaaGreatDoor.Rx
open Go.RowKit Go.Sort

/-- A part's cells, and the blocks that it needs: those of its kids (K), those of its functions (C). -/
abbrev PR := P9 → List Nat → List Nat → Prop

structure Cells9 (w : World) (b o : Nat) (c : P9) : Prop where
  c0 : w.cell? ⟨b, o, none⟩ = some (.int .i64 c.kind)
  c1 : w.cell? ⟨b, o + 1, none⟩ = some c.is
  c2 : w.cell? ⟨b, o + 2, none⟩ = some (.bool c.plain)
  c3 : w.cell? ⟨b, o + 3, none⟩ = some (.int .i32 c.r)
  c4 : w.cell? ⟨b, o + 4, none⟩ = some c.kids
  c5 : w.cell? ⟨b, o + 5, none⟩ = some (.int .i64 c.least)
  c6 : w.cell? ⟨b, o + 6, none⟩ = some (.int .i64 c.most)
  c7 : w.cell? ⟨b, o + 7, none⟩ = some (.bool c.brace)
  c8 : w.cell? ⟨b, o + 8, none⟩ = some (.int .i64 c.n)

theorem Cells9.like {w w' : World} {b o : Nat} {c : P9} (h : Cells9 w b o c) (e : w'.heap[b]? = w.heap[b]?) : Cells9 w' b o c := by
  have k : ∀ j, w'.cell? ⟨b, j, none⟩ = w.cell? ⟨b, j, none⟩ := fun j => World.cell?_of_block (w := w) e
  exact ⟨(k _).trans h.c0, (k _).trans h.c1, (k _).trans h.c2, (k _).trans h.c3, (k _).trans h.c4, (k _).trans h.c5, (k _).trans h.c6, (k _).trans h.c7, (k _).trans h.c8⟩

def KidsAt (w : World) : List PR → Nat → Nat → List Nat → List Nat → Prop
  | [], _, _, K, C => K = [] ∧ C = []
  | P :: l, b, o, K, C => ∃ c K1 K2 C1 C2, K = K1 ++ K2 ∧ C = C1 ++ C2 ∧ Cells9 w b o c ∧ P c K1 C1 ∧ KidsAt w l b (o + 9) K2 C2

def Kids (w : World) (l : List PR) (v : Value) (K C : List Nat) : Prop :=
  (l = [] ∧ v = .slice none 0 0 ∧ K = [] ∧ C = []) ∨
  ∃ b cap K', v = .slice (some ⟨b, 0, none⟩) l.length cap ∧ K = b :: K' ∧ (∀ j, w.frozen? ⟨b, j, none⟩ = false) ∧ KidsAt w l b 0 K' C

mutual
/-- The part r lies in the cells c; N says what stands in 'n'. -/
def PV (N : Re → Int) (w : World) : Re → PR
  | .one p pl, c, K, C => c.kind = 0 ∧ IsP w C c.is p ∧ c.plain = pl.isSome ∧ c.r = pl.getD 0 ∧ c.kids = .slice none 0 0 ∧ c.least = 0 ∧ c.most = 0 ∧ c.brace = false ∧ c.n = N (.one p pl) ∧ K = []
  | .row l, c, K, C => c.kind = 1 ∧ c.is = .nilFunc ∧ c.plain = false ∧ c.r = 0 ∧ c.least = 0 ∧ c.most = 0 ∧ c.brace = false ∧ c.n = N (.row l) ∧ Kids w (PVL N w l) c.kids K C
  | .fork a b, c, K, C => c.kind = 2 ∧ c.is = .nilFunc ∧ c.plain = false ∧ c.r = 0 ∧ c.least = 0 ∧ c.most = 0 ∧ c.brace = false ∧ c.n = N (.fork a b) ∧ Kids w [PV N w a, PV N w b] c.kids K C
  | .loop k m n br, c, K, C => c.kind = 3 ∧ c.is = .nilFunc ∧ c.plain = false ∧ c.r = 0 ∧ c.least = m ∧ c.most = n ∧ c.brace = br ∧ c.n = N (.loop k m n br) ∧ Kids w [PV N w k] c.kids K C
def PVL (N : Re → Int) (w : World) : List Re → List PR
  | [] => []
  | r :: l => PV N w r :: PVL N w l
end

theorem PVL_length (N : Re → Int) (w : World) (l : List Re) : (PVL N w l).length = l.length := by
  induction l with
  | nil => rfl
  | cons r l ih => simp [PVL, ih]

theorem PVL_append (N : Re → Int) (w : World) (l m : List Re) : PVL N w (l ++ m) = PVL N w l ++ PVL N w m := by
  induction l with
  | nil => rfl
  | cons r l ih => simp [PVL, ih]

/-- No block is met twice, and none of the kids' blocks is one of a function's. -/
structure Sep (K C : List Nat) : Prop where
  nodup : K.Nodup
  apart : ∀ k, k ∈ K → k ∉ C

theorem Like.left {A B : List Nat} {w w' : World} (h : Like (A ++ B) w w') : Like A w w' := h.sub fun _ hk => List.mem_append_left _ hk
theorem Like.right {A B : List Nat} {w w' : World} (h : Like (A ++ B) w w') : Like B w w' := h.sub fun _ hk => List.mem_append_right _ hk

/-- From a statement on each kid to one on all. -/
theorem KidsAt.imp {w w' : World} {b : Nat} : ∀ {l m : List PR} {o : Nat} {K C : List Nat}, l.length = m.length →
    (∀ (i : Nat) (P Q : PR), l[i]? = some P → m[i]? = some Q → ∀ c K1 C1, (∀ k, k ∈ K1 → k ∈ K) → (∀ k, k ∈ C1 → k ∈ C) → P c K1 C1 → Q c K1 C1) →
    w'.heap[b]? = w.heap[b]? → KidsAt w l b o K C → KidsAt w' m b o K C
  | [], [], o, K, C, _, _, _, h => h
  | [], _ :: _, _, _, _, hl, _, _, _ => by simp at hl
  | _ :: _, [], _, _, _, hl, _, _, _ => by simp at hl
  | P :: l, Q :: m, o, K, C, hl, hi, hb, h => by
    obtain ⟨c, K1, K2, C1, C2, rfl, rfl, hc, hp, hr⟩ := h
    refine ⟨c, K1, K2, C1, C2, rfl, rfl, hc.like hb, hi 0 P Q rfl rfl c K1 C1 (fun k hk => List.mem_append_left _ hk) (fun k hk => List.mem_append_left _ hk) hp, ?_⟩
    refine KidsAt.imp (by simpa using hl) (fun i P' Q' h1 h2 c K1' C1' hK hC hp' => ?_) hb hr
    exact hi (i + 1) P' Q' (by simpa using h1) (by simpa using h2) c K1' C1' (fun k hk => List.mem_append_right _ (hK k hk)) (fun k hk => List.mem_append_right _ (hC k hk)) hp'

theorem Kids.imp {w w' : World} {l m : List PR} {v : Value} {K C : List Nat} (hl : l.length = m.length)
    (hi : ∀ (i : Nat) (P Q : PR), l[i]? = some P → m[i]? = some Q → ∀ c K1 C1, (∀ k, k ∈ K1 → k ∈ K) → (∀ k, k ∈ C1 → k ∈ C) → P c K1 C1 → Q c K1 C1)
    (hlike : Like (K ++ C) w w') (h : Kids w l v K C) : Kids w' m v K C := by
  rcases h with ⟨rfl, hv, hK, hC⟩ | ⟨b, cap, K', hv, rfl, hf, hk⟩
  · exact .inl ⟨List.length_eq_zero_iff.1 (by simpa using hl.symm), hv, hK, hC⟩
  · have hb := hlike.1 b (by simp)
    refine .inr ⟨b, cap, K', by rw [hv, hl], rfl, fun j => (World.frozen?_of_block (w := w) hb).trans (hf j), ?_⟩
    exact hk.imp hl (fun i P Q h1 h2 c K1 C1 hK hC hp => hi i P Q h1 h2 c K1 C1 (fun k hk => List.mem_cons_of_mem _ (hK k hk)) hC hp) hb

mutual
theorem PV.like {N : Re → Int} {w w' : World} : ∀ {r : Re} {c : P9} {K C : List Nat}, Like (K ++ C) w w' → PV N w r c K C → PV N w' r c K C
  | .one p pl, c, K, C, hl, h => by
    obtain ⟨h1, h2, h3⟩ := h
    exact ⟨h1, h2.like hl.right, h3⟩
  | .row l, c, K, C, hl, h => by
    obtain ⟨h1, h2, h3, h4, h5, h6, h7, h8, hk⟩ := h
    refine ⟨h1, h2, h3, h4, h5, h6, h7, h8, hk.imp (by rw [PVL_length, PVL_length]) (fun i P Q hP hQ c K1 C1 hK hC hp => ?_) hl⟩
    exact PVL.like l i P Q hP hQ c K1 C1 (hl.sub fun k hk => (List.mem_append.1 hk).elim (fun h => List.mem_append_left _ (hK k h)) (fun h => List.mem_append_right _ (hC k h))) hp
  | .fork a b, c, K, C, hl, h => by
    obtain ⟨h1, h2, h3, h4, h5, h6, h7, h8, hk⟩ := h
    refine ⟨h1, h2, h3, h4, h5, h6, h7, h8, Kids.imp (l := [PV N w a, PV N w b]) (m := [PV N w' a, PV N w' b]) rfl (fun i P Q hP hQ c K1 C1 hK hC hp => ?_) hl hk⟩
    have hl1 : Like (K1 ++ C1) w w' := hl.sub fun k hk => (List.mem_append.1 hk).elim (fun h => List.mem_append_left _ (hK k h)) (fun h => List.mem_append_right _ (hC k h))
    match i, hP, hQ with
    | 0, hP, hQ => cases hP; cases hQ; exact PV.like hl1 hp
    | 1, hP, hQ => cases hP; cases hQ; exact PV.like hl1 hp
    | i + 2, hP, _ => simp at hP
  | .loop k m n br, c, K, C, hl, h => by
    obtain ⟨h1, h2, h3, h4, h5, h6, h7, h8, hk⟩ := h
    refine ⟨h1, h2, h3, h4, h5, h6, h7, h8, Kids.imp (l := [PV N w k]) (m := [PV N w' k]) rfl (fun i P Q hP hQ c K1 C1 hK hC hp => ?_) hl hk⟩
    have hl1 : Like (K1 ++ C1) w w' := hl.sub fun k hk => (List.mem_append.1 hk).elim (fun h => List.mem_append_left _ (hK k h)) (fun h => List.mem_append_right _ (hC k h))
    match i, hP, hQ with
    | 0, hP, hQ => cases hP; cases hQ; exact PV.like hl1 hp
    | i + 1, hP, _ => simp at hP
theorem PVL.like {N : Re → Int} {w w' : World} : ∀ (l : List Re) (i : Nat) (P Q : PR), (PVL N w l)[i]? = some P → (PVL N w' l)[i]? = some Q → ∀ c K C, Like (K ++ C) w w' → P c K C → Q c K C
  | [], i, P, Q, hP, _, _, _, _, _, _ => by simp [PVL] at hP
  | r :: l, 0, P, Q, hP, hQ, c, K, C, hl, hp => by
    simp only [PVL, List.getElem?_cons_zero, Option.some.injEq] at hP hQ
    subst hP hQ
    exact PV.like hl hp
  | r :: l, i + 1, P, Q, hP, hQ, c, K, C, hl, hp => by
    simp only [PVL, List.getElem?_cons_succ] at hP hQ
    exact PVL.like l i P Q hP hQ c K C hl hp
end

/-- The cells of a part hold plain values. -/
theorem PV.one {N : Re → Int} {w : World} {r : Re} {c : P9} {K C : List Nat} (h : PV N w r c K C) : c.is.oneCell' = true ∧ c.kids.oneCell' = true := by
  cases r with
  | one p pl =>
    obtain ⟨_, ⟨g, cap, hf, _⟩, _, _, hk, _⟩ := h
    rw [hf, hk]; exact ⟨rfl, rfl⟩
  | row l =>
    obtain ⟨_, hi, _, _, _, _, _, _, hk⟩ := h
    rw [hi]
    rcases hk with ⟨_, hv, _⟩ | ⟨_, _, _, hv, _⟩ <;> (rw [hv]; exact ⟨rfl, rfl⟩)
  | fork a b =>
    obtain ⟨_, hi, _, _, _, _, _, _, hk⟩ := h
    rw [hi]
    rcases hk with ⟨_, hv, _⟩ | ⟨_, _, _, hv, _⟩ <;> (rw [hv]; exact ⟨rfl, rfl⟩)
  | loop k m n br =>
    obtain ⟨_, hi, _, _, _, _, _, _, hk⟩ := h
    rw [hi]
    rcases hk with ⟨_, hv, _⟩ | ⟨_, _, _, hv, _⟩ <;> (rw [hv]; exact ⟨rfl, rfl⟩)

/-- A part as a value. -/
abbrev P9.agg (c : P9) : Value := .agg #[.int .i64 c.kind, c.is, .bool c.plain, .int .i32 c.r, c.kids, .int .i64 c.least, .int .i64 c.most, .bool c.brace, .int .i64 c.n]

/-- A part that has just been read: its 'n' is 0; all that it needs lies from B on. -/
structure Fresh (B : Nat) (w : World) (r : Re) (c : P9) (K C : List Nat) : Prop where
  pv : PV (fun _ => 0) w r c K C
  inb : InB B w.heap.size (K ++ C)
  sep : Sep K C

theorem Fresh.below {B : Nat} {w w' : World} {r : Re} {c : P9} {K C : List Nat} (h : Fresh B w r c K C) (hb : Below w.heap.size w w') : Fresh B w' r c K C :=
  ⟨h.pv.like (Like.of_below hb fun k hk => (h.inb k hk).2), h.inb.mono (Nat.le_refl _) hb.size, h.sep⟩

theorem Fresh.moved {B : Nat} {w w' : World} {b j : Nat} {r : Re} {c : P9} {K C : List Nat} (h : Fresh B w r c K C) (hB : b < B) (m : Moved w w' b j) : Fresh B w' r c K C :=
  ⟨h.pv.like ⟨fun k hk => by have := h.inb k hk; rw [Below.block m k this.2]; exact setCell_block_ne _ _ _ _ (by simp; omega), m.size⟩, h.inb.mono (Nat.le_refl _) m.size, h.sep⟩

/-- What a call that reads a part does. -/
def ReadsRe (B : Nat) (w : World) (b : Nat) : PRes (Re × Nat) → Ending → World → Prop
  | .ok (r, j), e, w' => ∃ c K C, e = .returned c.agg ∧ Fresh B w' r c K C ∧ Moved w w' b j
  | .error (en, pl), e, w' => e = .panicked (faultV en pl) ∧ ∃ j, Moved w w' b j

end Go.Proofs.YtgcmjidphoklkaaGreatDoor.Rx
