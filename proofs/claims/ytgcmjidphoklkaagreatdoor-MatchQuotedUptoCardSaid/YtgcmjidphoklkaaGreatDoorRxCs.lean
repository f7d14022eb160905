/- What counting does in memory: of each part only 'n' changes. -/
import Derived.Test.YtgcmjidphoklkaaGreatDoorRxBe
import Derived.Test.YtgcmjidphoklkaaGreatDoorRxRow
namespace Go.Proofs.YtgcmjidphoklkaaGreatDoor.Rx
open Go.RowKit Go.Sort

/-- A part with its count. -/
abbrev P9.withN (c : P9) (n : Int) : P9 := ⟨c.kind, c.is, c.plain, c.r, c.kids, c.least, c.most, c.brace, n⟩

/-- Parts of which the first k are counted. -/
def mixed (w : World) : Nat → List Re → List PR
  | _, [] => []
  | 0, r :: l => PV noN w r :: mixed w 0 l
  | k + 1, r :: l => PV Re.cnt w r :: mixed w k l

theorem mixed_zero (w : World) : ∀ l : List Re, mixed w 0 l = PVL noN w l
  | [] => rfl
  | r :: l => by simp [mixed, PVL, mixed_zero w l]
theorem mixed_all (w : World) : ∀ l : List Re, mixed w l.length l = PVL Re.cnt w l
  | [] => rfl
  | r :: l => by simp [mixed, PVL, mixed_all w l]

theorem Cells9.of_cells {w w' : World} {b o : Nat} {c : P9} (h : Cells9 w b o c) (e : ∀ j, o ≤ j → j < o + 9 → w'.cell? ⟨b, j, none⟩ = w.cell? ⟨b, j, none⟩) : Cells9 w' b o c :=
  ⟨(e _ (by omega) (by omega)).trans h.c0, (e _ (by omega) (by omega)).trans h.c1, (e _ (by omega) (by omega)).trans h.c2, (e _ (by omega) (by omega)).trans h.c3, (e _ (by omega) (by omega)).trans h.c4, (e _ (by omega) (by omega)).trans h.c5, (e _ (by omega) (by omega)).trans h.c6, (e _ (by omega) (by omega)).trans h.c7, (e _ (by omega) (by omega)).trans h.c8⟩

theorem mixed_move {w w' : World} {b : Nat} : ∀ (l : List Re) (k o : Nat) (K C : List Nat), KidsAt w (mixed w k l) b o K C → (∀ j, o ≤ j → w'.cell? ⟨b, j, none⟩ = w.cell? ⟨b, j, none⟩) → Like (K ++ C) w w' → KidsAt w' (mixed w' k l) b o K C
  | [], _, _, _, _, h, _, _ => by simpa [mixed, KidsAt] using h
  | r :: l, 0, o, K, C, h, e, hl => by
    obtain ⟨c, K1, K2, C1, C2, rfl, rfl, hc, hp, hr⟩ := h
    exact ⟨c, K1, K2, C1, C2, rfl, rfl, hc.of_cells fun j h1 _ => e j h1, hp.like (hl.sub fun k hk => by rcases List.mem_append.1 hk with hk | hk <;> simp [hk]), mixed_move l 0 (o + 9) K2 C2 hr (fun j hj => e j (by omega)) (hl.sub fun k hk => by rcases List.mem_append.1 hk with hk | hk <;> simp [hk])⟩
  | r :: l, k + 1, o, K, C, h, e, hl => by
    obtain ⟨c, K1, K2, C1, C2, rfl, rfl, hc, hp, hr⟩ := h
    exact ⟨c, K1, K2, C1, C2, rfl, rfl, hc.of_cells fun j h1 _ => e j h1, hp.like (hl.sub fun k hk => by rcases List.mem_append.1 hk with hk | hk <;> simp [hk]), mixed_move l k (o + 9) K2 C2 hr (fun j hj => e j (by omega)) (hl.sub fun k hk => by rcases List.mem_append.1 hk with hk | hk <;> simp [hk])⟩

theorem Sep.head {K1 K2 C1 C2 : List Nat} (h : Sep (K1 ++ K2) (C1 ++ C2)) : Sep K1 C1 :=
  ⟨(List.nodup_append.1 h.nodup).1, fun k hk hc => h.apart k (List.mem_append_left _ hk) (List.mem_append_left _ hc)⟩
theorem Sep.tail {K1 K2 C1 C2 : List Nat} (h : Sep (K1 ++ K2) (C1 ++ C2)) : Sep K2 C2 :=
  ⟨(List.nodup_append.1 h.nodup).2.1, fun k hk hc => h.apart k (List.mem_append_right _ hk) (List.mem_append_right _ hc)⟩
theorem Sep.ne {K1 K2 C1 C2 : List Nat} (h : Sep (K1 ++ K2) (C1 ++ C2)) {x y : Nat} (hx : x ∈ K1) (hy : y ∈ K2) : x ≠ y :=
  (List.nodup_append.1 h.nodup).2.2 x hx y hy

/-- One part more is counted. -/
theorem mixed_step {w : World} {b : Nat} : ∀ (l : List Re) (k o : Nat) (K C : List Nat) (r : Re), l[k]? = some r → KidsAt w (mixed w k l) b o K C → Sep K C →
    ∃ c K1 C1, (∀ x, x ∈ K1 → x ∈ K) ∧ (∀ x, x ∈ C1 → x ∈ C) ∧ Sep K1 C1 ∧ Cells9 w b (o + 9 * k) c ∧ PV noN w r c K1 C1 ∧
      ∀ w' : World, PV Re.cnt w' r (c.withN (Re.cnt r)) K1 C1 → Cells9 w' b (o + 9 * k) (c.withN (Re.cnt r)) → (∀ j, (j < o + 9 * k ∨ o + 9 * k + 9 ≤ j) → w'.cell? ⟨b, j, none⟩ = w.cell? ⟨b, j, none⟩) →
        (∀ x, x ∈ K ++ C → x ∉ K1 → w'.heap[x]? = w.heap[x]?) → w.heap.size ≤ w'.heap.size → KidsAt w' (mixed w' (k + 1) l) b o K C
  | [], k, o, K, C, r, hk, _, _ => by simp at hk
  | r :: l, 0, o, K, C, r', hk, h, hs => by
    obtain ⟨c, K1, K2, C1, C2, rfl, rfl, hc, hp, hr⟩ := h
    simp only [List.getElem?_cons_zero, Option.some.injEq] at hk
    subst hk
    refine ⟨c, K1, C1, fun x hx => List.mem_append_left _ hx, fun x hx => List.mem_append_left _ hx, hs.head, hc, hp, fun w' hp' hc' e eb hsz => ?_⟩
    refine ⟨_, K1, K2, C1, C2, rfl, rfl, hc', hp', mixed_move l 0 (o + 9) K2 C2 hr (fun j hj => e j (by omega)) ⟨fun x hx => eb x ?_ ?_, hsz⟩⟩
    · rcases List.mem_append.1 hx with hx | hx <;> simp [hx]
    · intro h1
      rcases List.mem_append.1 hx with hx | hx
      · exact hs.ne h1 hx rfl
      · exact hs.apart x (List.mem_append_left _ h1) (List.mem_append_right _ hx)
  | r :: l, k + 1, o, K, C, r', hk, h, hs => by
    obtain ⟨c, K1, K2, C1, C2, rfl, rfl, hc, hp, hr⟩ := h
    simp only [List.getElem?_cons_succ] at hk
    obtain ⟨c2, Ka, Ca, h1, h2, h3, h4, h5, h6⟩ := mixed_step l k (o + 9) K2 C2 r' hk hr hs.tail
    have ho : o + 9 * (k + 1) = o + 9 + 9 * k := by omega
    rw [ho]
    refine ⟨c2, Ka, Ca, fun x hx => List.mem_append_right _ (h1 x hx), fun x hx => List.mem_append_right _ (h2 x hx), h3, h4, h5, fun w' hp' hc' e eb hsz => ?_⟩
    refine ⟨c, K1, K2, C1, C2, rfl, rfl, hc.of_cells fun j _ hj => e j (by omega), hp.like ⟨fun x hx => eb x ?_ ?_, hsz⟩, h6 w' hp' hc' e (fun x hx hn => eb x ?_ hn) hsz⟩
    · rcases List.mem_append.1 hx with hx | hx <;> simp [hx]
    · intro hm
      rcases List.mem_append.1 hx with hx | hx
      · exact hs.ne hx (h1 x hm) rfl
      · exact hs.apart x (List.mem_append_right _ (h1 x hm)) (List.mem_append_left _ hx)
    · rcases List.mem_append.1 hx with hx | hx <;> simp [hx]

/-- The parts within a part. -/
def Re.kids : Re → List Re
  | .one _ _ => []
  | .row l => l
  | .fork a b => [a, b]
  | .loop k _ _ _ => [k]

/-- What changes while a part at (b, o) is counted whose kids lie in the blocks K. -/
structure Fr (K : List Nat) (b o : Nat) (w w' : World) : Prop where
  os : w'.os = w.os
  tape : w'.tape = w.tape
  output : w'.output = w.output
  size : w'.heap.size = w.heap.size
  block : ∀ k, k ∉ K → k ≠ b → w'.heap[k]? = w.heap[k]?
  cell : ∀ j, j ≠ o + 8 → w'.cell? ⟨b, j, none⟩ = w.cell? ⟨b, j, none⟩
  frozen : ∀ a, w'.frozen? a = w.frozen? a

end Go.Proofs.YtgcmjidphoklkaaGreatDoor.Rx
