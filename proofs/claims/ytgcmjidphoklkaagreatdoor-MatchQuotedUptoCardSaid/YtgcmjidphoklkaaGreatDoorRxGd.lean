/- Walk over layer 5's add: parts in a row. -/
import Derived.Test.YtgcmjidphoklkaaGreatDoorRxGc
namespace Go.Proofs.YtgcmjidphoklkaaGreatDoor.Rx
open Go.RowKit Go.Sort

/-- The kid number j. -/
theorem KidsAt.get {N : Re → Int} {w : World} {b : Nat} : ∀ (l : List Re) (j o : Nat) (K C : List Nat) (q : Re), l[j]? = some q → KidsAt w (PVL N w l) b o K C →
    ∃ c K1 C1, (∀ x, x ∈ K1 → x ∈ K) ∧ (∀ x, x ∈ C1 → x ∈ C) ∧ Cells9 w b (o + 9 * j) c ∧ PV N w q c K1 C1
  | [], j, _, _, _, _, h, _ => by simp at h
  | r :: l, 0, o, K, C, q, hq, h => by
    obtain ⟨c, K1, K2, C1, C2, rfl, rfl, hc, hp, hr⟩ := h
    simp only [List.getElem?_cons_zero, Option.some.injEq] at hq
    subst hq
    exact ⟨c, K1, C1, fun x hx => List.mem_append_left _ hx, fun x hx => List.mem_append_left _ hx, hc, hp⟩
  | r :: l, j + 1, o, K, C, q, hq, h => by
    obtain ⟨c, K1, K2, C1, C2, rfl, rfl, hc, hp, hr⟩ := h
    obtain ⟨c2, Ka, Ca, h1, h2, h3, h4⟩ := KidsAt.get l j (o + 9) K2 C2 q (by simpa using hq) hr
    have ho : o + 9 * (j + 1) = o + 9 + 9 * j := by omega
    exact ⟨c2, Ka, Ca, fun x hx => List.mem_append_right _ (h1 x hx), fun x hx => List.mem_append_right _ (h2 x hx), by rw [ho]; exact h3, h4⟩

/-- The kid number j of a part. -/
theorem Kids.get {N : Re → Int} {w : World} {l : List Re} {v : Value} {K C : List Nat} {j : Nat} {q : Re} (h : Kids w (PVL N w l) v K C) (hq : l[j]? = some q) :
    ∃ kb cap c K1 C1, v = .slice (some ⟨kb, 0, none⟩) l.length cap ∧ kb ∈ K ∧ (∀ i, w.frozen? ⟨kb, i, none⟩ = false) ∧ (∀ x, x ∈ K1 → x ∈ K) ∧ (∀ x, x ∈ C1 → x ∈ C) ∧ Cells9 w kb (j * 9) c ∧ PV N w q c K1 C1 := by
  rcases h with ⟨h0, _⟩ | ⟨kb, cap, K', hv, rfl, hf, hk⟩
  · have := PVL_length N w l
    rw [h0] at this
    have hl : l = [] := List.length_eq_zero_iff.1 this.symm
    subst hl
    simp at hq
  · obtain ⟨c, K1, C1, h1, h2, h3, h4⟩ := KidsAt.get l j 0 K' C q hq hk
    have ho : 0 + 9 * j = j * 9 := by omega
    rw [ho] at h3
    exact ⟨kb, cap, c, K1, C1, by rw [hv, PVL_length], by simp, hf, fun x hx => List.mem_cons_of_mem _ (h1 x hx), h2, h3, h4⟩

mutual
/-- The graph grows. -/
theorem add_len : ∀ (r : Re) (x : Nat) (N : List Nd), N.length ≤ (Re.add r x N).2.length
  | .one p pl, x, N => by simp [Re.add]
  | .row l, x, N => by
    simp only [Re.add]
    split
    · exact Nat.le_refl _
    · exact addL_len l x N
  | .fork a b, x, N => by
    simp only [Re.add]
    split
    · exact Nat.le_refl _
    · have h1 := add_len a x N
      have h2 := add_len b x (Re.add a x N).2
      simp only [List.length_append, List.length_singleton]; omega
  | .loop k m n br, x, N => by
    simp only [Re.add]
    split
    · exact Nat.le_refl _
    · have hi : ∀ (f : Nat → List Nd → Nat × List Nd), (∀ x N, N.length ≤ (f x N).2.length) → ∀ j y, y.2.length ≤ (iter f j y).2.length := by
        intro f hf j
        induction j with
        | zero => intro y; exact Nat.le_refl _
        | succ j ih => intro y; exact Nat.le_trans (hf y.1 y.2) (ih _)
      have h0 : ∀ x N, N.length ≤ (Re.add k x N).2.length := fun x N => add_len k x N
      have h1 : ∀ y N, N.length ≤ (optional (Re.add k) x y N).2.length := fun y N => by
        have := h0 y N; simp only [optional, List.length_append, List.length_singleton]; omega
      refine Nat.le_trans (Nat.le_trans ?_ (hi _ h1 _ _)) (hi _ h0 _ _)
      split
      · have := h0 N.length (N ++ [.ways 0 x])
        simp only [star, List.length_set, List.length_append, List.length_singleton] at this ⊢; omega
      · exact Nat.le_refl _
theorem addL_len : ∀ (l : List Re) (x : Nat) (N : List Nd), N.length ≤ (Re.addL l x N).2.length
  | [], x, N => by simp [Re.addL]
  | r :: l, x, N => by
    simp only [Re.addL]
    exact Nat.le_trans (addL_len l x N) (add_len r _ _)
end

/-- From behind: what is added after the last j parts. -/
theorem addL_drop (l : List Re) (x : Nat) (N : List Nd) (j : Nat) (q : Re) (hq : l[j]? = some q) : Re.addL (l.drop j) x N = Re.add q (Re.addL (l.drop (j + 1)) x N).1 (Re.addL (l.drop (j + 1)) x N).2 := by
  have hj := (List.getElem?_eq_some_iff.1 hq)
  rw [List.drop_eq_getElem_cons hj.1, hj.2]
  rfl

theorem addL_part (l : List Re) (x : Nat) (N : List Nd) : ∀ j : Nat, (Re.addL (l.drop j) x N).2.length ≤ (Re.addL l x N).2.length
  | 0 => by simp
  | j + 1 => by
    refine Nat.le_trans ?_ (addL_part l x N j)
    rcases Nat.lt_or_ge j l.length with h | h
    · rw [addL_drop l x N j l[j] (List.getElem?_eq_getElem h)]
      exact add_len _ _ _
    · rw [List.drop_eq_nil_of_le (by omega), List.drop_eq_nil_of_le h]
      exact Nat.le_refl _

end Go.Proofs.YtgcmjidphoklkaaGreatDoor.Rx
