/- What is read lies in the text, and holds together. -/
import Derived.Test.YtgcmjidphoklkaaGreatDoorRxWh
namespace Go.Proofs.YtgcmjidphoklkaaGreatDoor.Rx

theorem classHead_bd {s : ByteArray} {neg : Bool} {l : List (Int → Bool)} {i j : Nat} {o : One} (h : classHead s neg l i = some (.ok (o, j))) : i < s.size ∧ j = i + 1 ∧ o.plain = none := by
  have hlt : i < s.size := by
    rcases Nat.lt_or_ge i s.size with h1 | h1
    · exact h1
    · unfold classHead at h; rw [peekC_none h1] at h; simp at h
  refine ⟨hlt, ?_⟩
  unfold classHead at h
  by_cases h1 : peekC s i < 0
  · rw [if_pos h1] at h; injection h with h; injection h
  · rw [if_neg h1] at h
    by_cases h2 : peekC s i = 93 ∧ l ≠ []
    · rw [if_pos h2] at h; injection h with h; injection h with h; injection h with h3 h4
      exact ⟨h4.symm, by rw [← h3]; rfl⟩
    · rw [if_neg h2] at h
      split at h
      · injection h with h; injection h
      · split at h
        · injection h with h; injection h
        · injection h

theorem classItem_bd {s : ByteArray} {i j : Nat} {p : Int → Bool} (hi : i < s.size) (h : classItem s i = .ok (p, j)) : i < j ∧ j ≤ s.size := by
  unfold classItem at h
  split at h
  · injection h
  · rename_i a j1 hm
    have h1 := memberP_bd hi hm
    split at h
    · rename_i hc
      split at h
      · injection h
      · rename_i b k hm2
        have h2 := memberP_bd hc.2.2.1 hm2
        split at h
        · injection h
        · injection h with h; injection h with _ h; omega
    · injection h with h; injection h with _ h; omega

theorem headNone_lt' {s : ByteArray} {neg : Bool} {fs : List (Int → Bool)} {k : Nat} (h : classHead s neg fs k = none) : k < s.size := by
  rcases Nat.lt_or_ge k s.size with h1 | h1
  · exact h1
  · unfold classHead at h
    rw [peekC_none h1] at h
    simp at h

theorem classP_bd {s : ByteArray} {neg : Bool} : ∀ (f : Nat) (l : List (Int → Bool)) (i j : Nat) (o : One), classP s neg f l i = .ok (o, j) → i < j ∧ j ≤ s.size
  | 0, _, _, _, _, h => by simp [classP] at h
  | f + 1, l, i, j, o, h => by
    simp only [classP] at h
    split at h
    · rename_i r hh
      subst h
      have := classHead_bd hh
      omega
    · rename_i hh
      have hlt := headNone_lt' hh
      split at h
      · injection h
      · rename_i p j1 hi
        have h1 := classItem_bd hlt hi
        have h2 := classP_bd f _ j1 j o h
        omega

theorem wholeClass_bd {s : ByteArray} {i j : Nat} {o : One} (h : wholeClass s i = .ok (o, j)) : i < j ∧ j ≤ s.size := by
  unfold wholeClass at h
  have := classP_bd _ _ _ _ _ h
  split at this <;> omega

theorem bracesP_bd {s : ByteArray} {i j : Nat} {m n : Int} (hi : i < s.size) (h : bracesP s i = .ok (m, n, j)) : i < j ∧ j ≤ s.size ∧ 0 ≤ m ∧ m ≤ 99 ∧ n ≤ 99 ∧ (n = -1 ∨ m ≤ n) := by
  have hb := numberP_bd (s := s) (i := i + 1) (by omega)
  unfold bracesP at h
  dsimp only at h
  generalize numberP s (i + 1) = x at *
  obtain ⟨a, k⟩ := x
  dsimp only at *
  by_cases h1 : a < 0
  · rw [if_pos h1] at h; injection h
  · rw [if_neg h1] at h
    by_cases h2 : here s k 44 = true
    · rw [if_pos h2] at h
      have hk := here_lt h2
      by_cases h3 : here s (k + 1) 125 = true
      · rw [if_pos h3] at h
        have hk1 := here_lt h3
        injection h with h; injection h with h4 h5; injection h5 with h5 h6
        omega
      · rw [if_neg h3] at h
        have hb2 := numberP_bd (s := s) (i := k + 1) (by omega)
        generalize numberP s (k + 1) = y at *
        obtain ⟨c, k2⟩ := y
        dsimp only at *
        by_cases h4 : c < a
        · rw [if_pos h4] at h; injection h
        · rw [if_neg h4] at h
          by_cases h5 : here s k2 125 = true
          · rw [if_pos h5] at h
            have hk2 := here_lt h5
            injection h with h; injection h with h6 h7; injection h7 with h7 h8
            omega
          · rw [if_neg h5] at h; injection h
    · rw [if_neg h2] at h
      by_cases h3 : here s k 125 = true
      · rw [if_pos h3] at h
        have hk := here_lt h3
        injection h with h; injection h with h6 h7; injection h7 with h7 h8
        omega
      · rw [if_neg h3] at h; injection h

theorem timesP_bd {s : ByteArray} {i j : Nat} {p t : Re} (hi : i ≤ s.size) (hp : Re.WF p) (h : timesP s p i = .ok (t, j)) : i ≤ j ∧ j ≤ s.size ∧ Re.WF t := by
  unfold timesP at h
  split at h
  · rename_i h1
    have := here_lt h1
    injection h with h; injection h with h2 h3
    subst h2
    exact ⟨by omega, by omega, hp, by omega, .inl rfl, by omega, by omega, fun _ => .inl rfl⟩
  split at h
  · rename_i h1
    have := here_lt h1
    injection h with h; injection h with h2 h3
    subst h2
    exact ⟨by omega, by omega, hp, by omega, .inl rfl, by omega, by omega, fun _ => .inl rfl⟩
  split at h
  · rename_i h1
    have := here_lt h1
    injection h with h; injection h with h2 h3
    subst h2
    exact ⟨by omega, by omega, hp, by omega, .inr (by omega), by omega, by omega, fun _ => .inr rfl⟩
  split at h
  · rename_i h1
    have hlt := here_lt h1
    split at h
    · injection h
    · rename_i m n k hb
      have := bracesP_bd hlt hb
      injection h with h; injection h with h2 h3
      subst h2
      exact ⟨by omega, by omega, hp, by omega, by omega, by omega, by omega, fun h => by cases h⟩
  · injection h with h; injection h with h2 h3
    subst h2
    exact ⟨by omega, by omega, hp⟩

/-- A reader of choices that stays in the text. -/
def Stays (s : ByteArray) (ch : Nat → PRes (Re × Nat)) : Prop := ∀ j t k, j ≤ s.size → ch j = .ok (t, k) → j ≤ k ∧ k ≤ s.size ∧ Re.WF t

theorem innerP_bd {s : ByteArray} {ch : Nat → PRes (Re × Nat)} (hs : Stays s ch) {i j : Nat} {t : Re} (hi : i ≤ s.size) (h : innerP s ch i = .ok (t, j)) : i < j ∧ j ≤ s.size ∧ Re.WF t := by
  unfold innerP at h
  split at h
  · injection h
  · rename_i p k hc
    have h1 := hs i p k hi hc
    split at h
    · rename_i h2
      have := here_lt h2
      injection h with h; injection h with h3 h4
      subst h3
      exact ⟨by omega, by omega, h1.2.2⟩
    · injection h

theorem groupP_bd {s : ByteArray} {ch : Nat → PRes (Re × Nat)} (hs : Stays s ch) {d i j : Nat} {t : Re} (hi : i < s.size) (h : groupP s ch d i = .ok (t, j)) : i < j ∧ j ≤ s.size ∧ Re.WF t := by
  unfold groupP at h
  split at h
  · injection h
  · split at h
    · split at h
      · rename_i h2
        have := here_lt h2
        have := innerP_bd hs (by omega) h
        exact ⟨by omega, this.2⟩
      · injection h
    · have := innerP_bd hs (by omega) h
      exact ⟨by omega, this.2⟩

theorem liftO_bd {x : PRes (One × Nat)} {t : Re} {j : Nat} (h : liftO x = .ok (t, j)) : ∃ o, x = .ok (o, j) ∧ t = o.re := by
  rcases x with e | ⟨o, k⟩
  · simp [liftO] at h
  · simp only [liftO] at h
    injection h with h; injection h with h1 h2
    subst h1 h2
    exact ⟨o, rfl, rfl⟩

theorem atomP_bd {s : ByteArray} {ch : Nat → PRes (Re × Nat)} (hs : Stays s ch) {d i j : Nat} {t : Re} (hi : i < s.size) (h : atomP s ch d i = .ok (t, j)) : i < j ∧ j ≤ s.size ∧ Re.WF t := by
  unfold atomP at h
  dsimp only at h
  split at h
  · injection h with h; injection h with h1 h2
    subst h1
    exact ⟨by omega, by omega, trivial⟩
  split at h
  · obtain ⟨o, h1, rfl⟩ := liftO_bd h
    have := escapeP_bd hi h1
    exact ⟨this.1, this.2, trivial⟩
  split at h
  · obtain ⟨o, h1, rfl⟩ := liftO_bd h
    have := wholeClass_bd h1
    exact ⟨this.1, this.2, trivial⟩
  split at h
  · exact groupP_bd hs hi h
  split at h
  · injection h
  · injection h with h; injection h with h1 h2
    subst h1
    have h3 := peekN_le s i (by omega)
    have h4 := peekN_pos hi
    exact ⟨by omega, by omega, trivial⟩

theorem itemP_bd {s : ByteArray} {ch : Nat → PRes (Re × Nat)} (hs : Stays s ch) {d i j : Nat} {t : Re} (hi : i < s.size) (h : itemP s ch d i = .ok (t, j)) : i < j ∧ j ≤ s.size ∧ Re.WF t := by
  unfold itemP at h
  split at h
  · injection h
  · rename_i a k ha
    have h1 := atomP_bd hs hi ha
    have h2 := timesP_bd h1.2.1 h1.2.2 h
    exact ⟨by omega, h2.2⟩

theorem goesOn_lt {s : ByteArray} {i : Nat} (h : goesOn s i = true) : i < s.size := by
  simp only [goesOn, Bool.and_eq_true, decide_eq_true_eq] at h; exact h.1.1

theorem WFL_snoc : ∀ (l : List Re) (r : Re), Re.WFL l → Re.WF r → Re.WFL (l ++ [r])
  | [], _, _, h => ⟨h, trivial⟩
  | _ :: l, r, h1, h2 => ⟨h1.1, WFL_snoc l r h1.2 h2⟩

theorem rowP_bd {s : ByteArray} {ch : Nat → PRes (Re × Nat)} (hs : Stays s ch) {d : Nat} : ∀ (f : Nat) (l : List Re) (i j : Nat) (t : Re), Re.WFL l → i ≤ s.size → rowP s ch d f l i = .ok (t, j) → i ≤ j ∧ j ≤ s.size ∧ Re.WF t
  | 0, _, _, _, _, _, _, h => by simp [rowP] at h
  | f + 1, l, i, j, t, hl, hi, h => by
    simp only [rowP] at h
    split at h
    · rename_i hg
      have hlt := goesOn_lt hg
      split at h
      · injection h
      · rename_i a k ha
        have h1 := itemP_bd hs hlt ha
        have h2 := rowP_bd hs f _ k j t (WFL_snoc l a hl h1.2.2) h1.2.1 h
        exact ⟨by omega, h2.2⟩
    · injection h with h; injection h with h1 h2
      subst h1
      exact ⟨by omega, by omega, hl⟩

theorem forksP_bd {s : ByteArray} {ch : Nat → PRes (Re × Nat)} (hs : Stays s ch) {d : Nat} : ∀ (f : Nat) (p : Re) (i j : Nat) (t : Re), Re.WF p → i ≤ s.size → forksP s ch d f p i = .ok (t, j) → i ≤ j ∧ j ≤ s.size ∧ Re.WF t
  | 0, _, _, _, _, _, _, h => by simp [forksP] at h
  | f + 1, p, i, j, t, hp, hi, h => by
    simp only [forksP] at h
    split at h
    · rename_i hg
      have hlt := here_lt hg
      split at h
      · injection h
      · rename_i q k hq
        have h1 := rowP_bd hs _ [] _ _ _ trivial (by omega) hq
        have h2 := forksP_bd hs f (.fork p q) k j t ⟨hp, h1.2.2⟩ h1.2.1 h
        exact ⟨by omega, h2.2⟩
    · injection h with h; injection h with h1 h2
      subst h1
      exact ⟨by omega, by omega, hp⟩

theorem choiceP_bd {s : ByteArray} : ∀ (f d : Nat), Stays s (choiceP s f d)
  | 0, d => fun _ _ _ _ h => by simp [choiceP] at h
  | f + 1, d => fun i t j hi h => by
    have hs := choiceP_bd (s := s) f (d + 1)
    simp only [choiceP] at h
    split at h
    · injection h
    · rename_i p k hp
      have h1 := rowP_bd hs _ [] _ _ _ trivial hi hp
      have h2 := forksP_bd hs _ _ _ _ _ h1.2.2 h1.2.1 h
      exact ⟨by omega, h2.2⟩

end Go.Proofs.YtgcmjidphoklkaaGreatDoor.Rx
