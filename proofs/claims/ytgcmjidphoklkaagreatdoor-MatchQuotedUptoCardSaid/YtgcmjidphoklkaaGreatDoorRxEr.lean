/- A fault of an expression is never the number 0. -/
import Derived.Test.YtgcmjidphoklkaaGreatDoorRxP1
namespace Go.Proofs.YtgcmjidphoklkaaGreatDoor.Rx

theorem escapeP_er {s : ByteArray} {i : Nat} {e : PErr} (h : escapeP s i = .error e) : e.1 ≠ 0 := by
  unfold escapeP at h
  dsimp only at h
  by_cases h1 : peekC s (i + 1) = -1
  · rw [if_pos h1] at h; injection h with h; subst h; simp
  rw [if_neg h1] at h
  clear h1
  split at h
  · injection h
  split at h
  · injection h
  split at h
  · injection h
  split at h
  · injection h
  split at h
  · injection h
  split at h
  · injection h
  split at h
  · injection h
  split at h
  · injection h
  split at h
  · injection h
  split at h
  · injection h with h; subst h; simp
  · injection h

theorem memberP_er {s : ByteArray} {i : Nat} {e : PErr} (h : memberP s i = .error e) : e.1 ≠ 0 := by
  unfold memberP at h
  split at h
  · exact escapeP_er h
  · injection h

theorem classHead_er {s : ByteArray} {neg : Bool} {l : List (Int → Bool)} {i : Nat} {e : PErr} (h : classHead s neg l i = some (.error e)) : e.1 ≠ 0 := by
  unfold classHead at h
  repeat' split at h
  all_goals first | (injection h with h; injection h with h; subst h; simp) | (injection h with h; injection h) | (injection h)

theorem classItem_er {s : ByteArray} {i : Nat} {e : PErr} (h : classItem s i = .error e) : e.1 ≠ 0 := by
  unfold classItem at h
  split at h
  · rename_i e' he
    injection h with h; subst h
    exact memberP_er he
  · split at h
    · split at h
      · rename_i e' he
        injection h with h; subst h
        exact memberP_er he
      · split at h
        · injection h with h; subst h; simp
        · injection h
    · injection h

theorem classP_er {s : ByteArray} {neg : Bool} {e : PErr} : ∀ (f : Nat) (l : List (Int → Bool)) (i : Nat), classP s neg f l i = .error e → e.1 ≠ 0
  | 0, _, _, h => by simp only [classP] at h; injection h with h; subst h; simp
  | f + 1, l, i, h => by
    simp only [classP] at h
    split at h
    · rename_i r hh
      subst h
      exact classHead_er hh
    · split at h
      · rename_i e' he
        injection h with h; subst h
        exact classItem_er he
      · exact classP_er f _ _ h

theorem bracesP_er {s : ByteArray} {i : Nat} {e : PErr} (h : bracesP s i = .error e) : e.1 ≠ 0 := by
  unfold bracesP at h
  dsimp only at h
  repeat' split at h
  all_goals first | (injection h with h; subst h; simp [badP]) | (injection h)

theorem timesP_er {s : ByteArray} {p : Re} {i : Nat} {e : PErr} (h : timesP s p i = .error e) : e.1 ≠ 0 := by
  unfold timesP at h
  split at h
  · injection h
  split at h
  · injection h
  split at h
  · injection h
  split at h
  · split at h
    · rename_i e' he
      injection h with h; subst h
      exact bracesP_er he
    · injection h
  · injection h

def NoZero (ch : Nat → PRes (Re × Nat)) : Prop := ∀ j e, ch j = .error e → e.1 ≠ 0

theorem innerP_er {s : ByteArray} {ch : Nat → PRes (Re × Nat)} (hc : NoZero ch) {i : Nat} {e : PErr} (h : innerP s ch i = .error e) : e.1 ≠ 0 := by
  unfold innerP at h
  split at h
  · rename_i e' he
    injection h with h; subst h
    exact hc _ _ he
  · split at h
    · injection h
    · injection h with h; subst h; simp

theorem groupP_er {s : ByteArray} {ch : Nat → PRes (Re × Nat)} (hc : NoZero ch) {d i : Nat} {e : PErr} (h : groupP s ch d i = .error e) : e.1 ≠ 0 := by
  unfold groupP at h
  split at h
  · injection h with h; subst h; simp
  · split at h
    · split at h
      · exact innerP_er hc h
      · injection h with h; subst h; simp
    · exact innerP_er hc h

theorem liftO_er {x : PRes (One × Nat)} {e : PErr} (h : liftO x = .error e) : x = .error e := by
  cases x with
  | error a => exact (by simpa [liftO] using h)
  | ok a => obtain ⟨o, j⟩ := a; injection h

theorem atomP_er {s : ByteArray} {ch : Nat → PRes (Re × Nat)} (hc : NoZero ch) {d i : Nat} {e : PErr} (h : atomP s ch d i = .error e) : e.1 ≠ 0 := by
  unfold atomP at h
  dsimp only at h
  split at h
  · injection h
  split at h
  · exact escapeP_er (liftO_er h)
  split at h
  · exact classP_er _ _ _ (liftO_er h)
  split at h
  · exact groupP_er hc h
  split at h
  · injection h with h; subst h; simp
  · injection h

theorem itemP_er {s : ByteArray} {ch : Nat → PRes (Re × Nat)} (hc : NoZero ch) {d i : Nat} {e : PErr} (h : itemP s ch d i = .error e) : e.1 ≠ 0 := by
  unfold itemP at h
  split at h
  · rename_i e' he
    injection h with h; subst h
    exact atomP_er hc he
  · exact timesP_er h

theorem rowP_er {s : ByteArray} {ch : Nat → PRes (Re × Nat)} (hc : NoZero ch) {d : Nat} {e : PErr} : ∀ (f : Nat) (l : List Re) (i : Nat), rowP s ch d f l i = .error e → e.1 ≠ 0
  | 0, _, _, h => by simp only [rowP] at h; injection h with h; subst h; simp
  | f + 1, l, i, h => by
    simp only [rowP] at h
    split at h
    · split at h
      · rename_i e' he
        injection h with h; subst h
        exact itemP_er hc he
      · exact rowP_er hc f _ _ h
    · injection h

theorem forksP_er {s : ByteArray} {ch : Nat → PRes (Re × Nat)} (hc : NoZero ch) {d : Nat} {e : PErr} : ∀ (f : Nat) (p : Re) (i : Nat), forksP s ch d f p i = .error e → e.1 ≠ 0
  | 0, _, _, h => by simp only [forksP] at h; injection h with h; subst h; simp
  | f + 1, p, i, h => by
    simp only [forksP] at h
    split at h
    · split at h
      · rename_i e' he
        injection h with h; subst h
        exact rowP_er hc _ _ _ he
      · exact forksP_er hc f _ _ h
    · injection h

theorem choiceP_er {s : ByteArray} : ∀ (f d : Nat), NoZero (choiceP s f d)
  | 0, d => fun _ _ h => by simp only [choiceP] at h; injection h with h; subst h; simp
  | f + 1, d => fun j e h => by
    have hc := choiceP_er (s := s) f (d + 1)
    simp only [choiceP] at h
    split at h
    · rename_i e' he
      injection h with h; subst h
      exact rowP_er hc _ _ _ he
    · exact forksP_er hc _ _ _ h

theorem wholeP_er {s : ByteArray} {e : PErr} (h : wholeP s = .error e) : e.1 ≠ 0 := by
  unfold wholeP at h
  split at h
  · rename_i e' he
    injection h with h; subst h
    exact choiceP_er _ _ _ _ he
  · split at h
    · injection h with h; subst h; simp
    · injection h

end Go.Proofs.YtgcmjidphoklkaaGreatDoor.Rx
