/- The rows of what is read are no longer than the text. -/
import Derived.Test.YtgcmjidphoklkaaGreatDoorRxBd
namespace Go.Proofs.YtgcmjidphoklkaaGreatDoor.Rx

mutual
/-- No row is longer than 256. -/
def Re.Sm : Re → Prop
  | .one _ _ => True
  | .row l => Re.SmL l ∧ l.length ≤ 256
  | .fork a b => Re.Sm a ∧ Re.Sm b
  | .loop k _ _ _ => Re.Sm k
def Re.SmL : List Re → Prop
  | [] => True
  | r :: l => Re.Sm r ∧ Re.SmL l
end

theorem SmL_snoc : ∀ (l : List Re) (r : Re), Re.SmL l → Re.Sm r → Re.SmL (l ++ [r])
  | [], _, _, h => ⟨h, trivial⟩
  | _ :: l, r, h1, h2 => ⟨h1.1, SmL_snoc l r h1.2 h2⟩

def SmS (s : ByteArray) (ch : Nat → PRes (Re × Nat)) : Prop := ∀ j t k, j ≤ s.size → ch j = .ok (t, k) → Re.Sm t

theorem innerP_sm {s : ByteArray} {ch : Nat → PRes (Re × Nat)} (hs : SmS s ch) {i j : Nat} {t : Re} (hi : i ≤ s.size) (h : innerP s ch i = .ok (t, j)) : Re.Sm t := by
  unfold innerP at h
  split at h
  · injection h
  · rename_i p k hc
    have h1 := hs i p k hi hc
    split at h
    · injection h with h; injection h with h3 h4
      subst h3
      exact h1
    · injection h

theorem groupP_sm {s : ByteArray} {ch : Nat → PRes (Re × Nat)} (hs : SmS s ch) {d i j : Nat} {t : Re} (hi : i < s.size) (h : groupP s ch d i = .ok (t, j)) : Re.Sm t := by
  unfold groupP at h
  split at h
  · injection h
  · split at h
    · split at h
      · rename_i h2
        have := here_lt h2
        exact innerP_sm hs (by omega) h
      · injection h
    · exact innerP_sm hs (by omega) h

theorem atomP_sm {s : ByteArray} {ch : Nat → PRes (Re × Nat)} (hs : SmS s ch) {d i j : Nat} {t : Re} (hi : i < s.size) (h : atomP s ch d i = .ok (t, j)) : Re.Sm t := by
  unfold atomP at h
  dsimp only at h
  split at h
  · injection h with h; injection h with h1 h2
    subst h1
    trivial
  split at h
  · obtain ⟨o, h1, rfl⟩ := liftO_bd h
    trivial
  split at h
  · obtain ⟨o, h1, rfl⟩ := liftO_bd h
    trivial
  split at h
  · exact groupP_sm hs hi h
  split at h
  · injection h
  · injection h with h; injection h with h1 h2
    subst h1
    trivial

theorem timesP_sm {s : ByteArray} {p t : Re} {i j : Nat} (hp : Re.Sm p) (h : timesP s p i = .ok (t, j)) : Re.Sm t := by
  unfold timesP at h
  split at h
  · injection h with h; injection h with h1 h2; subst h1; exact hp
  split at h
  · injection h with h; injection h with h1 h2; subst h1; exact hp
  split at h
  · injection h with h; injection h with h1 h2; subst h1; exact hp
  split at h
  · split at h
    · injection h
    · injection h with h; injection h with h1 h2; subst h1; exact hp
  · injection h with h; injection h with h1 h2; subst h1; exact hp

theorem rowP_sm {s : ByteArray} (h256 : s.size ≤ 256) {ch : Nat → PRes (Re × Nat)} (hb : Stays s ch) (hs : SmS s ch) {d : Nat} : ∀ (f : Nat) (l : List Re) (i j : Nat) (t : Re), Re.SmL l → l.length ≤ i → i ≤ s.size → rowP s ch d f l i = .ok (t, j) → Re.Sm t
  | 0, _, _, _, _, _, _, _, h => by simp [rowP] at h
  | f + 1, l, i, j, t, hl, hn, hi, h => by
    simp only [rowP] at h
    split at h
    · rename_i hg
      have hlt := goesOn_lt hg
      split at h
      · injection h
      · rename_i a k ha
        have h1 := itemP_bd hb hlt ha
        refine rowP_sm h256 hb hs f _ k j t (SmL_snoc l a hl ?_) (by simp; omega) h1.2.1 h
        unfold itemP at ha
        split at ha
        · injection ha
        · rename_i a' k' ha'
          exact timesP_sm (atomP_sm hs hlt ha') ha
    · injection h with h; injection h with h1 h2
      subst h1
      exact ⟨hl, by omega⟩

theorem forksP_sm {s : ByteArray} (h256 : s.size ≤ 256) {ch : Nat → PRes (Re × Nat)} (hb : Stays s ch) (hs : SmS s ch) {d : Nat} : ∀ (f : Nat) (p : Re) (i j : Nat) (t : Re), Re.Sm p → i ≤ s.size → forksP s ch d f p i = .ok (t, j) → Re.Sm t
  | 0, _, _, _, _, _, _, h => by simp [forksP] at h
  | f + 1, p, i, j, t, hp, hi, h => by
    simp only [forksP] at h
    split at h
    · rename_i hg
      have hlt := here_lt hg
      split at h
      · injection h
      · rename_i q k hq
        have h1 := rowP_bd hb _ [] _ _ _ trivial (by omega) hq
        have h2 := rowP_sm h256 hb hs _ [] _ _ _ trivial (by simp) (by omega) hq
        exact forksP_sm h256 hb hs f (.fork p q) k j t ⟨hp, h2⟩ h1.2.1 h
    · injection h with h; injection h with h1 h2
      subst h1
      exact hp

theorem choiceP_sm {s : ByteArray} (h256 : s.size ≤ 256) : ∀ (f d : Nat), SmS s (choiceP s f d)
  | 0, d => fun _ _ _ _ h => by simp [choiceP] at h
  | f + 1, d => fun i t j hi h => by
    have hb := choiceP_bd (s := s) f (d + 1)
    have hs := choiceP_sm h256 f (d + 1)
    simp only [choiceP] at h
    split at h
    · injection h
    · rename_i p k hp
      have h1 := rowP_bd hb _ [] _ _ _ trivial hi hp
      have h2 := rowP_sm h256 hb hs _ [] _ _ _ trivial (by simp) hi hp
      exact forksP_sm h256 hb hs _ _ _ _ _ h2 h1.2.1 h

theorem wholeP_bd {s : ByteArray} (h256 : s.size ≤ 256) {t : Re} (h : wholeP s = .ok t) : Re.WF t ∧ Re.Sm t := by
  unfold wholeP at h
  split at h
  · injection h
  · rename_i p j hc
    split at h
    · injection h
    · injection h with h
      subst h
      exact ⟨(choiceP_bd 51 0 0 p j (Nat.zero_le _) hc).2.2, choiceP_sm h256 51 0 0 p j (Nat.zero_le _) hc⟩


theorem SmL_mem : ∀ {l : List Re} {r : Re}, Re.SmL l → r ∈ l → Re.Sm r
  | _ :: _, _, h, .head _ => h.1
  | _ :: _, _, h, .tail _ hm => SmL_mem h.2 hm
theorem WFL_mem : ∀ {l : List Re} {r : Re}, Re.WFL l → r ∈ l → Re.WF r
  | _ :: _, _, h, .head _ => h.1
  | _ :: _, _, h, .tail _ hm => WFL_mem h.2 hm

end Go.Proofs.YtgcmjidphoklkaaGreatDoor.Rx
