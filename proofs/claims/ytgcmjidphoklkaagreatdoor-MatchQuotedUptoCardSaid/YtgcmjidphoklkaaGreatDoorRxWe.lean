/- Walks over layer 5's reader: the functions that a class makes. -/
import Derived.Test.YtgcmjidphoklkaaGreatDoorRxWd
import Derived.Maps.AppendAt
import Derived.Deep.LoopGhost
namespace Go.Proofs.YtgcmjidphoklkaaGreatDoor.Rx
open Go.RowKit Go.Sort

/-- Function values, each a set of runes. -/
def AllP (w : World) (C : List Nat) (xs : List Value) (fs : List (Int → Bool)) : Prop :=
  xs.length = fs.length ∧ ∀ (i : Nat) (x : Value) (f : Int → Bool), xs[i]? = some x → fs[i]? = some f → IsP w C x f

theorem AllP.like {w w' : World} {C : List Nat} {xs : List Value} {fs : List (Int → Bool)} (h : AllP w C xs fs) (hl : Like C w w') : AllP w' C xs fs :=
  ⟨h.1, fun i x f hx hf => (h.2 i x f hx hf).like hl⟩

theorem IsP.more {w : World} {C D : List Nat} {v : Value} {p : Int → Bool} (h : IsP w C v p) (hs : ∀ k, k ∈ C → k ∈ D) : IsP w D v p := by
  obtain ⟨g, cap, rfl, he, h⟩ := h
  exact ⟨g, cap, rfl, he, fun w' hl => h w' (hl.sub hs)⟩

theorem AllP.snoc {w : World} {C : List Nat} {xs : List Value} {fs : List (Int → Bool)} {v : Value} {p : Int → Bool} (h : AllP w C xs fs) (hp : IsP w C v p) : AllP w C (xs ++ [v]) (fs ++ [p]) := by
  refine ⟨by simp [h.1], fun i x f hx hf => ?_⟩
  by_cases hi : i < xs.length
  · rw [List.getElem?_append_left hi] at hx
    rw [List.getElem?_append_left (by rw [← h.1]; exact hi)] at hf
    exact h.2 i x f hx hf
  · have hi2 : i = xs.length := by
      have := (List.getElem?_eq_some_iff.1 hx).1
      simp at this; omega
    subst hi2
    rw [List.getElem?_append_right (Nat.le_refl _)] at hx
    rw [List.getElem?_append_right (by rw [h.1]; exact Nat.le_refl _), h.1] at hf
    simp at hx hf
    subst hx hf
    exact hp

theorem AllP.more {w : World} {C D : List Nat} {xs : List Value} {fs : List (Int → Bool)} (h : AllP w C xs fs) (hs : ∀ k, k ∈ C → k ∈ D) : AllP w D xs fs :=
  ⟨h.1, fun i x f hx hf => (h.2 i x f hx hf).more hs⟩

theorem any_take_succ (fs : List (Int → Bool)) (c : Int) (k : Nat) (f : Int → Bool) (h : fs[k]? = some f) : (fs.take (k + 1)).any (fun g => g c) = ((fs.take k).any (fun g => g c) || f c) := by
  rw [List.take_add_one, h]
  simp [List.any_append]

set_option maxHeartbeats 1600000 in
theorem class1_any (w : World) (lb g cap : Nat) (xs : List Value) (fs : List (Int → Bool)) (C : List Nat) (c : Int)
    (hl : w.cell? ⟨lb, 0, none⟩ = some (.slice (some ⟨g, 0, none⟩) fs.length cap)) (hx : ∀ j : Nat, j < fs.length → w.cell? ⟨g, j, none⟩ = xs[j]?) (hn : fs.length ≤ 1000) (hp : AllP w C xs fs) (hC : ∀ k, k ∈ C → k < w.heap.size)
    (hg : g < w.heap.size) :
    Calls Tryz.prog 106 #[.int .i32 c, .pointer (some ⟨lb, 0, none⟩)] w fun e w' => e = .returned (.bool (fs.any fun f => f c)) ∧ Below w.heap.size w w' := by
  have HP := Lib.hid hp
  have HX := Lib.hid hx
  have HC := Lib.hid hC
  clear hp hx hC
  generalize hN : fs.length = N at *
  have HN := Lib.hid hN
  clear hN
  go_enter Tryz.func106, Tryz.ntmps106
  go_wp2
  go_loopw [8] (fun i wr => ∃ k : Nat, k ≤ N ∧ i = .int .i64 k ∧ Below w.heap.size w wr ∧ (fs.take k).any (fun f => f c) = false) (fun i _ => N - (intOf i).toNat)
  case atStart => exact ⟨0, Nat.zero_le _, rfl, Below.refl _ _, by simp⟩
  case round =>
    obtain ⟨k, hk, rfl, hb, hany⟩ := hrel
    have HB := Lib.hid hb
    have HA := Lib.hid hany
    clear hb hany
    by_cases hlt : k < N
    · have hxl : k < xs.length := by rw [HP.out.1, HN.out]; exact hlt
      have hfl : k < fs.length := by rw [HN.out]; exact hlt
      have hP := HP.out.2 k xs[k] fs[k] (List.getElem?_eq_getElem hxl) (List.getElem?_eq_getElem hfl)
      have hcell : wr.cell? ⟨g, k, none⟩ = some xs[k] := by
        rw [HB.out.cell (p := ⟨g, k, none⟩) hg, HX.out k hlt, List.getElem?_eq_getElem hxl]
      have HT := Lib.hid (any_take_succ fs c k fs[k] (List.getElem?_eq_getElem hfl))
      have HF : Hid ((fs[k] c = true) → (fs.any fun f => f c) = true) := fun h => List.any_eq_true.2 ⟨fs[k], List.getElem_mem hfl, h⟩
      obtain ⟨g', cap', hv, hen, hf⟩ := hP.like (Like.of_below HB.out HC.out)
      rw [hv] at hcell
      have hcall := Lib.hid (hf wr (Like.refl _ _) c)
      generalize hfk : fs[k] = fk at *
      clear hv hf hP hfk
      go_wp2_with fail
      refine hcall.out.mono ?_
      rintro e w2 ⟨rfl, hb2⟩
      have HB2 : Hid (Below w.heap.size w w2) := HB.out.trans (hb2.mono HB.out.size)
      clear hb2
      generalize hr : fk c = r at *
      clear hr
      cases r
      · go_wp2_with fail
        go_roundw
        case rel => exact ⟨k + 1, by omega, by go_num, HB2.out, by rw [HT.out, HA.out]; rfl⟩
        case measure => simp [intOf]; omega
      · go_wp2_with fail
        go_ret
        exact ⟨ret_bool (HF.out trivial).symm, HB2.out⟩
    · go_wp2_with fail
      go_ret
      exact ⟨ret_bool (by have h := HA.out; rw [List.take_of_length_le (by rw [HN.out]; omega)] at h; exact h.symm), HB.out⟩

set_option maxHeartbeats 800000 in
theorem class2_any (w : World) (a b : Nat) (x y c : Int) (h1 : w.cell? ⟨a, 3, none⟩ = some (.int .i32 x)) (h2 : w.cell? ⟨b, 3, none⟩ = some (.int .i32 y)) :
    Calls Tryz.prog 108 #[.int .i32 c, .pointer (some ⟨a, 0, none⟩), .pointer (some ⟨b, 0, none⟩)] w fun e w' => e = .returned (.bool (decide (x ≤ c) && decide (c ≤ y))) ∧ Below w.heap.size w w' := by
  go_enter Tryz.func108, Tryz.ntmps108
  go_wp2
  · have h : x ≤ c := by assumption
    go_ret
    exact ⟨ret_bool (by simp [h]), Below.refl _ _⟩
  · have h : c < x := by assumption
    go_ret
    exact ⟨ret_bool (by simp; omega), Below.refl _ _⟩

end Go.Proofs.YtgcmjidphoklkaaGreatDoor.Rx
