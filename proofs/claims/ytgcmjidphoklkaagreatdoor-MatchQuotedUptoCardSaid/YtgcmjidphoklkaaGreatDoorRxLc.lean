/- Layer 5: what is compiled, carried on; texts that are right UTF-8. -/
import Derived.Test.YtgcmjidphoklkaaGreatDoorRxQc
import Derived.Lib.ValidLaws
import Derived.Lib.TrimU
namespace Go.Proofs.YtgcmjidphoklkaaGreatDoor.Rx
open Go.RowKit Go.Sort
variable {lw : Nat}

theorem compileP_ok {s : ByteArray} {r : Re} (h : compileP s = .ok r) : s.size ≤ 256 ∧ wholeP s = .ok r ∧ Re.cnt r ≤ 2000 := by
  unfold compileP at h
  by_cases hs : 256 < s.size
  · rw [if_pos hs] at h; injection h
  rw [if_neg hs] at h
  split at h
  · injection h
  · rename_i p hp
    split at h
    · injection h
    · injection h with h
      subst h
      exact ⟨by omega, hp, by omega⟩

theorem compileP_wf {s : ByteArray} {r : Re} (h : compileP s = .ok r) : Re.WF r := (wholeP_bd (compileP_ok h).1 (compileP_ok h).2.1).1

theorem compileP_er {s : ByteArray} {e : PErr} (h : compileP s = .error e) : e.1 ≠ 0 := by
  unfold compileP at h
  split at h
  · injection h with h; subst h; simp
  split at h
  · rename_i e' he
    injection h with h; subst h
    exact wholeP_er he
  · split at h
    · injection h with h; subst h; simp
    · injection h

theorem match_nil (w : World) (s : ByteArray) : Calls Tryz.prog 29 #[.pointer none, .string s] w (fun e w' => e = .returned (.bool false) ∧ w' = w) := by
  go_enter Tryz.func29, Tryz.ntmps29
  go_wp2_with fail
  go_ret
  exact ⟨rfl, rfl⟩

/-- From place i on a text is right UTF-8. -/
def Vd (s : ByteArray) (i : Nat) : Prop := encAll (rnAt s i) = s.data.toList.drop i

theorem Vd.end_ (s : ByteArray) (i : Nat) (h : s.size ≤ i) : Vd s i := by
  unfold Vd
  rw [rnAt_end s i (by omega), List.drop_eq_nil_of_le (by rw [← size_list]; exact h)]
  rfl

theorem Vd.step {s : ByteArray} {i : Nat} (hi : i < s.size) (hv : ¬ ((Utf8.decode s i).1 = 65533 ∧ (Utf8.decode s i).2 = 1)) (h : Vd s (i + (Utf8.decode s i).2)) : Vd s i := by
  unfold Vd at h ⊢
  have hne : s.data.toList.drop i ≠ [] := by
    intro e
    have := congrArg List.length e
    rw [List.length_drop, ← size_list] at this
    simp at this
    omega
  rw [← Lib.decodeL_drop] at hv h
  have he := Lib.encode_decode _ hne hv
  rw [rnAt_cons s i hi, ← Lib.decodeL_drop]
  show Lib.encodeRune _ ++ encAll _ = _
  rw [he, h, ← List.drop_drop]
  exact List.take_append_drop _ _

theorem RegexAt.below {w w' : World} {rb : Nat} {r : Re} {c : P9} {K C : List Nat} {v : Value} {ns : List NdM} (h : RegexAt lw w rb r c K C v ns) (hb : Below w.heap.size w w') : RegexAt lw w' rb r c K C v ns where
  cells := h.cells.like (hb.block rb h.lt)
  part := h.part.like ⟨fun k hk => hb.block k (by have := h.low k hk; have := h.lt; omega), hb.size⟩
  low := h.low
  states := (hb.cell (p := ⟨rb, 9, none⟩) h.lt).trans h.states
  gr := h.gr.below hb h.lt
  nodes := h.nodes.like (fun k _ hk => hb.block k (by have := h.lt; omega)) hb.size
  first := (hb.cell (p := ⟨rb, 11, none⟩) h.lt).trans h.first
  lt := Nat.lt_of_lt_of_le h.lt hb.size

theorem rnAt_scalar (s : ByteArray) (c : Int) (h : c ∈ rnAt s 0) : Scalar c := rnF_scalar s _ 0 c h

theorem text_eq {s t : ByteArray} (h : s.data.toList = t.data.toList) : s = t := by
  cases s; cases t
  simp at h
  rw [h]

theorem Vd.zero {s : ByteArray} (h : Vd s 0) : encAll (rnAt s 0) = s.data.toList := by
  unfold Vd at h
  rw [h]; rfl

/-- A compiled expression hangs on nothing that lies below lo. -/
theorem RegexAt.up {w w' : World} {rb lo : Nat} {r : Re} {c : P9} {K C : List Nat} {v : Value} {ns : List NdM} (h : RegexAt lw w rb r c K C v ns) (hl : lo ≤ lw) (hr : lo < rb) (e : ∀ k, lo ≤ k → k < w.heap.size → w'.heap[k]? = w.heap[k]?) (hs : w.heap.size ≤ w'.heap.size) : RegexAt lw w' rb r c K C v ns where
  cells := h.cells.like (e rb (by omega) h.lt)
  part := h.part.like ⟨fun k hk => e k (by have := h.low k hk; omega) (by have := h.low k hk; have := h.lt; omega), hs⟩
  low := h.low
  states := (World.cell?_of_block (w := w) (a := ⟨rb, 9, none⟩) (e rb (by omega) h.lt)).trans h.states
  gr := ⟨(World.cell?_of_block (w := w) (a := ⟨rb, 10, none⟩) (e rb (by omega) h.lt)).trans h.gr.cell, (World.frozen?_of_block (w := w) (a := ⟨rb, 10, none⟩) (e rb (by omega) h.lt)).trans h.gr.free,
    ownsRow_like h.gr.own (fun g hg => e g (by have := (h.gr.own.lt g hg).1; omega) (h.gr.own.lt g hg).2), h.gr.ne⟩
  nodes := h.nodes.like (fun k hk1 hk2 => e k (by omega) (by have := h.lt; omega)) hs
  first := (World.cell?_of_block (w := w) (a := ⟨rb, 11, none⟩) (e rb (by omega) h.lt)).trans h.first
  lt := Nat.lt_of_lt_of_le h.lt hs

theorem vd_valid (s : ByteArray) : ∀ (d i : Nat), s.size - i ≤ d → Lib.validD (s.data.toList.drop i) = true → Vd s i
  | 0, i, hd, _ => Vd.end_ s i (by omega)
  | d + 1, i, hd, h => by
    by_cases hi : i < s.size
    · have hne : s.data.toList.drop i ≠ [] := by
        intro e
        have := congrArg List.length e
        rw [List.length_drop, ← size_list] at this
        simp at this
        omega
      rw [Lib.validD_step _ hne] at h
      split at h
      · cases h
      · rename_i hv
        rw [List.drop_drop] at h
        have hw := Lib.decodeL_width (s.data.toList.drop i)
        rw [Lib.decodeL_drop] at hv h hw
        exact Vd.step hi hv (vd_valid s d _ (by omega) h)
    · exact Vd.end_ s i (by omega)

theorem vd_zero {s : ByteArray} (h : Lib.validD s.data.toList = true) : encAll (rnAt s 0) = s.data.toList := Vd.zero (vd_valid s s.size 0 (by omega) (by simpa using h))

end Go.Proofs.YtgcmjidphoklkaaGreatDoor.Rx
