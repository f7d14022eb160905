/- Walks over layer 5's reader: what it sees, one step on, a fault; parts of one rune. -/
import Derived.Test.YtgcmjidphoklkaaGreatDoorRxWa
import Derived.Test.YtgcmjidphoklkaaGreatDoorShelf
import Derived.Lib.QuietBelow
import Derived.Lib.RuneCountTail
import Derived.Lib.Hide
namespace Go.Proofs.YtgcmjidphoklkaaGreatDoor.Rx
open Go.RowKit Go.Sort

/-- The reader at block b reads s, at i. -/
structure Rd (w : World) (b : Nat) (s : ByteArray) (i : Nat) : Prop where
  text : w.cell? ⟨b, 0, none⟩ = some (.string s)
  at_ : w.cell? ⟨b, 1, none⟩ = some (.int .i64 i)
  free : w.frozen? ⟨b, 1, none⟩ = false

theorem Rd.lt {w : World} {b : Nat} {s : ByteArray} {i : Nat} (h : Rd w b s i) : b < w.heap.size := by
  have h1 := h.text
  unfold World.cell? at h1
  rcases Nat.lt_or_ge b w.heap.size with h2 | h2
  · exact h2
  · rw [Array.getElem?_eq_none h2] at h1; cases h1

theorem Rd.below {w w' : World} {b : Nat} {s : ByteArray} {i : Nat} (h : Rd w b s i) (hb : Below w.heap.size w w') : Rd w' b s i :=
  ⟨(hb.cell (p := ⟨b, 0, none⟩) h.lt).trans h.text, (hb.cell (p := ⟨b, 1, none⟩) h.lt).trans h.at_, (hb.frozen (p := ⟨b, 1, none⟩) h.lt).trans h.free⟩

theorem below_drewN (w : World) (n : Nat) : Below w.heap.size w (w.drewN n) := ⟨rfl, rfl, rfl, Nat.le_refl _, fun _ _ => rfl⟩

theorem bt_eq {s : ByteArray} {i : Nat} (h : i < s.size) : bt s i = (s[i]).toNat := by
  obtain ⟨⟨l⟩⟩ := s
  simp only [bt, ByteArray.get!, ByteArray.getElem_eq_getElem_data]
  rw [getElem!_pos _ i h]

theorem here_eq {s : ByteArray} {i c : Nat} (h : i < s.size) : (((s[i]).toNat : Int) == (c : Int)) = here s i c := by
  rw [Bool.eq_iff_iff]; simp [here, h, bt_eq h]; omega

set_option maxHeartbeats 400000 in
theorem here_any (w : World) (b : Nat) (s : ByteArray) (i c : Nat) (h : Rd w b s i) (hi : i ≤ s.size) (_hc : c < 256) (_hs : s.size ≤ 256) :
    Calls Tryz.prog 77 #[.pointer (some ⟨b, 0, none⟩), .int .u8 c] w fun e w' => e = .returned (.bool (here s i c)) ∧ ∃ n, w' = w.drewN n := by
  obtain ⟨h0, h1, _⟩ := h
  by_cases hlt : i < s.size
  · have hd : decide ((i : Int) < (s.size : Int)) = true := by simpa using hlt
    go_enter Tryz.func77, Tryz.ntmps77
    go_wp2
    go_quiet (fail)
    go_wp2
    go_ret
    exact ⟨ret_bool (here_eq hlt), _, rfl⟩
  · have hd : decide ((i : Int) < (s.size : Int)) = false := by simpa using hlt
    go_enter Tryz.func77, Tryz.ntmps77
    go_wp2
    go_quiet (fail)
    go_wp2
    go_ret
    exact ⟨ret_bool (here_no (by omega)).symm, _, rfl⟩

/-- The same, said of the blocks alone. -/
theorem here_below (w : World) (b : Nat) (s : ByteArray) (i c : Nat) (h : Rd w b s i) (hi : i ≤ s.size) (hc : c < 256) (hs : s.size ≤ 256) :
    Calls Tryz.prog 77 #[.pointer (some ⟨b, 0, none⟩), .int .u8 c] w fun e w' => e = .returned (.bool (here s i c)) ∧ Below w.heap.size w w' :=
  (here_any w b s i c h hi hc hs).mono fun _ _ ⟨he, n, hw⟩ => ⟨he, by subst hw; exact below_drewN w n⟩

theorem tabs_grow {w : World} (hT : Lib.Utf8Tabs 0 1 w) (d : Nat) (os : Array Obj) : Lib.Utf8Tabs 0 1 (grow (redrawn w d) os) :=
  Utf8Tabs_below hT (below_regrown w d os)

theorem ret_tuple_i32_i64 {a b c d : Int} (h1 : a = c) (h2 : b = d) : Ending.returned (.tuple #[.int .i32 a, .int .i64 b]) = .returned (.tuple #[.int .i32 c, .int .i64 d]) := by rw [h1, h2]

theorem decodeGo_tail {s : ByteArray} {i : Nat} (h : i < s.size) : Lib.decodeGo (s.extract i s.size) = Utf8.decode s i := by
  unfold Lib.decodeGo
  rw [if_neg (by simp [ByteArray.size_extract]; omega), Lib.tail_decode]; rfl

set_option maxHeartbeats 800000 in
theorem peek_any (w : World) (b : Nat) (s : ByteArray) (i : Nat) (h : Rd w b s i) (_hs : s.size ≤ 256) (hi : i ≤ s.size) (hT : Lib.Utf8Tabs 0 1 w) :
    Calls Tryz.prog 92 #[.pointer (some ⟨b, 0, none⟩)] w fun e w' => e = .returned (.tuple #[.int .i32 (peekC s i), .int .i64 (peekN s i)]) ∧ Below w.heap.size w w' := by
  obtain ⟨h0, h1, _⟩ := h
  have c0 : ∀ n d os, (grow (redrawn (w.drewN n) d) os).cell? ⟨b, 0, none⟩ = some (.string s) := fun _ d os => cell_regrown h0 d os
  have c1 : ∀ n d os, (grow (redrawn (w.drewN n) d) os).cell? ⟨b, 1, none⟩ = some (.int .i64 i) := fun _ d os => cell_regrown h1 d os
  by_cases hlt : i < s.size
  · have hd : decide ((s.size : Int) ≤ (i : Int)) = false := by simp; omega
    have cQ : ∀ n d os, Calls Tryz.prog 101 #[.string (s.extract i s.size)] (grow (redrawn (w.drewN n) d) os) fun e w'' => e = .returned (.tuple #[.int .i32 (Lib.decodeGo (s.extract i s.size)).1, .int .i64 (Lib.decodeGo (s.extract i s.size)).2]) ∧ ∃ p : Regrown, w'' = grow (redrawn (w.drewN n) p.d) p.os :=
      fun n d os => Calls.regrown_of (Tryz.utf8_DecodeRuneInString _ _ (tabs_grow hT d os))
    have HQ := Lib.hid cQ
    clear cQ hT
    go_enter Tryz.func92, Tryz.ntmps92
    go_wp2
    go_quiet (fail)
    go_wp2
    refine wp_region_quiet_below (by kernel_rfl) (by kernel_rfl) ?_
    repeat (quiet_step (exact HQ.out _ _ _))
    refine wpQuiet_nil ?_
    intro _ hw'
    obtain ⟨⟨dq, osq⟩, hw''⟩ := hw'
    subst hw''
    go_wp2
    go_ret2
    exact ⟨ret_tuple_i32_i64 (by rw [decodeGo_tail hlt, peekC, if_pos hlt]) (by rw [decodeGo_tail hlt, peekN, if_pos hlt]), below_regrown w dq osq⟩
  · have hd : decide ((s.size : Int) ≤ (i : Int)) = true := by simp; omega
    go_enter Tryz.func92, Tryz.ntmps92
    go_wp2
    go_quiet (fail)
    go_wp2
    go_ret2
    exact ⟨ret_tuple_i32_i64 (by rw [peekC_none (by omega)]) (by rw [peekN_none (by omega)]; rfl), below_drewN _ _⟩

/-- The reader at block b has moved to j; of what was there nothing else has turned. -/
def Moved (w w' : World) (b j : Nat) : Prop := Below w.heap.size (w.setCell ⟨b, 1, none⟩ (.int .i64 j)) w'

theorem setCell_size (w : World) (a : Addr) (v : Value) : (w.setCell a v).heap.size = w.heap.size := by simp [World.setCell]

theorem setCell_block_ne (w : World) (a : Addr) (v : Value) (k : Nat) (h : k ≠ a.block) : (w.setCell a v).heap[k]? = w.heap[k]? := Below.heap_setCell w a v k h

theorem setCell_block_congr {w w1 : World} (a : Addr) (v : Value) {k : Nat} (h : w1.heap[k]? = w.heap[k]?) : (w1.setCell a v).heap[k]? = (w.setCell a v).heap[k]? := by
  simp only [World.setCell, Array.getElem?_modify, h]

theorem setCell_twice (w : World) (a : Addr) (x y : Value) : (w.setCell a x).setCell a y = w.setCell a y := by
  simp only [World.setCell]
  congr 1
  apply Array.ext_getElem?
  intro k
  simp only [Array.getElem?_modify]
  split
  · cases w.heap[k]? with
    | none => rfl
    | some o =>
      cases o with
      | cells c e f =>
        simp only [Option.map_some]
        split <;> simp
      | _ => rfl
  · rfl

theorem below_setCell {B : Nat} {w w1 : World} (h : Below B w w1) (a : Addr) (v : Value) : Below B (w.setCell a v) (w1.setCell a v) :=
  ⟨h.os, h.tape, h.output, by rw [setCell_size, setCell_size]; exact h.size, fun k hk => setCell_block_congr a v (h.block k hk)⟩

theorem setCell_self {w : World} {a : Addr} {x : Value} (h : w.cell? a = some x) : w.setCell a x = w := by
  unfold World.cell? at h
  cases hb : w.heap[a.block]? with
  | none => rw [hb] at h; cases h
  | some o =>
    rw [hb] at h
    cases o with
    | cells c e f =>
      simp only at h
      split at h
      · cases h
      · rename_i hs
        simp only [World.setCell, hs, Bool.false_eq_true, if_false]
        congr 1
        apply Array.ext_getElem?
        intro k
        simp only [Array.getElem?_modify]
        split
        · rename_i hk
          subst hk
          rw [hb]
          simp only [Option.map_some, Option.some.injEq, Obj.cells.injEq, and_true]
          apply Array.ext_getElem?
          intro j
          rw [Array.getElem?_setIfInBounds]
          split
          · rename_i hj
            subst hj
            split
            · exact h.symm
            · rw [Array.getElem?_eq_none (by omega)]
          · rfl
        · rfl
    | _ => cases h

/-- A reader that stands at i has moved there. -/
theorem Rd.here {w : World} {b : Nat} {s : ByteArray} {i : Nat} (h : Rd w b s i) : Moved w w b i := by
  unfold Moved
  rw [setCell_self h.at_]
  exact Below.refl _ _

theorem Moved.of_below {w w1 w2 : World} {b j : Nat} (h : Below w.heap.size w w1) (m : Moved w1 w2 b j) : Moved w w2 b j := by
  unfold Moved at *
  exact (below_setCell h _ _).trans (m.mono h.size)

theorem Moved.of_set {w w1 : World} {b j : Nat} (h : Below w.heap.size w w1) : Moved w (w1.setCell ⟨b, 1, none⟩ (.int .i64 j)) b j := below_setCell h _ _

theorem Moved.below {w w1 w2 : World} {b j : Nat} (m : Moved w w1 b j) (h : Below w1.heap.size w1 w2) : Moved w w2 b j := by
  unfold Moved at *
  have := m.size
  rw [setCell_size] at this
  exact m.trans (h.mono this)

theorem Moved.trans {w w1 w2 : World} {b j k : Nat} (m : Moved w w1 b j) (n : Moved w1 w2 b k) : Moved w w2 b k := by
  unfold Moved at *
  have hs := m.size
  rw [setCell_size] at hs
  have h1 := below_setCell m ⟨b, 1, none⟩ (.int .i64 k)
  rw [setCell_twice] at h1
  exact h1.trans (n.mono hs)

theorem Moved.size {w w1 : World} {b j : Nat} (m : Moved w w1 b j) : w.heap.size ≤ w1.heap.size := by
  have := Below.size m; rwa [setCell_size] at this

theorem cell?_setCell_at {w : World} {a : Addr} {x v : Value} (h : w.cell? a = some x) : (w.setCell a v).cell? a = some v := World.cell?_setCell_same _ _ _ h

theorem Moved.rd {w w' : World} {b : Nat} {s : ByteArray} {i j : Nat} (m : Moved w w' b j) (h : Rd w b s i) : Rd w' b s j := by
  have hl := h.lt
  refine ⟨?_, ?_, ?_⟩
  · rw [Below.cell m (p := ⟨b, 0, none⟩) hl]; exact (World.cell?_setCell_other w _ _ _ (by simp)).trans h.text
  · rw [Below.cell m (p := ⟨b, 1, none⟩) hl]; exact cell?_setCell_at h.at_
  · rw [Below.frozen m (p := ⟨b, 1, none⟩) hl]; simp [h.free]

/-- A cell of another block stays. -/
theorem Moved.cell_ne {w w' : World} {b j : Nat} (m : Moved w w' b j) {p : Addr} (hp : p.block < w.heap.size) (hne : p.block ≠ b) : w'.cell? p = w.cell? p := by
  rw [Below.cell m hp]
  exact World.cell?_of_block (setCell_block_ne w ⟨b, 1, none⟩ _ p.block hne)

theorem tabs_moved {w w' : World} {b j : Nat} (hT : Lib.Utf8Tabs 0 1 w) (m : Moved w w' b j) (hb : 2 ≤ b) : Lib.Utf8Tabs 0 1 w' := by
  have key : ∀ (g o : Nat) (v : Value), g < 2 → w.cell? ⟨g, o, none⟩ = some v → w'.cell? ⟨g, o, none⟩ = some v := by
    intro g o v hg h
    have hlt : g < w.heap.size := by
      unfold World.cell? at h
      rcases Nat.lt_or_ge g w.heap.size with h2 | h2
      · exact h2
      · rw [Array.getElem?_eq_none h2] at h; cases h
    rw [m.cell_ne (p := ⟨g, o, none⟩) hlt (by show g ≠ b; omega)]; exact h
  exact ⟨fun c hc => key _ _ _ (by omega) (hT.1 c hc), fun i hi => ⟨key _ _ _ (by omega) (hT.2 i hi).1, key _ _ _ (by omega) (hT.2 i hi).2⟩⟩

theorem decode_le (s : ByteArray) (i : Nat) (h : i < s.size) : i + (Utf8.decode s i).2 ≤ s.size := by
  unfold Utf8.decode
  dsimp only
  repeat' split
  all_goals simp_all
  all_goals omega

theorem peekN_le (s : ByteArray) (i : Nat) (hi : i ≤ s.size) : i + peekN s i ≤ s.size := by
  unfold peekN
  split
  · rename_i h; exact decode_le s i h
  · omega

theorem ret_i32 {a b : Int} (h : a = b) : Ending.returned (.int .i32 a) = .returned (.int .i32 b) := by rw [h]

set_option maxHeartbeats 800000 in
theorem next_any (w : World) (b : Nat) (s : ByteArray) (i : Nat) (h : Rd w b s i) (hs : s.size ≤ 256) (hi : i ≤ s.size) (hT : Lib.Utf8Tabs 0 1 w) :
    Calls Tryz.prog 98 #[.pointer (some ⟨b, 0, none⟩)] w fun e w' => e = .returned (.int .i32 (peekC s i)) ∧ Moved w w' b (i + peekN s i) := by
  have hp := peek_any w b s i h hs hi hT
  have hle := peekN_le s i hi
  clear hT
  go_enter Tryz.func98, Tryz.ntmps98
  go_wp2_with fail
  refine hp.mono ?_
  rintro e w1 ⟨rfl, hb⟩
  have hr := h.below hb
  obtain ⟨h0, h1, hf⟩ := hr
  have hw : IntKind.i64.wrap ((i : Int) + (peekN s i : Int)) = ((i + peekN s i : Nat) : Int) := by rw [IntKind.wrap_i64] <;> omega
  clear h hp
  go_wp2
  go_ret
  exact ⟨rfl, Moved.of_set hb⟩

set_option maxHeartbeats 400000 in
theorem fail_any (w : World) (b : Nat) (en pl : Int) :
    Calls Tryz.prog 57 #[.pointer (some ⟨b, 0, none⟩), .int .i64 en, .int .i64 pl] w fun e w' => e = .panicked [{ v := .iface 94 (.agg #[.int .i64 en, .int .i64 pl]), recovered := false }] ∧ w = w' := by
  go_enter Tryz.func57, Tryz.ntmps57
  go_wp2
  exact ⟨rfl, rfl, rfl⟩

end Go.Proofs.YtgcmjidphoklkaaGreatDoor.Rx
