/- Walks over layer 5's reader: behind a backslash; a member of a class. -/
import Derived.Test.YtgcmjidphoklkaaGreatDoorRxWc
namespace Go.Proofs.YtgcmjidphoklkaaGreatDoor.Rx
open Go.RowKit Go.Sort

def faultV (en pl : Int) : List PanicEntry := [{ v := .iface 94 (.agg #[.int .i64 en, .int .i64 pl]), recovered := false }]

/-- What a call that reads a part of one rune does. -/
def ReadsOne (w : World) (b : Nat) : PRes (One × Nat) → Ending → World → Prop
  | .ok (o, j), e, w' => ∃ g cap C, e = .returned (.agg #[.int .i64 0, .func (.func g) #[] cap, .bool o.plain.isSome, .int .i32 (o.plain.getD 0), .slice none 0 0, .int .i64 0, .int .i64 0, .bool false, .int .i64 0]) ∧
      IsP w' C (.func (.func g) #[] cap) o.p ∧ InB w.heap.size w'.heap.size C ∧ Moved w w' b j
  | .error (en, pl), e, w' => e = .panicked (faultV en pl) ∧ ∃ j, Moved w w' b j

/-- The block r is a part's nine cells, still as they were made. -/
structure Z9 (w : World) (r : Nat) : Prop where
  c0 : w.cell? ⟨r, 0, none⟩ = some (.int .i64 0)
  c1 : w.cell? ⟨r, 1, none⟩ = some .nilFunc
  c2 : w.cell? ⟨r, 2, none⟩ = some (.bool false)
  c3 : w.cell? ⟨r, 3, none⟩ = some (.int .i32 0)
  c4 : w.cell? ⟨r, 4, none⟩ = some (.slice none 0 0)
  c5 : w.cell? ⟨r, 5, none⟩ = some (.int .i64 0)
  c6 : w.cell? ⟨r, 6, none⟩ = some (.int .i64 0)
  c7 : w.cell? ⟨r, 7, none⟩ = some (.bool false)
  c8 : w.cell? ⟨r, 8, none⟩ = some (.int .i64 0)
  fz : ∀ j, w.frozen? ⟨r, j, none⟩ = false

abbrev zero9 : Obj := .cells #[.int .i64 0, .nilFunc, .bool false, .int .i32 0, .slice none 0 0, .int .i64 0, .int .i64 0, .bool false, .int .i64 0] 92

theorem Z9.new (w : World) : Z9 (w.alloc zero9) w.heap.size := by
  constructor <;> simp [go_sem]

theorem Z9.like {w w' : World} {r : Nat} (h : Z9 w r) (e : w'.heap[r]? = w.heap[r]?) : Z9 w' r := by
  have hc : ∀ j, w'.cell? ⟨r, j, none⟩ = w.cell? ⟨r, j, none⟩ := fun j => World.cell?_of_block (w := w) e
  exact ⟨(hc 0).trans h.c0, (hc 1).trans h.c1, (hc 2).trans h.c2, (hc 3).trans h.c3, (hc 4).trans h.c4, (hc 5).trans h.c5, (hc 6).trans h.c6, (hc 7).trans h.c7, (hc 8).trans h.c8,
    fun j => (World.frozen?_of_block (w := w) e).trans (h.fz j)⟩

/-- The nine cells of block r, written one by one. -/
abbrev put9 (w : World) (r : Nat) (a0 a1 a2 a3 a4 a5 a6 a7 a8 : Value) : World :=
  ((((((((w.setCell ⟨r, 0, none⟩ a0).setCell ⟨r, 1, none⟩ a1).setCell ⟨r, 2, none⟩ a2).setCell ⟨r, 3, none⟩ a3).setCell ⟨r, 4, none⟩ a4).setCell ⟨r, 5, none⟩ a5).setCell ⟨r, 6, none⟩ a6).setCell ⟨r, 7, none⟩ a7).setCell ⟨r, 8, none⟩ a8

theorem put9_block (w : World) (r : Nat) (a0 a1 a2 a3 a4 a5 a6 a7 a8 : Value) {k : Nat} (h : k ≠ r) : (put9 w r a0 a1 a2 a3 a4 a5 a6 a7 a8).heap[k]? = w.heap[k]? := by
  simp only [put9]
  rw [setCell_block_ne _ _ _ _ h, setCell_block_ne _ _ _ _ h, setCell_block_ne _ _ _ _ h, setCell_block_ne _ _ _ _ h, setCell_block_ne _ _ _ _ h, setCell_block_ne _ _ _ _ h, setCell_block_ne _ _ _ _ h, setCell_block_ne _ _ _ _ h, setCell_block_ne _ _ _ _ h]
theorem put9_size (w : World) (r : Nat) (a0 a1 a2 a3 a4 a5 a6 a7 a8 : Value) : (put9 w r a0 a1 a2 a3 a4 a5 a6 a7 a8).heap.size = w.heap.size := by
  simp [put9]
theorem put9_below {B : Nat} {w0 w : World} (h : Below B w0 w) (r : Nat) (hr : B ≤ r) (a0 a1 a2 a3 a4 a5 a6 a7 a8 : Value) : Below B w0 (put9 w r a0 a1 a2 a3 a4 a5 a6 a7 a8) :=
  ((((((((h.setCell (p := ⟨r, 0, none⟩) hr a0).setCell (p := ⟨r, 1, none⟩) hr a1).setCell (p := ⟨r, 2, none⟩) hr a2).setCell (p := ⟨r, 3, none⟩) hr a3).setCell (p := ⟨r, 4, none⟩) hr a4).setCell (p := ⟨r, 5, none⟩) hr a5).setCell (p := ⟨r, 6, none⟩) hr a6).setCell (p := ⟨r, 7, none⟩) hr a7).setCell (p := ⟨r, 8, none⟩) hr a8

/-- The end of a call that hands back a part of one rune, laid into its own block r. -/
theorem leafOne {w w2 w3 : World} {b r j : Nat} {o : One} {g : FuncId} {cap : Array Value} {C : List Nat} {a0 a1 a2 a3 a4 a5 a6 a7 a8 : Value}
    (hM : Moved w w2 b j) (hb : Below w2.heap.size w2 w3) (hr : w.heap.size ≤ r) {lo : Nat} (hr2 : r < lo) (hp : IsP w3 C (.func (.func g) #[] cap) o.p) (hC : InB lo w3.heap.size C) (x : Except PErr (One × Nat)) (hx : x = .ok (o, j)) :
    ReadsOne w b x (.returned (.agg #[.int .i64 0, .func (.func g) #[] cap, .bool o.plain.isSome, .int .i32 (o.plain.getD 0), .slice none 0 0, .int .i64 0, .int .i64 0, .bool false, .int .i64 0])) (put9 w3 r a0 a1 a2 a3 a4 a5 a6 a7 a8) := by
  subst hx
  refine ⟨g, cap, C, rfl, hp.like ⟨fun k hk => ?_, ?_⟩, ?_, ?_⟩
  · exact put9_block _ _ _ _ _ _ _ _ _ _ _ (by have := hC k hk; omega)
  · rw [put9_size]; exact Nat.le_refl _
  · rw [put9_size]; exact hC.mono (by omega) (Nat.le_refl _)
  · exact put9_below (Below.trans hM (hb.mono hM.size)) r hr _ _ _ _ _ _ _ _ _

theorem eq_or_of_bne {c : Int} (h : (c != 45) = false ∨ (c != 47) = false) : c = 45 ∨ c = 47 := by simpa using h

theorem escape_plain {s : ByteArray} {i : Nat} {c : Int} (hc : peekC s (i + 1) = c) (h : c ≠ -1 ∧ c ≠ 110 ∧ c ≠ 114 ∧ c ≠ 116 ∧ c ≠ 100 ∧ c ≠ 119 ∧ c ≠ 115 ∧ c ≠ 68 ∧ c ≠ 87 ∧ c ≠ 83)
    (hs : signP c = true ∨ c = 45 ∨ c = 47) : escapeP s i = .ok (onlyP c, i + 1 + peekN s (i + 1)) := by
  obtain ⟨a1, a2, a3, a4, a5, a6, a7, a8, a9, a10⟩ := h
  have hn : ¬ (signP c = false ∧ c ≠ 45 ∧ c ≠ 47) := by
    rintro ⟨b1, b2, b3⟩
    rcases hs with h | h | h
    · rw [h] at b1; cases b1
    · exact b2 h
    · exact b3 h
  simp only [escapeP, hc, a1, a2, a3, a4, a5, a6, a7, a8, a9, a10, hn, if_false]

theorem escape_bad {s : ByteArray} {i : Nat} {c : Int} (hc : peekC s (i + 1) = c) (h : c ≠ -1 ∧ c ≠ 110 ∧ c ≠ 114 ∧ c ≠ 116 ∧ c ≠ 100 ∧ c ≠ 119 ∧ c ≠ 115 ∧ c ≠ 68 ∧ c ≠ 87 ∧ c ≠ 83)
    (hs : signP c = false) (h1 : c ≠ 45) (h2 : c ≠ 47) : escapeP s i = .error (50, i) := by
  obtain ⟨a1, a2, a3, a4, a5, a6, a7, a8, a9, a10⟩ := h
  have hn : signP c = false ∧ c ≠ 45 ∧ c ≠ 47 := ⟨hs, h1, h2⟩
  simp only [escapeP, hc, a1, a2, a3, a4, a5, a6, a7, a8, a9, a10, if_false]
  rw [if_pos hn]

set_option maxHeartbeats 1600000 in
theorem escape_any (w : World) (b : Nat) (s : ByteArray) (i : Nat) (h : Rd w b s i) (hs : s.size ≤ 256) (hi : i < s.size) (hb2 : 2 ≤ b) (hT : Lib.Utf8Tabs 0 1 w) :
    Calls Tryz.prog 95 #[.pointer (some ⟨b, 0, none⟩)] w (ReadsOne w b (escapeP s i)) := by
  have hbl : b < w.heap.size := h.lt
  have HM : Hid (Moved w ((w.setCell ⟨b, 1, none⟩ (.int .i64 ((i : Int) + 1))).alloc zero9) b (i + 1)) := (Below.refl _ _).alloc (by simp [World.setCell]) _
  have hc := next_any ((w.setCell ⟨b, 1, none⟩ (.int .i64 ((i : Int) + 1))).alloc zero9) b s (i + 1) (HM.out.rd h) hs (by omega) (tabs_moved hT HM.out hb2)
  have HZ : Hid (Z9 ((w.setCell ⟨b, 1, none⟩ (.int .i64 ((i : Int) + 1))).alloc zero9) w.heap.size) := by have := Z9.new (w.setCell ⟨b, 1, none⟩ (.int .i64 ((i : Int) + 1))); rwa [setCell_size] at this
  have HC := Lib.hid hc
  have HH := Lib.hid h
  obtain ⟨h0, h1, hf⟩ := h
  clear hc hT
  go_enter Tryz.func95, Tryz.ntmps95
  go_wp2_with fail
  refine HC.out.mono ?_
  rintro e w2 ⟨rfl, hm⟩
  have HM2 := Lib.hid (HM.out.trans hm)
  have hsz : w.heap.size < w2.heap.size := by have := hm.size; simp [World.setCell] at this; omega
  have z2 : Z9 w2 w.heap.size := HZ.out.like (by rw [hm.block _ (by simp [World.setCell])]; exact setCell_block_ne _ _ _ _ (by simp; omega))
  have h2 := HM2.out.rd HH.out
  obtain ⟨g0, g1, gf⟩ := h2
  obtain ⟨z0, z1, z2', z3, z4, z5, z6, z7, z8, zf⟩ := z2
  clear HC HZ hm h0 h1 hf HM HH
  generalize hcc : peekC s (i + 1) = c at *
  have HCC := Lib.hid hcc
  clear hcc
  go_wp2_with fail
  · refine (fail_any _ _ _ _).mono ?_
    rintro e w' ⟨rfl, rfl⟩
    have hc : c = -1 := by have h := (by assumption : (c == -1) = true); simpa using h
    refine ⟨rfl, ?_⟩
    rw [show escapeP s i = .error (50, s.size) from by simp [escapeP, HCC.out, hc]]
    exact ⟨rfl, _, HM2.out⟩
  · refine (only_any _ _).mono ?_
    rintro e w3 ⟨g, cap, C, rfl, hp, hC, hb⟩
    obtain ⟨z0, z1, z2', z3, z4, z5, z6, z7, z8, zf⟩ := Z9.like ⟨z0, z1, z2', z3, z4, z5, z6, z7, z8, zf⟩ (hb.block _ hsz)
    have hc : c = 110 := by have h := (by assumption : (c == 110) = true); simpa using h
    go_wp2_with fail
    refine bodyPost_ret (v := .agg #[.int .i64 0, .func (.func g) #[] cap, .bool (onlyP 10).plain.isSome, .int .i32 ((onlyP 10).plain.getD 0), .slice none 0 0, .int .i64 0, .int .i64 0, .bool false, .int .i64 0]) (by simp [results, Tryz.results95, go_sem, onlyP, *]) rfl (leafOne (o := onlyP 10) HM2.out hb (Nat.le_refl _) hsz hp hC _ ?_)
    simp [escapeP, HCC.out, hc]
  · refine (only_any _ _).mono ?_
    rintro e w3 ⟨g, cap, C, rfl, hp, hC, hb⟩
    obtain ⟨z0, z1, z2', z3, z4, z5, z6, z7, z8, zf⟩ := Z9.like ⟨z0, z1, z2', z3, z4, z5, z6, z7, z8, zf⟩ (hb.block _ hsz)
    have hc : c = 114 := by have h := (by assumption : (c == 114) = true); simpa using h
    go_wp2_with fail
    refine bodyPost_ret (v := .agg #[.int .i64 0, .func (.func g) #[] cap, .bool (onlyP 13).plain.isSome, .int .i32 ((onlyP 13).plain.getD 0), .slice none 0 0, .int .i64 0, .int .i64 0, .bool false, .int .i64 0]) (by simp [results, Tryz.results95, go_sem, onlyP, *]) rfl (leafOne (o := onlyP 13) HM2.out hb (Nat.le_refl _) hsz hp hC _ ?_)
    simp [escapeP, HCC.out, hc]
  · refine (only_any _ _).mono ?_
    rintro e w3 ⟨g, cap, C, rfl, hp, hC, hb⟩
    obtain ⟨z0, z1, z2', z3, z4, z5, z6, z7, z8, zf⟩ := Z9.like ⟨z0, z1, z2', z3, z4, z5, z6, z7, z8, zf⟩ (hb.block _ hsz)
    have hc : c = 116 := by have h := (by assumption : (c == 116) = true); simpa using h
    go_wp2_with fail
    refine bodyPost_ret (v := .agg #[.int .i64 0, .func (.func g) #[] cap, .bool (onlyP 9).plain.isSome, .int .i32 ((onlyP 9).plain.getD 0), .slice none 0 0, .int .i64 0, .int .i64 0, .bool false, .int .i64 0]) (by simp [results, Tryz.results95, go_sem, onlyP, *]) rfl (leafOne (o := onlyP 9) HM2.out hb (Nat.le_refl _) hsz hp hC _ ?_)
    simp [escapeP, HCC.out, hc]
  · refine (set_any _ w2.heap.size _ _ _ (isP_digit _) (InB.nil _ _)).mono ?_
    rintro e w3 ⟨rfl, hp, hC, hb⟩
    obtain ⟨z0, z1, z2', z3, z4, z5, z6, z7, z8, zf⟩ := Z9.like ⟨z0, z1, z2', z3, z4, z5, z6, z7, z8, zf⟩ (hb.block _ hsz)
    have hc : c = 100 := by have h := (by assumption : (c == 100) = true); simpa using h
    obtain ⟨g, cap, hgc⟩ : ∃ g cap, (Value.func (.func 102) #[] #[]) = .func (.func g) #[] cap := ⟨_, _, rfl⟩
    rw [hgc] at hp ⊢
    clear hgc
    go_wp2_with fail
    refine bodyPost_ret (v := .agg #[.int .i64 0, .func (.func g) #[] cap, .bool (setP digitP).plain.isSome, .int .i32 ((setP digitP).plain.getD 0), .slice none 0 0, .int .i64 0, .int .i64 0, .bool false, .int .i64 0]) (by simp [results, Tryz.results95, go_sem, setP, *]) rfl (leafOne (o := setP digitP) HM2.out hb (Nat.le_refl _) hsz hp hC _ ?_)
    simp [escapeP, HCC.out, hc]
  · refine (set_any _ w2.heap.size _ _ _ (isP_letter _) (InB.nil _ _)).mono ?_
    rintro e w3 ⟨rfl, hp, hC, hb⟩
    obtain ⟨z0, z1, z2', z3, z4, z5, z6, z7, z8, zf⟩ := Z9.like ⟨z0, z1, z2', z3, z4, z5, z6, z7, z8, zf⟩ (hb.block _ hsz)
    have hc : c = 119 := by have h := (by assumption : (c == 119) = true); simpa using h
    obtain ⟨g, cap, hgc⟩ : ∃ g cap, (Value.func (.func 103) #[] #[]) = .func (.func g) #[] cap := ⟨_, _, rfl⟩
    rw [hgc] at hp ⊢
    clear hgc
    go_wp2_with fail
    refine bodyPost_ret (v := .agg #[.int .i64 0, .func (.func g) #[] cap, .bool (setP letterP).plain.isSome, .int .i32 ((setP letterP).plain.getD 0), .slice none 0 0, .int .i64 0, .int .i64 0, .bool false, .int .i64 0]) (by simp [results, Tryz.results95, go_sem, setP, *]) rfl (leafOne (o := setP letterP) HM2.out hb (Nat.le_refl _) hsz hp hC _ ?_)
    simp [escapeP, HCC.out, hc]
  · refine (set_any _ w2.heap.size _ _ _ (isP_space _) (InB.nil _ _)).mono ?_
    rintro e w3 ⟨rfl, hp, hC, hb⟩
    obtain ⟨z0, z1, z2', z3, z4, z5, z6, z7, z8, zf⟩ := Z9.like ⟨z0, z1, z2', z3, z4, z5, z6, z7, z8, zf⟩ (hb.block _ hsz)
    have hc : c = 115 := by have h := (by assumption : (c == 115) = true); simpa using h
    obtain ⟨g, cap, hgc⟩ : ∃ g cap, (Value.func (.func 104) #[] #[]) = .func (.func g) #[] cap := ⟨_, _, rfl⟩
    rw [hgc] at hp ⊢
    clear hgc
    go_wp2_with fail
    refine bodyPost_ret (v := .agg #[.int .i64 0, .func (.func g) #[] cap, .bool (setP spaceP).plain.isSome, .int .i32 ((setP spaceP).plain.getD 0), .slice none 0 0, .int .i64 0, .int .i64 0, .bool false, .int .i64 0]) (by simp [results, Tryz.results95, go_sem, setP, *]) rfl (leafOne (o := setP spaceP) HM2.out hb (Nat.le_refl _) hsz hp hC _ ?_)
    simp [escapeP, HCC.out, hc]
  · refine (not_any _ w2.heap.size _ _ _ (isP_digit _) (InB.nil _ _) (Nat.le_refl _)).mono ?_
    rintro e w3 ⟨g, cap, C, rfl, hp, hC, hb⟩
    go_wp2_with fail
    refine (set_any _ w2.heap.size _ _ _ hp hC).mono ?_
    rintro e w4 ⟨rfl, hp, hC, hb'⟩
    have hb4 := hb.trans (hb'.mono hb.size)
    clear hb hb'
    obtain ⟨z0, z1, z2', z3, z4, z5, z6, z7, z8, zf⟩ := Z9.like ⟨z0, z1, z2', z3, z4, z5, z6, z7, z8, zf⟩ (hb4.block _ hsz)
    have hc : c = 68 := by have h := (by assumption : (c == 68) = true); simpa using h
    go_wp2_with fail
    refine bodyPost_ret (v := .agg #[.int .i64 0, .func (.func g) #[] cap, .bool (setP fun x => !digitP x).plain.isSome, .int .i32 ((setP fun x => !digitP x).plain.getD 0), .slice none 0 0, .int .i64 0, .int .i64 0, .bool false, .int .i64 0]) (by simp [results, Tryz.results95, go_sem, setP, *]) rfl (leafOne (o := setP fun x => !digitP x) HM2.out hb4 (Nat.le_refl _) hsz hp hC _ ?_)
    simp [escapeP, HCC.out, hc]
  · refine (not_any _ w2.heap.size _ _ _ (isP_letter _) (InB.nil _ _) (Nat.le_refl _)).mono ?_
    rintro e w3 ⟨g, cap, C, rfl, hp, hC, hb⟩
    go_wp2_with fail
    refine (set_any _ w2.heap.size _ _ _ hp hC).mono ?_
    rintro e w4 ⟨rfl, hp, hC, hb'⟩
    have hb4 := hb.trans (hb'.mono hb.size)
    clear hb hb'
    obtain ⟨z0, z1, z2', z3, z4, z5, z6, z7, z8, zf⟩ := Z9.like ⟨z0, z1, z2', z3, z4, z5, z6, z7, z8, zf⟩ (hb4.block _ hsz)
    have hc : c = 87 := by have h := (by assumption : (c == 87) = true); simpa using h
    go_wp2_with fail
    refine bodyPost_ret (v := .agg #[.int .i64 0, .func (.func g) #[] cap, .bool (setP fun x => !letterP x).plain.isSome, .int .i32 ((setP fun x => !letterP x).plain.getD 0), .slice none 0 0, .int .i64 0, .int .i64 0, .bool false, .int .i64 0]) (by simp [results, Tryz.results95, go_sem, setP, *]) rfl (leafOne (o := setP fun x => !letterP x) HM2.out hb4 (Nat.le_refl _) hsz hp hC _ ?_)
    simp [escapeP, HCC.out, hc]
  · refine (not_any _ w2.heap.size _ _ _ (isP_space _) (InB.nil _ _) (Nat.le_refl _)).mono ?_
    rintro e w3 ⟨g, cap, C, rfl, hp, hC, hb⟩
    go_wp2_with fail
    refine (set_any _ w2.heap.size _ _ _ hp hC).mono ?_
    rintro e w4 ⟨rfl, hp, hC, hb'⟩
    have hb4 := hb.trans (hb'.mono hb.size)
    clear hb hb'
    obtain ⟨z0, z1, z2', z3, z4, z5, z6, z7, z8, zf⟩ := Z9.like ⟨z0, z1, z2', z3, z4, z5, z6, z7, z8, zf⟩ (hb4.block _ hsz)
    have hc : c = 83 := by have h := (by assumption : (c == 83) = true); simpa using h
    go_wp2_with fail
    refine bodyPost_ret (v := .agg #[.int .i64 0, .func (.func g) #[] cap, .bool (setP fun x => !spaceP x).plain.isSome, .int .i32 ((setP fun x => !spaceP x).plain.getD 0), .slice none 0 0, .int .i64 0, .int .i64 0, .bool false, .int .i64 0]) (by simp [results, Tryz.results95, go_sem, setP, *]) rfl (leafOne (o := setP fun x => !spaceP x) HM2.out hb4 (Nat.le_refl _) hsz hp hC _ ?_)
    simp [escapeP, HCC.out, hc]
  · refine (sign_any _ _).mono ?_
    rintro e w' ⟨rfl, rfl⟩
    have HN : Hid (c ≠ -1 ∧ c ≠ 110 ∧ c ≠ 114 ∧ c ≠ 116 ∧ c ≠ 100 ∧ c ≠ 119 ∧ c ≠ 115 ∧ c ≠ 68 ∧ c ≠ 87 ∧ c ≠ 83) := by
      simp only [beq_eq_false_iff_ne, ne_eq] at *
      exact ⟨by assumption, by assumption, by assumption, by assumption, by assumption, by assumption, by assumption, by assumption, by assumption, by assumption⟩
    generalize hsg : signP c = sg
    have HS := Lib.hid hsg
    clear hsg
    cases sg
    · go_wp2_with fail
      · refine (only_any _ _).mono ?_
        rintro e w3 ⟨g, cap, C, rfl, hp, hC, hb⟩
        obtain ⟨z0, z1, z2', z3, z4, z5, z6, z7, z8, zf⟩ := Z9.like ⟨z0, z1, z2', z3, z4, z5, z6, z7, z8, zf⟩ (hb.block _ hsz)
        go_wp2_with fail
        refine bodyPost_ret (v := .agg #[.int .i64 0, .func (.func g) #[] cap, .bool (onlyP 45).plain.isSome, .int .i32 ((onlyP 45).plain.getD 0), .slice none 0 0, .int .i64 0, .int .i64 0, .bool false, .int .i64 0]) (by simp [results, Tryz.results95, go_sem, onlyP, *]) rfl (leafOne (o := onlyP 45) HM2.out hb (Nat.le_refl _) hsz hp hC _ ?_)
        exact (escape_plain HCC.out HN.out (.inr (.inl (by assumption)))).trans (by rw [(by assumption : c = 45)])
      · refine (fail_any _ _ _ _).mono ?_
        rintro e w' ⟨rfl, rfl⟩
        have hh : (c != 45) = true ∧ (c != 47) = true := by assumption
        refine ⟨rfl, ?_⟩
        rw [escape_bad HCC.out HN.out HS.out (by simpa using hh.1) (by simpa using hh.2)]
        exact ⟨rfl, _, HM2.out⟩
      · refine (only_any _ _).mono ?_
        rintro e w3 ⟨g, cap, C, rfl, hp, hC, hb⟩
        obtain ⟨z0, z1, z2', z3, z4, z5, z6, z7, z8, zf⟩ := Z9.like ⟨z0, z1, z2', z3, z4, z5, z6, z7, z8, zf⟩ (hb.block _ hsz)
        go_wp2_with fail
        refine bodyPost_ret (v := .agg #[.int .i64 0, .func (.func g) #[] cap, .bool (onlyP c).plain.isSome, .int .i32 ((onlyP c).plain.getD 0), .slice none 0 0, .int .i64 0, .int .i64 0, .bool false, .int .i64 0]) (by simp [results, Tryz.results95, go_sem, onlyP, *]) rfl (leafOne (o := onlyP c) HM2.out hb (Nat.le_refl _) hsz hp hC _ ?_)
        exact escape_plain HCC.out HN.out (.inr (eq_or_of_bne (by assumption)))
    · go_wp2_with fail
      refine (only_any _ _).mono ?_
      rintro e w3 ⟨g, cap, C, rfl, hp, hC, hb⟩
      obtain ⟨z0, z1, z2', z3, z4, z5, z6, z7, z8, zf⟩ := Z9.like ⟨z0, z1, z2', z3, z4, z5, z6, z7, z8, zf⟩ (hb.block _ hsz)
      go_wp2_with fail
      refine bodyPost_ret (v := .agg #[.int .i64 0, .func (.func g) #[] cap, .bool (onlyP c).plain.isSome, .int .i32 ((onlyP c).plain.getD 0), .slice none 0 0, .int .i64 0, .int .i64 0, .bool false, .int .i64 0]) (by simp [results, Tryz.results95, go_sem, onlyP, *]) rfl (leafOne (o := onlyP c) HM2.out hb (Nat.le_refl _) hsz hp hC _ ?_)
      exact escape_plain HCC.out HN.out (.inl HS.out)

theorem ReadsOne.below {w w1 w2 : World} {b : Nat} {x : PRes (One × Nat)} {e : Ending} (h : Below w.heap.size w w1) (r : ReadsOne w1 b x e w2) : ReadsOne w b x e w2 := by
  rcases x with ⟨en, pl⟩ | ⟨o, j⟩
  · exact ⟨r.1, r.2.imp fun j m => Moved.of_below h m⟩
  · obtain ⟨g, cap, C, he, hp, hC, hm⟩ := r
    exact ⟨g, cap, C, he, hp, hC.mono h.size (Nat.le_refl _), Moved.of_below h hm⟩

set_option maxHeartbeats 1600000 in
theorem member_any (w : World) (b : Nat) (s : ByteArray) (i : Nat) (h : Rd w b s i) (hs : s.size ≤ 256) (hi : i ≤ s.size) (hb2 : 2 ≤ b) (hT : Lib.Utf8Tabs 0 1 w) :
    Calls Tryz.prog 107 #[.pointer (some ⟨b, 0, none⟩)] w (ReadsOne w b (memberP s i)) := by
  have hbl : b < w.heap.size := h.lt
  have hB : Below w.heap.size w (w.alloc zero9) := (Below.refl _ _).alloc (Nat.le_refl _) _
  have hc := here_below (w.alloc zero9) b s i 92 (h.below hB) hi (by omega) hs
  have HB := Lib.hid hB
  have HC := Lib.hid hc
  have HH := Lib.hid h
  have HT := Lib.hid hT
  have HZ : Hid (Z9 (w.alloc zero9) w.heap.size) := Z9.new w
  clear hc hT hB h
  go_enter Tryz.func107, Tryz.ntmps107
  go_wp2_with fail
  refine HC.out.mono ?_
  rintro e w1 ⟨rfl, hb1⟩
  have HB1 : Hid (Below w.heap.size w w1) := HB.out.trans (hb1.mono (by simp))
  have hsz : w.heap.size < w1.heap.size := by have := hb1.size; simp at this; omega
  have HZ1 : Hid (Z9 w1 w.heap.size) := HZ.out.like (hb1.block _ (by simp))
  have HR1 : Hid (Rd w1 b s i) := HH.out.below HB1.out
  have HT1 := Lib.hid (Utf8Tabs_below HT.out HB1.out)
  clear HC HZ HB hb1 HT HH
  cases hh : here s i 92
  · have HHere := Lib.hid hh
    clear hh
    go_wp2_with fail
    refine (next_any w1 b s i HR1.out hs hi HT1.out).mono ?_
    rintro e w2 ⟨rfl, hm⟩
    go_wp2_with fail
    refine (only_any _ _).mono ?_
    rintro e w3 ⟨g, cap, C, rfl, hp, hC, hb⟩
    obtain ⟨z0, z1, z2', z3, z4, z5, z6, z7, z8, zf⟩ := Z9.like (w' := w3) HZ1.out (by rw [hb.block _ (by have := hm.size; omega), hm.block _ hsz]; exact setCell_block_ne _ _ _ _ (by simp; omega))
    go_wp2_with fail
    refine bodyPost_ret (v := .agg #[.int .i64 0, .func (.func g) #[] cap, .bool (onlyP (peekC s i)).plain.isSome, .int .i32 ((onlyP (peekC s i)).plain.getD 0), .slice none 0 0, .int .i64 0, .int .i64 0, .bool false, .int .i64 0]) (by simp [results, Tryz.results107, go_sem, onlyP, *]) rfl ?_
    exact leafOne (o := onlyP (peekC s i)) (Moved.of_below HB1.out hm) hb (Nat.le_refl _) (by have := hm.size; omega) hp hC _ (by simp [memberP, HHere.out])
  · have HHere := Lib.hid hh
    have hi' : i < s.size := here_lt hh
    clear hh
    go_wp2_with fail
    refine (escape_any w1 b s i HR1.out hs hi' hb2 HT1.out).mono ?_
    rintro e w2 hr
    rcases hx : escapeP s i with ⟨en, pl⟩ | ⟨o, j⟩
    · rw [hx] at hr
      obtain ⟨rfl, j, hm⟩ := hr
      refine ⟨rfl, ?_⟩
      rw [show memberP s i = .error (en, pl) from by simp [memberP, HHere.out, hx]]
      exact ⟨rfl, j, Moved.of_below HB1.out hm⟩
    · rw [hx] at hr
      have HX := Lib.hid hx
      clear hx
      obtain ⟨g, cap, C, rfl, hp, hC, hm⟩ := hr
      obtain ⟨z0, z1, z2', z3, z4, z5, z6, z7, z8, zf⟩ := Z9.like (w' := w2) HZ1.out (by rw [hm.block _ hsz]; exact setCell_block_ne _ _ _ _ (by simp; omega))
      go_wp2_with fail
      refine bodyPost_ret (v := .agg #[.int .i64 0, .func (.func g) #[] cap, .bool o.plain.isSome, .int .i32 (o.plain.getD 0), .slice none 0 0, .int .i64 0, .int .i64 0, .bool false, .int .i64 0]) (by simp [results, Tryz.results107, go_sem, *]) rfl ?_
      exact leafOne (Moved.of_below HB1.out hm) (Below.refl _ _) (Nat.le_refl _) hsz hp hC _ (by simp [memberP, HHere.out, HX.out])

end Go.Proofs.YtgcmjidphoklkaaGreatDoor.Rx
