/- Walks over layer 23: names, right, Right of one inhibition. -/
import Derived.Test.YtjojhlkbcjhonaaDoorIhK
namespace Go.Proofs.YtjojhlkbcjhonaaDoor.Ih
open Go.RowKit

set_option maxRecDepth 100000 in
theorem names_one (w : World) (eb eo c : Nat) (cn : ByteArray) (hc : w.cell? ⟨eb, eo, none⟩ = some (.string cn)) (hn : namedB cn 64 false = true) (hl : cn.size ≤ 64) (hlt : eb < w.heap.size) :
    Calls Tryd.prog 69 #[.slice (some ⟨eb, eo, none⟩) 1 c] w (fun e w' => e = .returned (.bool true) ∧ Below w.heap.size w w') := by
  go_enter Tryd.func69, Tryd.ntmps69
  go_wp2_with fail
  go_loopg [7] 1 (fun g i wr => (g = 1 ∧ i = .int .i64 0 ∧ wr = w) ∨ (g = 0 ∧ i = .int .i64 1 ∧ Below w.heap.size w wr))
  case atStart => exact .inl ⟨rfl, rfl, rfl⟩
  case round =>
    rcases hrel with ⟨rfl, rfl, rfl⟩ | ⟨rfl, rfl, hb⟩
    · go_wp2_with fail
      refine (name_any wr cn (by omega)).mono ?_
      rintro e w2 ⟨rfl, hb2⟩
      rw [hn]
      have HB2 := Lib.hid hb2
      clear hb2
      go_wp2_with fail
      refine (Tryd.slices_Contains_string_empty (some ⟨eb, eo, none⟩) c cn w2).mono ?_
      rintro e w3 ⟨rfl, rfl⟩
      go_wp2_with fail
      go_roundg 0
      case measure => omega
      case rel => exact .inr ⟨rfl, rfl, HB2.out⟩
    · have HB := Lib.hid hb
      clear hb
      go_wp2_with fail
      go_ret
      exact ⟨rfl, HB.out⟩

/-- The parts of an inhibition of two matchers and a label: where they lie. -/
structure InhP where
  sb : Nat
  so : Nat
  sc : Nat
  tb : Nat
  to_ : Nat
  tc : Nat
  eb : Nat
  eo : Nat
  ec : Nat

abbrev InhP.vs (p : InhP) : Value := .slice (some ⟨p.sb, p.so, none⟩) 1 p.sc
abbrev InhP.vt (p : InhP) : Value := .slice (some ⟨p.tb, p.to_, none⟩) 1 p.tc
abbrev InhP.ve (p : InhP) : Value := .slice (some ⟨p.eb, p.eo, none⟩) 1 p.ec

structure InhAt (w : World) (p : InhP) (s t : Mat) (cn : ByteArray) : Prop where
  sm : MatAt w p.sb p.so [s]
  tm : MatAt w p.tb p.to_ [t]
  eq : w.cell? ⟨p.eb, p.eo, none⟩ = some (.string cn)
  slt : p.sb < w.heap.size
  tlt : p.tb < w.heap.size
  elt : p.eb < w.heap.size

theorem InhAt.below {w w' : World} {p : InhP} {s t : Mat} {cn : ByteArray} (h : InhAt w p s t cn) (hb : Below w.heap.size w w') : InhAt w' p s t cn :=
  ⟨h.sm.below hb h.slt, h.tm.below hb h.tlt, (hb.cell (p := ⟨p.eb, p.eo, none⟩) h.elt).trans h.eq, Nat.lt_of_lt_of_le h.slt hb.size, Nat.lt_of_lt_of_le h.tlt hb.size, Nat.lt_of_lt_of_le h.elt hb.size⟩

structure InhOk (s t : Mat) (cn : ByteArray) : Prop where
  s : s.Ok
  t : t.Ok
  n : namedB cn 64 false = true
  l : cn.size ≤ 64

theorem one_ok {m : Mat} (h : m.Ok) : ∀ x, x ∈ [m] → x.Ok := by
  intro x hx
  rw [List.mem_singleton.1 hx]
  exact h

set_option maxRecDepth 100000 in
set_option maxHeartbeats 2000000 in
theorem iright_one (w : World) (p : InhP) (s t : Mat) (cn : ByteArray) (hT : Lib.Utf8Tabs 0 1 w) (h2 : 2 ≤ w.heap.size) (h : InhAt w p s t cn) (ho : InhOk s t cn) :
    Calls Tryd.prog 60 #[.agg #[p.vs, p.vt, p.ve]] w (fun e w' => e = .returned (.bool true) ∧ Below w.heap.size w w') := by
  have H := Lib.hid h
  have HO := Lib.hid ho
  have HT := Lib.hid hT
  have HW : Hid (∀ W, W = w.alloc (.cells #[p.vs, p.vt, p.ve] 113) → Below w.heap.size w W ∧ W.heap.size = w.heap.size + 1 ∧ W.cell? ⟨w.heap.size, 0, none⟩ = some p.vs ∧ W.cell? ⟨w.heap.size, 1, none⟩ = some p.vt ∧ W.cell? ⟨w.heap.size, 2, none⟩ = some p.ve) := by
    rintro W rfl
    exact ⟨(Below.refl _ _).alloc (Nat.le_refl _) _, by simp, by simp, by simp, by simp⟩
  clear h ho hT
  go_enter Tryd.func60, Tryd.ntmps60
  go_wp2_with fail
  generalize hWe : w.alloc (.cells #[p.vs, p.vt, p.ve] 113) = W at *
  obtain ⟨hbW, hszW, d0, d1, d2⟩ := HW.out W rfl
  have H1 := Lib.hid (H.out.below hbW)
  have HB1 := Lib.hid hbW
  clear HW hWe hbW
  refine (rights_ok W p.sb p.so p.sc [s] (Utf8Tabs_below HT.out HB1.out) (by omega) H1.out.sm H1.out.slt (by simp) (one_ok HO.out.s)).mono ?_
  rintro e w2 ⟨rfl, hb2⟩
  have H2 := Lib.hid (H1.out.below hb2)
  have hz2 := hb2.size
  have e0 := (hb2.cell (p := ⟨w.heap.size, 0, none⟩) (by show w.heap.size < W.heap.size; omega)).trans d0
  have e1 := (hb2.cell (p := ⟨w.heap.size, 1, none⟩) (by show w.heap.size < W.heap.size; omega)).trans d1
  have e2 := (hb2.cell (p := ⟨w.heap.size, 2, none⟩) (by show w.heap.size < W.heap.size; omega)).trans d2
  have HB2 := Lib.hid (HB1.out.trans (hb2.mono (by omega)))
  clear hb2 d0 d1 d2
  go_wp2_with fail
  refine (rights_ok w2 p.tb p.to_ p.tc [t] (Utf8Tabs_below HT.out HB2.out) (by omega) H2.out.tm H2.out.tlt (by simp) (one_ok HO.out.t)).mono ?_
  rintro e w3 ⟨rfl, hb3⟩
  have H3 := Lib.hid (H2.out.below hb3)
  have hz3 := hb3.size
  have f0 := (hb3.cell (p := ⟨w.heap.size, 0, none⟩) (by show w.heap.size < w2.heap.size; omega)).trans e0
  have f1 := (hb3.cell (p := ⟨w.heap.size, 1, none⟩) (by show w.heap.size < w2.heap.size; omega)).trans e1
  have f2 := (hb3.cell (p := ⟨w.heap.size, 2, none⟩) (by show w.heap.size < w2.heap.size; omega)).trans e2
  have HB3 := Lib.hid (HB2.out.trans (hb3.mono (by omega)))
  clear hb3 e0 e1 e2
  go_wp2_with fail
  refine (names_one w3 p.eb p.eo p.ec cn H3.out.eq HO.out.n HO.out.l H3.out.elt).mono ?_
  rintro e w4 ⟨rfl, hb4⟩
  have HB4 := Lib.hid (HB3.out.trans (hb4.mono (by omega)))
  clear hb4 f0 f1 f2
  go_wp2_with fail
  go_ret
  exact ⟨rfl, HB4.out⟩

set_option maxRecDepth 100000 in
set_option maxHeartbeats 2000000 in
theorem irights_one (w : World) (ib io ic : Nat) (p : InhP) (s t : Mat) (cn : ByteArray) (hT : Lib.Utf8Tabs 0 1 w) (h2 : 2 ≤ w.heap.size) (h : InhAt w p s t cn) (ho : InhOk s t cn)
    (c0 : w.cell? ⟨ib, io, none⟩ = some p.vs) (c1 : w.cell? ⟨ib, io + 1, none⟩ = some p.vt) (c2 : w.cell? ⟨ib, io + 2, none⟩ = some p.ve) (hlt : ib < w.heap.size) :
    Calls Tryd.prog 50 #[.slice (some ⟨ib, io, none⟩) 1 ic] w (fun e w' => e = .returned (.tuple #[.int .i64 0, .int .i64 0]) ∧ Below w.heap.size w w') := by
  have H := Lib.hid h
  have HO := Lib.hid ho
  have HT := Lib.hid hT
  have hne : ¬ ib = w.heap.size := by omega
  have HW : Hid (∀ W, W = w.alloc (.cells #[p.vs, p.vt, p.ve] 113) → Below w.heap.size w W ∧ W.heap.size = w.heap.size + 1) := by
    rintro W rfl
    exact ⟨(Below.refl _ _).alloc (Nat.le_refl _) _, by simp⟩
  clear h ho hT
  go_enter Tryd.func50, Tryd.ntmps50
  go_wp2_with fail
  go_loopg [11] 1 (fun g i wr => (g = 1 ∧ i = .int .i64 0 ∧ wr = w) ∨ (g = 0 ∧ i = .int .i64 1 ∧ Below w.heap.size w wr))
  case atStart => exact .inl ⟨rfl, rfl, rfl⟩
  case round =>
    rcases hrel with ⟨rfl, rfl, rfl⟩ | ⟨rfl, rfl, hb⟩
    · go_wp2_with fail
      generalize hWe : wr.alloc (.cells #[p.vs, p.vt, p.ve] 113) = W at *
      obtain ⟨hbW, hszW⟩ := HW.out W rfl
      have HBW := Lib.hid hbW
      clear HW hWe hbW c0 c1 c2
      refine (iright_one W p s t cn (Utf8Tabs_below HT.out HBW.out) (by omega) (H.out.below HBW.out) HO.out).mono ?_
      rintro e w2 ⟨rfl, hb2⟩
      have HB2 := Lib.hid (HBW.out.trans (hb2.mono (by omega)))
      clear hb2
      go_wp2_with fail
      go_roundg 0
      case measure => omega
      case rel => exact .inr ⟨rfl, rfl, HB2.out⟩
    · have HB := Lib.hid hb
      clear hb
      go_wp2_with fail
      go_ret2
      exact ⟨rfl, HB.out⟩

end Go.Proofs.YtjojhlkbcjhonaaDoor.Ih
