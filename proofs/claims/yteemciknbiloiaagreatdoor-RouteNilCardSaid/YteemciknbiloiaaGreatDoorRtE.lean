/- Walks over layer 24: span, by, can. -/
import Derived.Test.YteemciknbiloiaaGreatDoorRtD
import Derived.Test.YteemciknbiloiaaGreatDoorEqL
namespace Go.Proofs.YteemciknbiloiaaGreatDoor.Ih
open Go.RowKit

attribute [local go_sem] run_store_one

/-- A route's value: parent, receiver, matchers, names, all, wait, interval, repeat, continue. -/
abbrev rtV (p : Int) (rc : ByteArray) (mv bv : Value) (al : Bool) (wt iv rp : Int) (ct : Bool) : Value :=
  .agg #[.int .i64 p, .string rc, mv, bv, .bool al, .int .i64 wt, .int .i64 iv, .int .i64 rp, .bool ct]

theorem span_ok (w : World) (n m : Int) (h1 : m ≤ n) (h2 : n ≤ 1099511627776) :
    Calls Tryz.prog 73 #[.int .i64 n, .int .i64 m] w (fun e w' => e = .returned (.bool true) ∧ w' = w) := by
  have d1 : decide (m ≤ n) = true := by simpa using h1
  have d2 : decide (n ≤ 1099511627776) = true := by simpa using h2
  go_enter Tryz.func73, Tryz.ntmps73
  go_wp2_with fail
  go_ret
  exact ⟨rfl, rfl⟩

set_option maxRecDepth 100000 in
set_option maxHeartbeats 1000000 in
theorem by_nil (w : World) (p : Int) (rc : ByteArray) (mv : Value) (wt iv rp : Int) (ct : Bool) :
    Calls Tryz.prog 72 #[rtV p rc mv (.slice none 0 0) false wt iv rp ct] w (fun e w' => e = .returned (.bool true) ∧ Below w.heap.size w w') := by
  have HB : Hid (Below w.heap.size w (w.alloc (.cells #[.int .i64 p, .string rc, mv, .slice none 0 0, .bool false, .int .i64 wt, .int .i64 iv, .int .i64 rp, .bool ct] 33))) := (Below.refl _ _).alloc (Nat.le_refl _) _
  go_enter Tryz.func72, Tryz.ntmps72
  go_wp2_with fail
  refine wp_loop_rounds 1 ?_
  rw [rounds_succ]
  go_wp2_with fail
  go_ret
  exact ⟨rfl, HB.out⟩

set_option maxRecDepth 100000 in
set_option maxHeartbeats 1000000 in
theorem by_one (w : World) (p : Int) (rc : ByteArray) (mv : Value) (g c : Nat) (nm : ByteArray) (wt iv rp : Int) (ct : Bool) (hn : w.cell? ⟨g, 0, none⟩ = some (.string nm)) (hg : g < w.heap.size) (hc : 1 ≤ c) (hs : nm.size ≤ 64) (hok : namedB nm 64 false = true) :
    Calls Tryz.prog 72 #[rtV p rc mv (.slice (some ⟨g, 0, none⟩) 1 c) false wt iv rp ct] w (fun e w' => e = .returned (.bool true) ∧ Below w.heap.size w w') := by
  have hW : Hid (∀ W, W = w.alloc (.cells #[.int .i64 p, .string rc, mv, .slice (some ⟨g, 0, none⟩) 1 c, .bool false, .int .i64 wt, .int .i64 iv, .int .i64 rp, .bool ct] 33) → Below w.heap.size w W ∧ W.heap.size = w.heap.size + 1 ∧ W.cell? ⟨w.heap.size, 3, none⟩ = some (.slice (some ⟨g, 0, none⟩) 1 c) ∧ W.cell? ⟨w.heap.size, 4, none⟩ = some (.bool false)) := by
    rintro W rfl
    exact ⟨(Below.refl _ _).alloc (Nat.le_refl _) _, by simp, by simp, by simp⟩
  go_enter Tryz.func72, Tryz.ntmps72
  go_wp2_with fail
  generalize hWe : w.alloc (.cells #[.int .i64 p, .string rc, mv, .slice (some ⟨g, 0, none⟩) 1 c, .bool false, .int .i64 wt, .int .i64 iv, .int .i64 rp, .bool ct] 33) = W at *
  obtain ⟨hbW, hszW, d3, d4⟩ := hW.out W rfl
  have HBW := Lib.hid hbW
  have e0 := (hbW.cell (p := ⟨g, 0, none⟩) hg).trans hn
  clear hW hWe hbW hn
  refine wp_loop_rounds 2 ?_
  rw [rounds_succ]
  go_wp2_with fail
  refine (name_any W nm (by omega)).mono ?_
  rw [hok]
  rintro e w1 ⟨rfl, hb⟩
  have HB1 := Lib.hid (HBW.out.trans (hb.mono (by omega)))
  have x3 := (hb.cell (p := ⟨w.heap.size, 3, none⟩) (by show w.heap.size < W.heap.size; omega)).trans d3
  clear hb d3 d4 e0 HBW
  go_wp2_with fail
  refine (Tryz.slices_Contains_string_empty _ c nm w1).mono ?_
  rintro e w2 ⟨rfl, rfl⟩
  go_wp2_with fail
  rw [rounds_succ]
  go_wp2_with fail
  go_ret
  exact ⟨rfl, HB1.out⟩

set_option maxRecDepth 100000 in
set_option maxHeartbeats 2000000 in
theorem can_first (w : World) (rc : ByteArray) (bv : Value) (wt iv rp : Int)
    (HR : ∀ X, Below w.heap.size w X → Calls Tryz.prog 59 #[.slice none 0 0] X (fun e w' => e = .returned (.tuple #[.int .i64 0, .int .i64 0]) ∧ Below X.heap.size X w'))
    (HY : ∀ X, Below w.heap.size w X → Calls Tryz.prog 72 #[rtV (-1) rc (.slice none 0 0) bv false wt iv rp false] X (fun e w' => e = .returned (.bool true) ∧ Below X.heap.size X w'))
    (h1 : 0 ≤ wt) (h2 : wt ≤ 1099511627776) (h3 : 1 ≤ iv) (h4 : iv ≤ 1099511627776) (h5 : 1 ≤ rp) (h6 : rp ≤ 1099511627776) (h7 : 1 ≤ rc.size) (h8 : rc.size ≤ 64) :
    Calls Tryz.prog 58 #[rtV (-1) rc (.slice none 0 0) bv false wt iv rp false, .int .i64 0] w (fun e w' => e = .returned (.bool true) ∧ Below w.heap.size w w') := by
  have hW : Hid (∀ W, W = w.alloc (.cells #[.int .i64 (-1), .string rc, .slice none 0 0, bv, .bool false, .int .i64 wt, .int .i64 iv, .int .i64 rp, .bool false] 33) → Below w.heap.size w W ∧ W.heap.size = w.heap.size + 1 ∧ ∀ X, Below W.heap.size W X → (X.cell? ⟨w.heap.size, 0, none⟩ = some (.int .i64 (-1)) ∧ X.cell? ⟨w.heap.size, 1, none⟩ = some (.string rc) ∧ X.cell? ⟨w.heap.size, 2, none⟩ = some (.slice none 0 0) ∧ X.cell? ⟨w.heap.size, 3, none⟩ = some bv ∧ X.cell? ⟨w.heap.size, 4, none⟩ = some (.bool false) ∧ X.cell? ⟨w.heap.size, 5, none⟩ = some (.int .i64 wt) ∧ X.cell? ⟨w.heap.size, 6, none⟩ = some (.int .i64 iv) ∧ X.cell? ⟨w.heap.size, 7, none⟩ = some (.int .i64 rp) ∧ X.cell? ⟨w.heap.size, 8, none⟩ = some (.bool false))) := by
    rintro W rfl
    refine ⟨(Below.refl _ _).alloc (Nat.le_refl _) _, by simp, fun X hX => ?_⟩
    have e : ∀ k, X.cell? ⟨w.heap.size, k, none⟩ = _ := fun k => hX.cell (p := ⟨w.heap.size, k, none⟩) (by simp)
    simp only [e]
    simp
  have HR' := Lib.hid HR
  have HY' := Lib.hid HY
  have s1 := Lib.hid (fun X => span_ok X wt 0 h1 h2)
  have s2 := Lib.hid (fun X => span_ok X iv 1 h3 h4)
  have s3 := Lib.hid (fun X => span_ok X rp 1 h5 h6)
  have d7 : decide (1 ≤ (rc.size : Int)) = true := by simp; omega
  have d8 : decide ((rc.size : Int) ≤ 64) = true := by simp; omega
  clear HR HY h1 h2 h3 h4 h5 h6
  go_enter Tryz.func58, Tryz.ntmps58
  go_wp2_with fail
  generalize hWe : w.alloc (.cells #[.int .i64 (-1), .string rc, .slice none 0 0, bv, .bool false, .int .i64 wt, .int .i64 iv, .int .i64 rp, .bool false] 33) = W at *
  obtain ⟨hbW, hszW, hX⟩ := hW.out W rfl
  have HBW := Lib.hid hbW
  have HX := Lib.hid hX
  clear hW hWe hbW hX
  refine (HR'.out W HBW.out).mono ?_
  rintro e w1 ⟨rfl, hb⟩
  obtain ⟨x0, x1, x2, x3, x4, x5, x6, x7, x8⟩ := HX.out w1 hb
  have HB1 := Lib.hid (HBW.out.trans (hb.mono (by omega)))
  have HBX := Lib.hid hb
  clear hb
  clear HR'
  go_wp2_with fail
  refine (HY'.out w1 HB1.out).mono ?_
  rintro e w2 ⟨rfl, hb⟩
  have hz1 := HBX.out.size
  have hbx := HBX.out.trans (hb.mono hz1)
  clear x0 x1 x2 x3 x4 x5 x6 x7 x8
  obtain ⟨_, x1, _, _, _, x5, x6, x7, _⟩ := HX.out w2 hbx
  have HB2 := Lib.hid (HBW.out.trans (hbx.mono (by omega)))
  clear hb hbx HY' HB1 HBX HX HBW
  go_wp2_with fail
  refine (s1.out w2).mono ?_
  rintro e w3 ⟨rfl, rfl⟩
  go_wp2_with fail
  refine (s2.out w3).mono ?_
  rintro e w4 ⟨rfl, rfl⟩
  go_wp2_with fail
  refine (s3.out w4).mono ?_
  rintro e w5 ⟨rfl, rfl⟩
  go_wp2_with fail
  go_ret
  exact ⟨rfl, HB2.out⟩

set_option maxRecDepth 100000 in
set_option maxHeartbeats 2000000 in
theorem can_later (w : World) (p : Int) (i : Nat) (rc : ByteArray) (mv bv : Value) (ct : Bool) (wt iv rp : Int) (hi : 0 < i) (hi2 : i ≤ 64) (hp0 : 0 ≤ p) (hpi : p < i)
    (HR : ∀ X, Below w.heap.size w X → Calls Tryz.prog 59 #[mv] X (fun e w' => e = .returned (.tuple #[.int .i64 0, .int .i64 0]) ∧ Below X.heap.size X w'))
    (HY : ∀ X, Below w.heap.size w X → Calls Tryz.prog 72 #[rtV p rc mv bv false wt iv rp ct] X (fun e w' => e = .returned (.bool true) ∧ Below X.heap.size X w'))
    (h1 : 0 ≤ wt) (h2 : wt ≤ 1099511627776) (h3 : 1 ≤ iv) (h4 : iv ≤ 1099511627776) (h5 : 1 ≤ rp) (h6 : rp ≤ 1099511627776) (h7 : 1 ≤ rc.size) (h8 : rc.size ≤ 64) :
    Calls Tryz.prog 58 #[rtV p rc mv bv false wt iv rp ct, .int .i64 i] w (fun e w' => e = .returned (.bool true) ∧ Below w.heap.size w w') := by
  have hW : Hid (∀ W, W = w.alloc (.cells #[.int .i64 p, .string rc, mv, bv, .bool false, .int .i64 wt, .int .i64 iv, .int .i64 rp, .bool ct] 33) → Below w.heap.size w W ∧ W.heap.size = w.heap.size + 1 ∧ ∀ X, Below W.heap.size W X → (X.cell? ⟨w.heap.size, 0, none⟩ = some (.int .i64 p) ∧ X.cell? ⟨w.heap.size, 1, none⟩ = some (.string rc) ∧ X.cell? ⟨w.heap.size, 2, none⟩ = some mv ∧ X.cell? ⟨w.heap.size, 3, none⟩ = some bv ∧ X.cell? ⟨w.heap.size, 4, none⟩ = some (.bool false) ∧ X.cell? ⟨w.heap.size, 5, none⟩ = some (.int .i64 wt) ∧ X.cell? ⟨w.heap.size, 6, none⟩ = some (.int .i64 iv) ∧ X.cell? ⟨w.heap.size, 7, none⟩ = some (.int .i64 rp) ∧ X.cell? ⟨w.heap.size, 8, none⟩ = some (.bool ct))) := by
    rintro W rfl
    refine ⟨(Below.refl _ _).alloc (Nat.le_refl _) _, by simp, fun X hX => ?_⟩
    have e : ∀ k, X.cell? ⟨w.heap.size, k, none⟩ = _ := fun k => hX.cell (p := ⟨w.heap.size, k, none⟩) (by simp)
    simp only [e]
    simp
  have HR' := Lib.hid HR
  have HY' := Lib.hid HY
  have s1 := Lib.hid (fun X => span_ok X wt 0 h1 h2)
  have s2 := Lib.hid (fun X => span_ok X iv 1 h3 h4)
  have s3 := Lib.hid (fun X => span_ok X rp 1 h5 h6)
  have d7 : decide (1 ≤ (rc.size : Int)) = true := by simp; omega
  have d8 : decide ((rc.size : Int) ≤ 64) = true := by simp; omega
  have e1 : decide (p < 0) = false := by simp; omega
  have e2 : decide ((i : Int) ≤ p) = false := by simp; omega
  have e3 : ((i : Int) == 0) = false := by simp; omega
  have e4 : decide (0 < (i : Int)) = true := by simp; omega
  clear HR HY h1 h2 h3 h4 h5 h6
  go_enter Tryz.func58, Tryz.ntmps58
  go_wp2_with fail
  generalize hWe : w.alloc (.cells #[.int .i64 p, .string rc, mv, bv, .bool false, .int .i64 wt, .int .i64 iv, .int .i64 rp, .bool ct] 33) = W at *
  obtain ⟨hbW, hszW, hX⟩ := hW.out W rfl
  have HBW := Lib.hid hbW
  have HX := Lib.hid hX
  clear hW hWe hbW hX
  refine (HR'.out W HBW.out).mono ?_
  rintro e w1 ⟨rfl, hb⟩
  obtain ⟨x0, x1, x2, x3, x4, x5, x6, x7, x8⟩ := HX.out w1 hb
  have HB1 := Lib.hid (HBW.out.trans (hb.mono (by omega)))
  have HBX := Lib.hid hb
  clear hb
  clear HR'
  go_wp2_with fail
  refine (HY'.out w1 HB1.out).mono ?_
  rintro e w2 ⟨rfl, hb⟩
  have hz1 := HBX.out.size
  have hbx := HBX.out.trans (hb.mono hz1)
  clear x0 x1 x2 x3 x4 x5 x6 x7 x8
  obtain ⟨_, x1, _, _, _, x5, x6, x7, _⟩ := HX.out w2 hbx
  have HB2 := Lib.hid (HBW.out.trans (hbx.mono (by omega)))
  clear hb hbx HY' HB1 HBX HX HBW
  go_wp2_with fail
  refine (s1.out w2).mono ?_
  rintro e w3 ⟨rfl, rfl⟩
  go_wp2_with fail
  refine (s2.out w3).mono ?_
  rintro e w4 ⟨rfl, rfl⟩
  go_wp2_with fail
  refine (s3.out w4).mono ?_
  rintro e w5 ⟨rfl, rfl⟩
  go_wp2_with fail
  go_ret
  exact ⟨rfl, HB2.out⟩

end Go.Proofs.YteemciknbiloiaaGreatDoor.Ih
