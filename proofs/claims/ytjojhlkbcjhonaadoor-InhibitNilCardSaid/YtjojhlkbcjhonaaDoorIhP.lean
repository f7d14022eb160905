/- Layer 23's law InhibitNil: what is known of fixed calls; of what there is not. -/
import Derived.Test.YtjojhlkbcjhonaaDoorIhO
namespace Go.Proofs.YtjojhlkbcjhonaaDoor.Ih
open Go.RowKit

set_option maxRecDepth 100000 in
set_option maxHeartbeats 8000000 in
theorem known_any (w : World) (hT : Lib.Utf8Tabs 0 1 w) (h2 : 2 ≤ w.heap.size) :
    Calls Tryd.prog 24 #[] w (fun e w' => e = .returned (.bool true) ∧ Below w.heap.size w w') := by
  have HT := Lib.hid hT
  clear hT
  go_enter Tryd.func24, Tryd.ntmps24
  go_wp2_with fail
  refine (some_any w).mono ?_
  rintro e w1 ⟨ib, ic, p, rfl, hb1, hi, c0, c1, c2, hlt⟩
  have HB1 := Lib.hid hb1
  have hz1 := hb1.size
  have HI := Lib.hid hi
  have HC := Lib.hid (And.intro c0 (And.intro c1 c2))
  clear hb1 hi c0 c1 c2
  go_wp2_with fail
  refine (new_one w1 ib 0 ic p matS matT bC (Utf8Tabs_below HT.out HB1.out) (by omega) HI.out inh_ok HC.out.1 HC.out.2.1 HC.out.2.2 hlt).mono ?_
  rintro e w2 ⟨rb, lb, xs, gs, ms, xt, gt, mt, eb, ec, rfl, hb2, hR, hms, hmt⟩
  have HB2 := Lib.hid (HB1.out.trans (hb2.mono hz1))
  have hz2 := hb2.size
  have HR := Lib.hid hR
  clear hb2 hR HI HC
  generalize hBe : w2.heap.size = B at *
  go_wp2_with fail
  refine (set_any w2 bA bWarn).mono ?_
  rintro e w3 ⟨p1, rfl, hb3, hp1, ha1, hg1, hl1⟩
  have HR3 := Lib.hid (HR.out.below hb3)
  have HA1 : Hid (p1.At w3 B) := ⟨ha1, hl1, by omega, by rw [hp1]; exact lab_ok v_a v_warn⟩
  have HB3 := Lib.hid (HB2.out.trans (hb3.mono (by omega)))
  have hz3 := hb3.size
  clear hb3 ha1
  go_wp2_with fail
  refine (set_any w3 bB bCrit).mono ?_
  rintro e w4 ⟨p2, rfl, hb4, hp2, ha2, hg2, hl2⟩
  have HR4 := Lib.hid (HR3.out.below hb4)
  have HA1 := Lib.hid (HA1.out.below hb4)
  have HA2 : Hid (p2.At w4 B) := ⟨ha2, hl2, by omega, by rw [hp2]; exact lab_ok v_b v_crit⟩
  have HB4 := Lib.hid (HB3.out.trans (hb4.mono (by omega)))
  have hz4 := hb4.size
  clear hb4 ha2
  go_wp2_with fail
  refine (set_any w4 bA bCrit).mono ?_
  rintro e w5 ⟨p3, rfl, hb5, hp3, ha3, hg3, hl3⟩
  have HR5 := Lib.hid (HR4.out.below hb5)
  have HA1 := Lib.hid (HA1.out.below hb5)
  have HA2 := Lib.hid (HA2.out.below hb5)
  have HA3 : Hid (p3.At w5 B) := ⟨ha3, hl3, by omega, by rw [hp3]; exact lab_ok v_a v_crit⟩
  have HB5 := Lib.hid (HB4.out.trans (hb5.mono (by omega)))
  have hz5 := hb5.size
  clear hb5 ha3
  have HW : Hid (∀ W, W = w5.alloc (.cells #[p2.v, p3.v] 42) → Below w5.heap.size w5 W ∧ W.heap.size = w5.heap.size + 1 ∧ ∀ k p, [p2, p3][k]? = some p → W.cell? ⟨w5.heap.size, 0 + k, none⟩ = some p.v) := by
    rintro W rfl
    refine ⟨(Below.refl _ _).alloc (Nat.le_refl _) _, by simp, fun k p hp => ?_⟩
    match k with
    | 0 => simp at hp; subst hp; simp
    | 1 => simp at hp; subst hp; simp
    | (n + 2) => simp at hp
  go_wp2_with fail
  generalize hWe : w5.alloc (.cells #[p2.v, p3.v] 42) = W at *
  obtain ⟨hbW, hszW, hcells⟩ := HW.out W rfl
  have HRW := Lib.hid (HR5.out.below hbW)
  have HA1 := Lib.hid (HA1.out.below hbW)
  have HA2 := Lib.hid (HA2.out.below hbW)
  have HA3 := Lib.hid (HA3.out.below hbW)
  have HBW := Lib.hid (HB5.out.trans (hbW.mono (by omega)))
  have HCL := Lib.hid hcells
  clear HW hWe hbW hcells
  refine (by_any W rb lb xs gs ms xt gt mt eb ec B matS matT bC p1 w5.heap.size 0 2 [p2, p3] (Utf8Tabs_below HT.out HBW.out) HRW.out inh_ok (by omega) (by omega) HA1.out ?_ HCL.out (by omega) (by omega) (by simp) (by simp)).mono ?_
  · intro p hp
    simp only [List.mem_cons, List.not_mem_nil, or_false] at hp
    rcases hp with rfl | rfl
    · exact HA2.out
    · exact HA3.out
  have hby1 : byFrom (fun p => holdsB matS matT bC p.l p1.l) [p2, p3] 0 = (0, 1) := by
    simp only [byFrom, hp1, hp2, hp3, holds_1, holds_2]
    rfl
  rw [hby1]
  rintro e w6 ⟨rfl, hb6, hR6⟩
  have HB6 := Lib.hid (HBW.out.trans (hb6.below (B := w.heap.size) (by omega) (by omega) (by omega)))
  have HR6 := Lib.hid hR6
  have hz6 := hb6.size
  clear hb6 hR6 hby1
  go_wp2_with fail
  refine (set_any w6 bA bWarn).mono ?_
  rintro e w7 ⟨p4, rfl, hb7, hp4, ha4, hg4, hl4⟩
  have HR7 := Lib.hid (HR6.out.below hb7)
  have HA4 : Hid (p4.At w7 B) := ⟨ha4, hl4, by omega, by rw [hp4]; exact lab_ok v_a v_warn⟩
  have HB7 := Lib.hid (HB6.out.trans (hb7.mono (by omega)))
  have hz7 := hb7.size
  clear hb7 ha4
  go_wp2_with fail
  refine (set_any w7 bB bCrit).mono ?_
  rintro e w8 ⟨p5, rfl, hb8, hp5, ha5, hg5, hl5⟩
  have HR8 := Lib.hid (HR7.out.below hb8)
  have HA4 := Lib.hid (HA4.out.below hb8)
  have HA5 : Hid (p5.At w8 B) := ⟨ha5, hl5, by omega, by rw [hp5]; exact lab_ok v_b v_crit⟩
  have HB8 := Lib.hid (HB7.out.trans (hb8.mono (by omega)))
  have hz8 := hb8.size
  clear hb8 ha5
  have HW : Hid (∀ W, W = w8.alloc (.cells #[p5.v] 42) → Below w8.heap.size w8 W ∧ W.heap.size = w8.heap.size + 1 ∧ ∀ k p, [p5][k]? = some p → W.cell? ⟨w8.heap.size, 0 + k, none⟩ = some p.v) := by
    rintro W rfl
    refine ⟨(Below.refl _ _).alloc (Nat.le_refl _) _, by simp, fun k p hp => ?_⟩
    match k with
    | 0 => simp at hp; subst hp; simp
    | (n + 1) => simp at hp
  go_wp2_with fail
  generalize hWe : w8.alloc (.cells #[p5.v] 42) = W2 at *
  obtain ⟨hbW2, hszW2, hcells⟩ := HW.out W2 rfl
  have HRW2 := Lib.hid (HR8.out.below hbW2)
  have HA4 := Lib.hid (HA4.out.below hbW2)
  have HA5 := Lib.hid (HA5.out.below hbW2)
  have HBW2 := Lib.hid (HB8.out.trans (hbW2.mono (by omega)))
  have HCL2 := Lib.hid hcells
  clear HW hWe hbW2 hcells
  refine (by_any W2 rb lb xs gs ms xt gt mt eb ec B matS matT bC p4 w8.heap.size 0 1 [p5] (Utf8Tabs_below HT.out HBW2.out) HRW2.out inh_ok (by omega) (by omega) HA4.out ?_ HCL2.out (by omega) (by omega) (by simp) (by simp)).mono ?_
  · intro p hp
    rw [List.mem_singleton.1 hp]
    exact HA5.out
  have hby2 : byFrom (fun p => holdsB matS matT bC p.l p4.l) [p5] 0 = (-1, -1) := by
    simp only [byFrom, hp4, hp5, holds_1]
    rfl
  rw [hby2]
  rintro e w9 ⟨rfl, hb9, hR9⟩
  have HB9 := Lib.hid (HBW2.out.trans (hb9.below (B := w.heap.size) (by omega) (by omega) (by omega)))
  clear hb9 hR9 hby2
  go_wp2_with fail
  go_ret
  exact ⟨rfl, HB9.out⟩

theorem by_nil (w : World) (t l : Value) :
    Calls Tryd.prog 22 #[.pointer none, t, l] w (fun e w' => e = .returned (.tuple #[.int .i64 0, .int .i64 0, .int .i64 2]) ∧ w' = w) := by
  go_enter Tryd.func22, Tryd.ntmps22
  go_wp2_with fail
  go_step3
  go_wp2_with fail
  rw [Exit.noGoto_ret]
  go_ret3
  exact ⟨rfl, rfl⟩

theorem muted_nil (w : World) (l : Value) :
    Calls Tryd.prog 23 #[.pointer none, l] w (fun e w' => e = .returned (.tuple #[.slice none 0 0, .int .i64 2]) ∧ w' = w) := by
  go_enter Tryd.func23, Tryd.ntmps23
  go_wp2_with fail
  go_ret2
  exact ⟨rfl, rfl⟩

theorem law_inhibitNil (w : World) (t l : Value) (hT : Lib.Utf8Tabs 0 1 w) (h2 : 2 ≤ w.heap.size) :
    Calls Tryd.prog 9 #[t, l] w (fun e w' => e = .returned (.bool true) ∧ Below w.heap.size w w') := by
  have HT := Lib.hid hT
  clear hT
  go_enter Tryd.func9, Tryd.ntmps9
  go_wp2_with fail
  refine (by_nil w t l).mono ?_
  rintro e w1 ⟨rfl, rfl⟩
  go_wp2_with fail
  refine (muted_nil w1 l).mono ?_
  rintro e w2 ⟨rfl, rfl⟩
  go_wp2_with fail
  refine (known_any w2 HT.out h2).mono ?_
  rintro e w3 ⟨rfl, hb⟩
  have HB := Lib.hid hb
  clear hb
  go_wp2_with fail
  go_ret
  exact ⟨rfl, HB.out⟩

end Go.Proofs.YtjojhlkbcjhonaaDoor.Ih
