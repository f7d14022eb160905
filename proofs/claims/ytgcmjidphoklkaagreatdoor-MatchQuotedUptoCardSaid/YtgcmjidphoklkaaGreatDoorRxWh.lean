/- Walks over layer 5's reader: numbers, braces. -/
import Derived.Test.YtgcmjidphoklkaaGreatDoorRxWf
import Derived.Deep.CutRange
namespace Go.Proofs.YtgcmjidphoklkaaGreatDoor.Rx
open Go.RowKit Go.Sort

theorem bt_lt (s : ByteArray) (i : Nat) : bt s i < 256 := by unfold bt; exact UInt8.toNat_lt _

theorem dig_iff {s : ByteArray} {i : Nat} : dig s i = true ↔ i < s.size ∧ 48 ≤ bt s i ∧ bt s i ≤ 57 := by
  simp [dig, digitP]; omega

theorem digitP_iff {c : Int} : digitP c = true ↔ 48 ≤ c ∧ c ≤ 57 := by simp [digitP]

theorem digit_q (c : Int) (w : World) (n : Nat) (v : Bool) (h : digitP c = v) : Calls Tryz.prog 102 #[.int .i32 c] (w.drewN n) fun e w'' => e = .returned (.bool v) ∧ ∃ m, w'' = w.drewN m :=
  (digit_any c _).mono fun _ _ ⟨he, hw⟩ => ⟨he.trans (by rw [h]), n, hw.symm⟩

set_option maxHeartbeats 1600000 in
theorem number_any (w : World) (b : Nat) (s : ByteArray) (i : Nat) (h : Rd w b s i) (hs : s.size ≤ 256) (hi : i ≤ s.size) :
    Calls Tryz.prog 100 #[.pointer (some ⟨b, 0, none⟩)] w fun e w' => e = .returned (.int .i64 (numberP s i).1) ∧ Moved w w' b (numberP s i).2 := by
  have HH := Lib.hid h
  have HM0 := Lib.hid h.here
  clear h
  have HR : Hid (numF s 2 (-1) i = numberP s i) := by exact rfl
  generalize numberP s i = R at *
  go_enter Tryz.func100, Tryz.ntmps100
  go_wp2_with fail
  go_loopg [3, 4] 2 (fun g n k wr => ∃ (x : Int) (j : Nat), ((g = 2 ∧ k = .int .i64 0) ∨ (g = 1 ∧ k = .int .i64 1) ∨ (g = 0 ∧ k = .int .i64 2)) ∧ n = .int .i64 x ∧ -1 ≤ x ∧ x ≤ 1000 ∧ (g = 2 → x = -1) ∧ (g = 1 → x ≤ 9) ∧ j ≤ s.size ∧ Moved w wr b j ∧ numF s g x j = R)
  case atStart => exact ⟨-1, i, .inl ⟨rfl, rfl⟩, rfl, by omega, by omega, fun _ => rfl, fun _ => by omega, hi, HM0.out, HR.out⟩
  case round =>
    obtain ⟨x, j, hg, rfl, hx1, hx2, hx3, hx4, hj, hm, hR⟩ := hrel
    have HM := Lib.hid hm
    have HRR := Lib.hid hR
    have HX3 := Lib.hid hx3
    have HX4 := Lib.hid hx4
    obtain ⟨g0, g1, gf⟩ := hm.rd HH.out
    clear hm hR hx3 hx4
    by_cases hlt : j < s.size
    · have hd : decide ((j : Int) < (s.size : Int)) = true := by simpa using hlt
      have hbt := bt_eq hlt
      have hb256 := bt_lt s j
      obtain ⟨d, hd8⟩ : ∃ d, (s[j]).toNat = d := ⟨_, rfl⟩
      have hwd : wrap32 (d : Int) = (d : Int) := by unfold wrap32; omega
      generalize hdg : digitP (d : Int) = dg
      have hdig : dig s j = dg := by simp only [dig, hlt, decide_true, Bool.true_and, hbt, hd8]; exact hdg
      have HDG := Lib.hid hdig
      have HBT : Hid (bt s j = d) := hbt.trans hd8
      clear hdig hbt
      have HDP := Lib.hid hdg
      clear hdg
      cases dg
      · rcases hg with ⟨rfl, rfl⟩ | ⟨rfl, rfl⟩ | ⟨rfl, rfl⟩
        all_goals
          have hE : (x, j) = R := by have := HRR.out; simpa [numF, HDG.out] using this
          subst hE
          go_wp2_with fail
          go_quiet ((go_at_call 102; exact digit_q _ _ _ _ HDP.out))
          go_wp2_with fail
          go_ret
          exact ⟨rfl, HM.out.below (below_drewN _ _)⟩
      · have hbd := digitP_iff.1 HDP.out
        rcases hg with ⟨rfl, rfl⟩ | ⟨rfl, rfl⟩ | ⟨rfl, rfl⟩
        · have hmx : max x 0 = 0 := by have := HX3.out rfl; omega
          have HMX := Lib.hid hmx
          clear hmx
          go_wp2_with fail
          go_quiet ((go_at_call 102; exact digit_q _ _ _ _ HDP.out))
          go_wp2_with fail
          go_quiet (fail)
          go_wp2_with fail
          go_roundg 1
          case measure => omega
          case rel =>
            refine ⟨max x 0 * 10 + ((d : Int) - 48), j + 1, .inr (.inl ⟨rfl, rfl⟩), rfl, by omega, by have h1 := HMX.out; omega, fun h => by omega, fun h => by first | omega | (have h1 := HMX.out; omega), by omega, ?_, ?_⟩
            · exact (HM.out.below (below_drewN _ _)).trans (Moved.of_set (j := j + 1) (Below.refl _ _))
            · have := HRR.out; simpa [numF, HDG.out, HBT.out] using this
        · have hx9 := HX4.out rfl
          have hmx : max x 0 = max x 0 := rfl
          have HMX := Lib.hid hmx
          clear hmx
          go_wp2_with fail
          go_quiet ((go_at_call 102; exact digit_q _ _ _ _ HDP.out))
          go_wp2_with fail
          go_quiet (fail)
          go_wp2_with fail
          go_roundg 0
          case measure => omega
          case rel =>
            refine ⟨max x 0 * 10 + ((d : Int) - 48), j + 1, .inr (.inr ⟨rfl, rfl⟩), rfl, by omega, by omega, fun h => by omega, fun h => by first | omega | (have h1 := HMX.out; omega), by omega, ?_, ?_⟩
            · exact (HM.out.below (below_drewN _ _)).trans (Moved.of_set (j := j + 1) (Below.refl _ _))
            · have := HRR.out; simpa [numF, HDG.out, HBT.out] using this
        · have hE : (x, j) = R := by have := HRR.out; simpa [numF, HDG.out] using this
          subst hE
          go_wp2_with fail
          go_quiet (fail)
          go_wp2_with fail
          go_ret
          exact ⟨rfl, HM.out.below (below_drewN _ _)⟩
    · have hd : decide ((j : Int) < (s.size : Int)) = false := by simpa using hlt
      have hdig : dig s j = false := by simp [dig, hlt]
      rcases hg with ⟨rfl, rfl⟩ | ⟨rfl, rfl⟩ | ⟨rfl, rfl⟩
      all_goals
        have hE : (x, j) = R := by have := HRR.out; simpa [numF, hdig] using this
        subst hE
        go_wp2_with fail
        go_quiet (fail)
        go_wp2_with fail
        go_ret
        exact ⟨rfl, HM.out.below (below_drewN _ _)⟩

theorem lt_of_cell {w : World} {a : Addr} {v : Value} (h : w.cell? a = some v) : a.block < w.heap.size := by
  unfold World.cell? at h
  rcases Nat.lt_or_ge a.block w.heap.size with h2 | h2
  · exact h2
  · rw [Array.getElem?_eq_none h2] at h; cases h

set_option maxHeartbeats 800000 in
theorem bad_any (w : World) (b rb fb : Nat) (s : ByteArray) (i j : Nat) (h : Rd w b s j) (hr : w.cell? ⟨rb, 0, none⟩ = some (.pointer (some ⟨b, 0, none⟩))) (hf : w.cell? ⟨fb, 0, none⟩ = some (.int .i64 i))
    (hz : w.frozen? ⟨fb, 0, none⟩ = false) (hne : rb ≠ fb) (hne2 : b ≠ fb) :
    Calls Tryz.prog 99 #[.pointer (some ⟨rb, 0, none⟩), .pointer (some ⟨fb, 0, none⟩)] w fun e w' => e = .panicked (faultV (badP s i j).1 (badP s i j).2) ∧ Below fb w w' := by
  obtain ⟨h0, h1, _⟩ := h
  by_cases hlt : s.size ≤ j
  · have hd : decide ((s.size : Int) ≤ (j : Int)) = true := by simpa using hlt
    have hb : badP s i j = (50, (s.size : Int)) := by simp [badP, hlt]
    rw [hb]
    clear hb
    go_enter Tryz.func99, Tryz.ntmps99
    go_wp2_with fail
    go_quiet (fail)
    go_wp2_with fail
    refine (fail_any _ _ _ _).mono ?_
    rintro e w' ⟨rfl, hw'⟩
    refine ⟨rfl, rfl, ?_⟩
    rw [← hw']
    exact (((below_drewN w _).mono (Nat.le_of_lt (lt_of_cell hf))).setCell (p := ⟨fb, 0, none⟩) (Nat.le_refl _) _)
  · have hd : decide ((s.size : Int) ≤ (j : Int)) = false := by simpa using hlt
    have hb : badP s i j = (50, (i : Int)) := by simp [badP, hlt]
    rw [hb]
    clear hb
    go_enter Tryz.func99, Tryz.ntmps99
    go_wp2_with fail
    go_quiet (fail)
    go_wp2_with fail
    refine (fail_any _ _ _ _).mono ?_
    rintro e w' ⟨rfl, hw'⟩
    refine ⟨rfl, rfl, ?_⟩
    rw [← hw']
    exact (below_drewN w _).mono (Nat.le_of_lt (lt_of_cell hf))

theorem numF_bd (s : ByteArray) : ∀ (f : Nat) (n : Int) (i : Nat), -1 ≤ n → i ≤ s.size → i ≤ (numF s f n i).2 ∧ (numF s f n i).2 ≤ s.size ∧ -1 ≤ (numF s f n i).1
  | 0, n, i, hn, hi => ⟨Nat.le_refl _, hi, hn⟩
  | f + 1, n, i, hn, hi => by
    simp only [numF]
    split
    · rename_i h
      have hd := dig_iff.1 h
      have := numF_bd s f (max n 0 * 10 + ((bt s i : Int) - 48)) (i + 1) (by omega) (by omega)
      omega
    · exact ⟨Nat.le_refl _, hi, hn⟩

theorem dig_iff' {s : ByteArray} {i : Nat} (h : dig s i = true) : 48 ≤ bt s i ∧ bt s i ≤ 57 := (dig_iff.1 h).2

theorem numberP_bd {s : ByteArray} {i : Nat} (hi : i ≤ s.size) : i ≤ (numberP s i).2 ∧ (numberP s i).2 ≤ s.size ∧ -1 ≤ (numberP s i).1 ∧ (numberP s i).1 ≤ 99 := by
  have h := numF_bd s 2 (-1) i (by omega) hi
  refine ⟨h.1, h.2.1, h.2.2, ?_⟩
  unfold numberP
  simp only [numF]
  split
  · rename_i h1
    have h1 := dig_iff' h1
    split
    · rename_i h2
      have h2 := dig_iff' h2
      simp only; omega
    · simp only; omega
  · simp only; omega

/-- What a call that reads braces does. -/
def ReadsBraces (w : World) (b : Nat) : PRes (Int × Int × Nat) → Ending → World → Prop
  | .ok (m, n, j), e, w' => e = .returned (.tuple #[.int .i64 m, .int .i64 n]) ∧ Moved w w' b j
  | .error (en, pl), e, w' => e = .panicked (faultV en pl) ∧ ∃ j, Moved w w' b j

/-- The state inside braces: the reader at j; the variables r and from. -/
structure BSt (w0 : World) (b rb fb : Nat) (i : Nat) (j : Nat) (w : World) : Prop where
  mv : Moved w0 w b j
  rc : w.cell? ⟨rb, 0, none⟩ = some (.pointer (some ⟨b, 0, none⟩))
  fc : w.cell? ⟨fb, 0, none⟩ = some (.int .i64 i)
  fz : w.frozen? ⟨fb, 0, none⟩ = false

theorem BSt.below {w0 w w' : World} {b rb fb i j : Nat} (h : BSt w0 b rb fb i j w) (hb : Below w.heap.size w w') : BSt w0 b rb fb i j w' :=
  ⟨h.mv.below hb, (hb.cell (p := ⟨rb, 0, none⟩) (lt_of_cell h.rc)).trans h.rc, (hb.cell (p := ⟨fb, 0, none⟩) (lt_of_cell h.fc)).trans h.fc, (hb.frozen (p := ⟨fb, 0, none⟩) (lt_of_cell h.fc)).trans h.fz⟩

theorem BSt.moved {w0 w w' : World} {b rb fb i j k : Nat} (h : BSt w0 b rb fb i j w) (h1 : b ≠ rb) (h2 : b ≠ fb) (m : Moved w w' b k) : BSt w0 b rb fb i k w' :=
  ⟨h.mv.trans m, (m.cell_ne (p := ⟨rb, 0, none⟩) (lt_of_cell h.rc) (fun e => h1 e.symm)).trans h.rc, (m.cell_ne (p := ⟨fb, 0, none⟩) (lt_of_cell h.fc) (fun e => h2 e.symm)).trans h.fc, by
    rw [Below.frozen m (p := ⟨fb, 0, none⟩) (lt_of_cell h.fc), World.frozen?_setCell]; exact h.fz⟩

theorem badEnd {w0 w w' : World} {b rb fb i j : Nat} {s : ByteArray} {R : PRes (Int × Int × Nat)} (h : BSt w0 b rb fb i j w) (hw : w0.heap.size ≤ fb) (hb : Below fb w w') (hR : R = .error (badP s i j)) :
    ReadsBraces w0 b R (.panicked (faultV (badP s i j).1 (badP s i j).2)) w' := by
  subst hR
  exact ⟨rfl, j, Below.trans h.mv (hb.mono hw)⟩

set_option maxHeartbeats 3200000 in
theorem braces_any (w : World) (b : Nat) (s : ByteArray) (i : Nat) (h : Rd w b s i) (hs : s.size ≤ 256) (hi : i < s.size) :
    Calls Tryz.prog 91 #[.pointer (some ⟨b, 0, none⟩)] w (ReadsBraces w b (bracesP s i)) := by
  have hbl : b < w.heap.size := h.lt
  have HH := Lib.hid h
  have hmf : ∀ (fn : Fn) (first cap : Array Value) (w : World), (Instr.makeFunc fn first cap).run Tryz.prog w = .ok (.func fn first cap) w := fun _ _ _ _ => rfl
  obtain ⟨h0, h1, hf⟩ := h
  go_enter Tryz.func91, Tryz.ntmps91
  have HB0 : Hid (BSt w b w.heap.size (w.heap.size + 1) i (i + 1) (((w.setCell ⟨b, 1, none⟩ (.int .i64 ((i : Int) + 1))).alloc (.cells #[.pointer (some ⟨b, 0, none⟩)] 128)).alloc (.cells #[.int .i64 i] 3))) := by
    refine ⟨?_, by simp [go_sem, World.setCell], by simp [go_sem, World.setCell], by simp [go_sem, World.setCell]⟩
    exact ((Below.refl _ _).alloc (by simp [World.setCell]) _).alloc (by simp [World.setCell]) _
  go_wp2_with fail
  refine (number_any _ b s (i + 1) (HB0.out.mv.rd HH.out) hs (by omega)).mono ?_
  rintro e w1 ⟨rfl, hm⟩
  have HB1 := Lib.hid (HB0.out.moved (by omega) (by omega) hm)
  have hbd := numberP_bd (s := s) (i := i + 1) (by omega)
  clear hm HB0 h0 h1 hf
  obtain ⟨m, hmm⟩ : ∃ m, (numberP s (i + 1)).1 = m := ⟨_, rfl⟩
  obtain ⟨j1, hjj⟩ : ∃ j1, (numberP s (i + 1)).2 = j1 := ⟨_, rfl⟩
  rw [hmm, hjj] at hbd
  rw [hmm]
  rw [hjj] at HB1
  have HM := Lib.hid hmm
  have HJ := Lib.hid hjj
  clear hmm hjj
  obtain ⟨hj1, hj2, hm1, hm2⟩ := hbd
  obtain ⟨g0, g1, gf⟩ := HB1.out.mv.rd HH.out
  obtain ⟨_, k0, k1, k2⟩ := HB1.out
  by_cases hm0 : m < 0
  · go_wp2_with fail
    refine (bad_any w1 b w.heap.size (w.heap.size + 1) s i j1 (HB1.out.mv.rd HH.out) HB1.out.rc HB1.out.fc HB1.out.fz (by omega) (by omega)).mono ?_
    rintro e w' ⟨rfl, hb⟩
    exact ⟨rfl, badEnd HB1.out (by omega) hb (by unfold bracesP; simp [HM.out, HJ.out, hm0])⟩
  · have HM0 : Hid ((m < 0) = False) := eq_false hm0
    go_wp2_with fail
    refine (here_below w1 b s j1 44 (HB1.out.mv.rd HH.out) (by omega) (by omega) hs).mono ?_
    rintro e w2 ⟨rfl, hb⟩
    have HB2 := Lib.hid (HB1.out.below hb)
    clear hb
    obtain ⟨g0, g1, gf⟩ := HB2.out.mv.rd HH.out
    obtain ⟨_, k0, k1, k2⟩ := HB2.out
    generalize hcm : here s j1 44 = cm
    have HCM := Lib.hid hcm
    clear hcm
    cases cm
    · go_wp2_with fail
      refine (here_below w2 b s j1 125 (HB2.out.mv.rd HH.out) (by omega) (by omega) hs).mono ?_
      rintro e w3 ⟨rfl, hb⟩
      have HB3 := Lib.hid (HB2.out.below hb)
      clear hb
      obtain ⟨g0, g1, gf⟩ := HB3.out.mv.rd HH.out
      obtain ⟨_, k0, k1, k2⟩ := HB3.out
      generalize hcl : here s j1 125 = cl
      have HCL := Lib.hid hcl
      clear hcl
      cases cl
      · go_wp2_with fail
        refine (bad_any w3 b w.heap.size (w.heap.size + 1) s i j1 (HB3.out.mv.rd HH.out) HB3.out.rc HB3.out.fc HB3.out.fz (by omega) (by omega)).mono ?_
        rintro e w' ⟨rfl, hb⟩
        exact ⟨rfl, badEnd HB3.out (by omega) hb (by unfold bracesP; simp [HM.out, HJ.out, HM0.out, HCM.out, HCL.out])⟩
      · have hj3 : j1 < s.size := here_lt HCL.out
        go_wp2_with fail
        go_ret2
        rw [show bracesP s i = .ok (m, m, j1 + 1) from by unfold bracesP; simp [HM.out, HJ.out, HM0.out, HCM.out, HCL.out]]
        exact ⟨rfl, HB3.out.mv.trans (Moved.of_set (j := j1 + 1) (Below.refl _ _))⟩
    · have hj3 : j1 < s.size := here_lt HCM.out
      have HB3 : Hid (BSt w b w.heap.size (w.heap.size + 1) i (j1 + 1) (w2.setCell ⟨b, 1, none⟩ (.int .i64 ((j1 : Int) + 1)))) := HB2.out.moved (by omega) (by omega) (Moved.of_set (j := j1 + 1) (Below.refl _ _))
      go_wp2_with fail
      refine (here_below _ b s (j1 + 1) 125 (HB3.out.mv.rd HH.out) (by omega) (by omega) hs).mono ?_
      rintro e w4 ⟨rfl, hb⟩
      have HB4 := Lib.hid (HB3.out.below hb)
      clear hb
      obtain ⟨g0, g1, gf⟩ := HB4.out.mv.rd HH.out
      obtain ⟨_, k0, k1, k2⟩ := HB4.out
      generalize hcl : here s (j1 + 1) 125 = cl
      have HCL := Lib.hid hcl
      clear hcl
      cases cl
      · go_wp2_with fail
        refine (number_any w4 b s (j1 + 1) (HB4.out.mv.rd HH.out) hs (by omega)).mono ?_
        rintro e w5 ⟨rfl, hm⟩
        have HB5 := Lib.hid (HB4.out.moved (by omega) (by omega) hm)
        have hbd := numberP_bd (s := s) (i := j1 + 1) (by omega)
        clear hm
        obtain ⟨n, hmm⟩ : ∃ n, (numberP s (j1 + 1)).1 = n := ⟨_, rfl⟩
        obtain ⟨j2, hjj⟩ : ∃ j2, (numberP s (j1 + 1)).2 = j2 := ⟨_, rfl⟩
        rw [hmm, hjj] at hbd
        rw [hmm]
        rw [hjj] at HB5
        have HM2 := Lib.hid hmm
        have HJ2 := Lib.hid hjj
        clear hmm hjj
        obtain ⟨hj4, hj5, hn1, hn2⟩ := hbd
        obtain ⟨g0, g1, gf⟩ := HB5.out.mv.rd HH.out
        obtain ⟨_, k0, k1, k2⟩ := HB5.out
        by_cases hn0 : n < m
        · go_wp2_with fail
          refine (bad_any w5 b w.heap.size (w.heap.size + 1) s i j2 (HB5.out.mv.rd HH.out) HB5.out.rc HB5.out.fc HB5.out.fz (by omega) (by omega)).mono ?_
          rintro e w' ⟨rfl, hb⟩
          exact ⟨rfl, badEnd HB5.out (by omega) hb (by unfold bracesP; simp [HM.out, HJ.out, HM0.out, HCM.out, HCL.out, HM2.out, HJ2.out, hn0])⟩
        · have HN0 : Hid ((n < m) = False) := eq_false hn0
          go_wp2_with fail
          refine (here_below w5 b s j2 125 (HB5.out.mv.rd HH.out) (by omega) (by omega) hs).mono ?_
          rintro e w6 ⟨rfl, hb⟩
          have HB6 := Lib.hid (HB5.out.below hb)
          clear hb
          obtain ⟨g0, g1, gf⟩ := HB6.out.mv.rd HH.out
          obtain ⟨_, k0, k1, k2⟩ := HB6.out
          generalize hcl2 : here s j2 125 = cl2
          have HCL2 := Lib.hid hcl2
          clear hcl2
          cases cl2
          · go_wp2_with fail
            refine (bad_any w6 b w.heap.size (w.heap.size + 1) s i j2 (HB6.out.mv.rd HH.out) HB6.out.rc HB6.out.fc HB6.out.fz (by omega) (by omega)).mono ?_
            rintro e w' ⟨rfl, hb⟩
            exact ⟨rfl, badEnd HB6.out (by omega) hb (by unfold bracesP; simp [HM.out, HJ.out, HM0.out, HCM.out, HCL.out, HM2.out, HJ2.out, HN0.out, HCL2.out])⟩
          · have hj6 : j2 < s.size := here_lt HCL2.out
            go_wp2_with fail
            go_ret2
            rw [show bracesP s i = .ok (m, n, j2 + 1) from by unfold bracesP; simp [HM.out, HJ.out, HM0.out, HCM.out, HCL.out, HM2.out, HJ2.out, HN0.out, HCL2.out]]
            exact ⟨rfl, HB6.out.mv.trans (Moved.of_set (j := j2 + 1) (Below.refl _ _))⟩
      · have hj4 : j1 + 1 < s.size := here_lt HCL.out
        go_wp2_with fail
        refine (here_below w4 b s (j1 + 1) 125 (HB4.out.mv.rd HH.out) (by omega) (by omega) hs).mono ?_
        rintro e w5 ⟨rfl, hb⟩
        have HB5 := Lib.hid (HB4.out.below hb)
        clear hb
        obtain ⟨g0, g1, gf⟩ := HB5.out.mv.rd HH.out
        obtain ⟨_, k0, k1, k2⟩ := HB5.out
        rw [HCL.out]
        go_wp2_with fail
        go_ret2
        rw [show bracesP s i = .ok (m, -1, (j1 + 1) + 1) from by unfold bracesP; simp [HM.out, HJ.out, HM0.out, HCM.out, HCL.out]]
        exact ⟨rfl, HB5.out.mv.trans (Moved.of_set (j := (j1 + 1) + 1) (Below.refl _ _))⟩

end Go.Proofs.YtgcmjidphoklkaaGreatDoor.Rx
