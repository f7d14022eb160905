/- Walks over layer 5's reader: a class. -/
import Derived.Test.YtgcmjidphoklkaaGreatDoorRxWf
import Derived.Deep.DeepCutAuto
import Derived.Deep.CutRange
import Derived.Deep.DeepMust
import Derived.Deep.CutBlock
import Derived.Maps.AppendAt
namespace Go.Proofs.YtgcmjidphoklkaaGreatDoor.Rx
open Go.RowKit Go.Sort

/-- What a class's rounds are walked under: the state, and what is still to be read. -/
def CRel (w0 : World) (b : Nat) (s : ByteArray) (r lb : Nat) (neg : Bool) (R : PRes (One × Nat)) (f : Nat) (w : World) : Prop :=
  ∃ i v xs fs C, CSt w0 b s r lb i v xs fs C w ∧ s.size < f + i ∧ classP s neg f fs i = R

abbrev lvar : Obj := .cells #[.slice none 0 0] 162

theorem infoFn : (Tryz.prog.info? 40).map (fun i => (i.zero, i.size, i.bytes)) = some (some .nilFunc, 1, 8) := by kernel_rfl

/-- The variable of a member. -/
abbrev avar (g : FuncId) (cap : Array Value) (ap : Bool) (ar : Int) : Obj := .cells #[.int .i64 0, .func (.func g) #[] cap, .bool ap, .int .i32 ar, .slice none 0 0, .int .i64 0, .int .i64 0, .bool false, .int .i64 0] 92

/-- Is the member the begin of a range? -/
def rangeB (s : ByteArray) (j : Nat) (ap : Bool) : Bool := ap && here s j 45 && decide (j + 1 < s.size) && !(bt s (j + 1) == 93)

theorem headNone_lt {s : ByteArray} {neg : Bool} {fs : List (Int → Bool)} {k : Nat} (h : classHead s neg fs k = none) : k < s.size := by
  rcases Nat.lt_or_ge k s.size with h1 | h1
  · exact h1
  · unfold classHead at h
    rw [peekC_none h1] at h
    simp at h

theorem itemFault {w wc : World} {b : Nat} {s : ByteArray} {neg : Bool} {f k : Nat} {fs : List (Int → Bool)} {R : PRes (One × Nat)} {en pl : Int} (hR : classP s neg f fs k = R) (hh : classHead s neg fs k = none)
    (hi : classItem s k = .error (en, pl)) (hm : ∃ j, Moved w wc b j) (h0 : 0 < f) : ReadsOne w b R (.panicked (faultV en pl)) wc := by
  obtain ⟨f, rfl⟩ : ∃ f', f = f' + 1 := ⟨f - 1, by omega⟩
  subst hR
  simp only [classP, hh, hi]
  exact ⟨rfl, hm⟩

theorem itemNext {s : ByteArray} {neg : Bool} {f k j : Nat} {fs : List (Int → Bool)} {R : PRes (One × Nat)} {q : Int → Bool} (hR : classP s neg f fs k = R) (hh : classHead s neg fs k = none)
    (hi : classItem s k = .ok (q, j)) (h0 : 0 < f) : classP s neg (f - 1) (fs ++ [q]) j = R := by
  obtain ⟨f, rfl⟩ : ∃ f', f = f' + 1 := ⟨f - 1, by omega⟩
  subst hR
  simp only [classP, hh, hi, Nat.add_sub_cancel]

theorem rangeB_iff {s : ByteArray} {j : Nat} {ap : Bool} : rangeB s j ap = true ↔ (ap = true ∧ here s j 45 = true ∧ j + 1 < s.size ∧ bt s (j + 1) ≠ 93) := by
  simp [rangeB, and_assoc]

theorem classItem_one {s : ByteArray} {k j : Nat} {a : One} (hm : memberP s k = .ok (a, j)) (hr : rangeB s j a.plain.isSome = false) : classItem s k = .ok (a.p, j) := by
  have hn : ¬ (a.plain.isSome = true ∧ here s j 45 = true ∧ j + 1 < s.size ∧ bt s (j + 1) ≠ 93) := fun h => by rw [rangeB_iff.2 h] at hr; cases hr
  unfold classItem
  rw [hm]
  exact if_neg hn

theorem classItem_range {s : ByteArray} {k j : Nat} {a : One} (hm : memberP s k = .ok (a, j)) (hr : rangeB s j a.plain.isSome = true) : classItem s k =
    match memberP s (j + 1) with
    | .error e => .error e
    | .ok (b, k') => if b.plain = none ∨ b.plain.getD 0 < a.plain.getD 0 then .error (50, k) else .ok (fun x => decide (a.plain.getD 0 ≤ x) && decide (x ≤ b.plain.getD 0), k') := by
  unfold classItem
  rw [hm]
  exact if_pos (rangeB_iff.1 hr)

theorem classEnd {s : ByteArray} {neg : Bool} {f k : Nat} {fs : List (Int → Bool)} {R x : PRes (One × Nat)} (hR : classP s neg f fs k = R) (hh : classHead s neg fs k = some x) (h0 : 0 < f) : R = x := by
  obtain ⟨f, rfl⟩ : ∃ f', f = f' + 1 := ⟨f - 1, by omega⟩
  subst hR
  simp only [classP, hh]

theorem classHead_eq {s : ByteArray} {neg last : Bool} {fs : List (Int → Bool)} {k N : Nat} {c : Int} (hc : peekC s k = c) (hl : here s (k + peekN s k) 93 = last) (hfe : fs = [] ↔ N = 0) : classHead s neg fs k =
    if c < 0 then some (.error (50, (s.size : Int)))
    else if c = 93 ∧ N ≠ 0 then some (.ok (setP (clsP neg fs), k + 1))
    else if c = 45 ∧ N ≠ 0 ∧ last = false ∧ s.size ≤ k + 1 then some (.error (50, (s.size : Int)))
    else if c = 93 ∨ (c = 45 ∧ N ≠ 0 ∧ last = false) ∨ (c = 94 ∧ N = 0 ∧ neg = false) then some (.error (50, (k : Int)))
    else none := by
  unfold classHead
  simp only [hc, hl, ne_eq, hfe]

theorem faultEnd {w wc : World} {b : Nat} {s : ByteArray} {neg : Bool} {f k : Nat} {fs : List (Int → Bool)} {R : PRes (One × Nat)} {en pl : Int} (hR : classP s neg f fs k = R) (hh : classHead s neg fs k = some (.error (en, pl)))
    (hm : Moved w wc b k) : 0 < f → ReadsOne w b R (.panicked (faultV en pl)) wc := fun h0 => by
  obtain ⟨f, rfl⟩ : ∃ f', f = f' + 1 := ⟨f - 1, by omega⟩
  subst hR
  simp only [classP, hh]
  exact ⟨rfl, k, hm⟩

set_option maxHeartbeats 100000000 in
set_option maxRecDepth 100000 in
theorem class_any (w : World) (b : Nat) (s : ByteArray) (i : Nat) (h : Rd w b s i) (hs : s.size ≤ 256) (hi : i < s.size) (hb2 : 2 ≤ b) (hT : Lib.Utf8Tabs 0 1 w) :
    Calls Tryz.prog 96 #[.pointer (some ⟨b, 0, none⟩)] w (ReadsOne w b (wholeClass s i)) := by
  have hbl : b < w.heap.size := h.lt
  have HM : Hid (Moved w ((w.setCell ⟨b, 1, none⟩ (.int .i64 ((i : Int) + 1))).alloc zero9) b (i + 1)) := (Below.refl _ _).alloc (by simp [World.setCell]) _
  have hc := here_below ((w.setCell ⟨b, 1, none⟩ (.int .i64 ((i : Int) + 1))).alloc zero9) b s (i + 1) 94 (HM.out.rd h) (by omega) (by omega) hs
  have HZ : Hid (Z9 ((w.setCell ⟨b, 1, none⟩ (.int .i64 ((i : Int) + 1))).alloc zero9) w.heap.size) := by have := Z9.new (w.setCell ⟨b, 1, none⟩ (.int .i64 ((i : Int) + 1))); rwa [setCell_size] at this
  have HC := Lib.hid hc
  have HH := Lib.hid h
  have HT := Lib.hid hT
  obtain ⟨h0, h1, hf⟩ := h
  clear hc hT
  have hmf : ∀ (fn : Fn) (first cap : Array Value) (w : World), (Instr.makeFunc fn first cap).run Tryz.prog w = .ok (.func fn first cap) w := fun _ _ _ _ => rfl
  go_enter Tryz.func96, Tryz.ntmps96
  go_upto_if 21 with (go_at_call 77; refine HC.out.mono ?_; rintro e w2 ⟨rfl, hb1⟩)
  have HM2 : Hid (Moved w w2 b (i + 1)) := HM.out.below hb1
  have HZ2 : Hid (Z9 w2 w.heap.size) := HZ.out.like (hb1.block _ (by simp [World.setCell]))
  clear HC hb1 h0 h1 hf HM HZ
  generalize hneg : here s (i + 1) 94 = neg
  have HNEG := Lib.hid hneg
  clear hneg
  go_cut [] from 22 to 28 (fun wc => Moved w wc b (if neg = true then i + 2 else i + 1) ∧ Z9 wc w.heap.size ∧ (neg = true → i + 1 < s.size))
  case first =>
    -- [[
    have hr := HM2.out.rd HH.out
    obtain ⟨g0, g1, gf⟩ := hr
    cases neg
    · go_wp2_with fail
      go_meet
      exact ⟨HM2.out, HZ2.out, fun h => by cases h⟩
    · have hlt : i + 1 < s.size := here_lt HNEG.out
      go_wp2_with fail
      go_meet
      refine ⟨?_, HZ2.out.like (setCell_block_ne _ _ _ _ (by simp; omega)), fun _ => hlt⟩
      have := HM2.out.trans (Moved.of_set (w := w2) (w1 := w2) (b := b) (j := i + 2) (Below.refl _ _))
      have e : ((i : Int) + 1 + 1) = ((i + 2 : Nat) : Int) := by omega
      rw [e]; exact this
    -- ]]
  case rest =>
    obtain ⟨hm, hz, hlt⟩ := hcut
    have HR : Hid (classP s neg (s.size + 1) [] (if neg = true then i + 2 else i + 1) = wholeClass s i) := by unfold wholeClass; rw [HNEG.out]; trivial
    have hj : (if neg = true then i + 2 else i + 1) ≤ s.size := by
      split
      · have := hlt (by assumption); omega
      · omega
    generalize (if neg = true then i + 2 else i + 1) = j0 at *
    generalize wholeClass s i = R at *
    have HST : Hid (CRel w b s w.heap.size wc.heap.size neg R (s.size + 1) (wc.alloc lvar)) := by
      have hB : Below wc.heap.size wc (wc.alloc lvar) := (Below.refl _ _).alloc (Nat.le_refl _) _
      have hsz := hm.size
      refine ⟨j0, .slice none 0 0, [], [], [], ⟨hm.below hB, hj, Nat.zero_le _, hz.like (hB.block _ ?_), ?_⟩, by omega, HR.out⟩
      · have h0 := hz.c0
        unfold World.cell? at h0
        rcases Nat.lt_or_ge w.heap.size wc.heap.size with h2 | h2
        · exact h2
        · rw [Array.getElem?_eq_none h2] at h0; cases h0
      · exact ⟨by simp [go_sem], by simp [go_sem], World.ownsRow_nil _ _ _ _, ⟨rfl, fun i x f hx _ => by simp at hx⟩, InB.nil _ _, fun g hg => by simp [Value.ownBlock] at hg⟩
    have HLB : Hid (w.heap.size < wc.heap.size) := by
      have h0 := hz.c0
      unfold World.cell? at h0
      rcases Nat.lt_or_ge w.heap.size wc.heap.size with h2 | h2
      · exact h2
      · rw [Array.getElem?_eq_none h2] at h0; cases h0
    generalize hlbe : wc.heap.size = lb at *
    clear hm hz hlt HR hj HNEG HM2 HZ2
    go_wp2_with fail
    clear hlbe
    go_loopg [] (s.size + 1) (fun g wr => CRel w b s w.heap.size lb neg R g wr)
    case atStart => exact HST.out
    case round =>
      obtain ⟨k, v, xs, fs, C, hst, hfu, hR⟩ := hrel
      have hkl := hst.le
      have hrd : Rd wr b s k := hst.mv.rd HH.out
      have HPK := Lib.hid (peek_any wr b s k hrd hs hst.le (tabs_moved HT.out hst.mv hb2))
      have HS := Lib.hid hst
      have HR := Lib.hid hR
      have HRD := Lib.hid hrd
      have hlb := HLB.out
      have hnle := peekN_le s k hkl
      clear hst hR hrd HST
      go_upto_region 7 with (go_at_call 92; refine HPK.out.mono ?_; rintro e w1 ⟨rfl, hb1⟩)
      have HS1 : Hid (CSt w b s w.heap.size lb k v xs fs C w1) := HS.out.below hlb hb1
      have hrd1 := HRD.out.below hb1
      obtain ⟨g0, g1, gf⟩ := hrd1
      clear HPK HS HRD hb1
      generalize hcc : peekC s k = c at *
      generalize hnn : peekN s k = n at *
      have HC := Lib.hid hcc
      have HN := Lib.hid hnn
      clear hcc hnn
      obtain ⟨m, hm⟩ : ∃ m : Nat, k + n = m := ⟨_, rfl⟩
      have HMM := Lib.hid hm
      clear hm
      go_cut [7] from 34 to 59 (fun s7 wx => s7 = .bool (here s m 93) ∧ Below w1.heap.size w1 wx)
      case first =>
        -- [[
        have hm := HMM.out
        have hw1 : IntKind.i64.wrap ((k : Int) + (n : Int)) = (m : Int) := by rw [IntKind.wrap_i64] <;> omega
        have hw2 : (k : Int) + (n : Int) = (m : Int) := by omega
        clear hm
        by_cases hlt : m < s.size
        · have hd : decide ((m : Int) < (s.size : Int)) = true := by simpa using hlt
          have he : (((s[m]).toNat : Int) == 93) = here s m 93 := here_eq (c := 93) hlt
          go_quiet (fail)
          go_wp2_with fail
          go_meet
          exact ⟨rfl, below_drewN _ _⟩
        · have hd : decide ((m : Int) < (s.size : Int)) = false := by simpa using hlt
          go_quiet (fail)
          go_wp2_with fail
          go_meet
          exact ⟨by rw [here_no (by omega)], below_drewN _ _⟩
        -- ]]
      case rest =>
        obtain ⟨rfl, hb3⟩ := hcut
        have HS3 : Hid (CSt w b s w.heap.size lb k v xs fs C wc) := HS1.out.below hlb hb3
        have hrd3 := HS3.out.mv.rd HH.out
        clear HS1 hb3 g0 g1 gf
        obtain ⟨g0, g1, gf⟩ := hrd3
        generalize hla : here s m 93 = last at *
        have HLA := Lib.hid hla
        clear hla
        have hlv := HS3.out.l.cell
        have hlf := HS3.out.l.free
        go_upto_block 2 with fail
        obtain ⟨ao, cap, hv⟩ : ∃ ao cap, v = .slice ao fs.length cap := by
          rcases HS3.out.l.slice with ⟨h0, hv⟩ | ⟨g, cap, hv, _⟩ | ⟨g, cap, hv, h0⟩
          · exact ⟨none, 0, by rw [hv, h0]; rfl⟩
          · exact ⟨_, _, hv⟩
          · exact ⟨_, _, by rw [hv, h0]; rfl⟩
        rw [hv] at hlv
        have HV := Lib.hid hv
        clear hv
        have hk1 : IntKind.i64.wrap ((k : Int) + 1) = (k : Int) + 1 := by rw [IntKind.wrap_i64] <;> omega
        have hfe : fs = [] ↔ fs.length = 0 := List.length_eq_zero_iff.symm
        have HFE := Lib.hid hfe
        have hnl : fs.length ≤ 256 := by have := HS3.out.len; omega
        clear hfe
        generalize hN : fs.length = N at *
        have HNN := Lib.hid hN
        clear hN
        go_cut [] from 60 to 153 (fun wx => classHead s neg fs k = none ∧ Below wc.heap.size wc wx)
        case first =>
          -- [[
          have hla' : here s (k + peekN s k) 93 = last := by rw [HN.out, HMM.out, HLA.out]
          by_cases hc0 : c < 0
          · skip
            have HHD : Hid (classHead s neg fs k = some (.error (50, ((s.size : Nat) : Int)))) := (classHead_eq HC.out hla' HFE.out).trans (by simp [hc0])
            go_wp2_with fail
            refine (fail_any _ _ _ _).mono ?_
            rintro e w' ⟨rfl, hw'⟩
            refine ⟨rfl, ?_⟩
            exact faultEnd HR.out HHD.out (hw' ▸ HS3.out.mv.below (by first | exact Below.refl _ _ | exact below_drewN _ _)) (by omega)
          · by_cases hc1 : c = 93
            · subst hc1
              by_cases hN0 : N = 0
              · skip
                subst hN0
                have HHD : Hid (classHead s neg fs k = some (.error (50, ((k : Nat) : Int)))) := (classHead_eq HC.out hla' HFE.out).trans (by simp)
                go_wp2_with fail
                go_quiet (fail)
                go_wp2_with fail
                refine (fail_any _ _ _ _).mono ?_
                rintro e w' ⟨rfl, hw'⟩
                refine ⟨rfl, ?_⟩
                exact faultEnd HR.out HHD.out (hw' ▸ HS3.out.mv.below (by first | exact Below.refl _ _ | exact below_drewN _ _)) (by omega)
              · have e1 : decide ((0 : Int) < (N : Int)) = true := by simp; omega
                have hN1 : 0 < N := by omega
                have HHD : Hid (classHead s neg fs k = some (.ok (setP (clsP neg fs), k + 1))) := (classHead_eq HC.out hla' HFE.out).trans (by simp [hN0])
                have HW : Hid (CSt w b s w.heap.size lb (k + 1) v xs fs C (wc.setCell ⟨b, 1, none⟩ (.int .i64 ((k : Int) + 1)))) :=
                  HS3.out.moved hlb hbl (Moved.of_set (j := k + 1) (Below.refl _ _)) (by have := peekC_lt (s := s) (i := k) (by rw [HC.out]; decide); omega) (by omega)
                have HX : Hid (R = .ok (setP (clsP neg fs), k + 1)) := classEnd HR.out HHD.out (by omega)
                obtain ⟨D, hpD, hDb⟩ := HW.out.l.isP (by rw [HNN.out]; omega) (by rw [HNN.out]; omega)
                have HD := Lib.hid hDb
                have HPD := Lib.hid hpD
                have hsz2 : w.heap.size ≤ lb := by omega
                clear hpD hDb
                cases neg
                · skip
                  go_wp2_with fail
                  refine (set_any _ lb _ _ _ HPD.out HD.out).mono ?_
                  rintro e w3 ⟨rfl, hp, hC, hb⟩
                  obtain ⟨z0, z1, z2', z3, z4, z5, z6, z7, z8, zf⟩ := HW.out.z.like (w' := w3) (hb.block _ (by have := HW.out.l.lt; omega))
                  obtain ⟨g, cap', hgc⟩ : ∃ g cap', (Value.func (.func 106) #[] #[.pointer (some ⟨lb, 0, none⟩)]) = .func (.func g) #[] cap' := ⟨_, _, rfl⟩
                  rw [hgc] at hp ⊢
                  clear hgc
                  go_wp2_with fail
                  refine bodyPost_ret (v := .agg #[.int .i64 0, .func (.func g) #[] cap', .bool (setP (clsP false fs)).plain.isSome, .int .i32 ((setP (clsP false fs)).plain.getD 0), .slice none 0 0, .int .i64 0, .int .i64 0, .bool false, .int .i64 0]) (by simp [results, Tryz.results96, go_sem, setP, *]) rfl ?_
                  exact leafOne (o := setP (clsP false fs)) HW.out.mv hb (Nat.le_refl _) hlb hp hC _ HX.out
                · skip
                  go_wp2_with fail
                  refine (not_any _ lb _ _ _ HPD.out HD.out (by have := HW.out.l.lt; omega)).mono ?_
                  rintro e w3 ⟨g, cap', C', rfl, hp, hC, hb⟩
                  go_wp2_with fail
                  refine (set_any _ lb _ _ _ hp hC).mono ?_
                  rintro e w4 ⟨rfl, hp, hC, hb'⟩
                  have hb4 := hb.trans (hb'.mono hb.size)
                  clear hb hb'
                  obtain ⟨z0, z1, z2', z3, z4, z5, z6, z7, z8, zf⟩ := HW.out.z.like (w' := w4) (hb4.block _ (by have := HW.out.l.lt; omega))
                  go_wp2_with fail
                  refine bodyPost_ret (v := .agg #[.int .i64 0, .func (.func g) #[] cap', .bool (setP (clsP true fs)).plain.isSome, .int .i32 ((setP (clsP true fs)).plain.getD 0), .slice none 0 0, .int .i64 0, .int .i64 0, .bool false, .int .i64 0]) (by simp [results, Tryz.results96, go_sem, setP, *]) rfl ?_
                  exact leafOne (o := setP (clsP true fs)) HW.out.mv hb4 (Nat.le_refl _) hlb hp hC _ HX.out
            · by_cases hc2 : c = 45
              · subst hc2
                by_cases hN0 : N = 0
                · skip
                  subst hN0
                  have HHD : Hid (classHead s neg fs k = none) := (classHead_eq HC.out hla' HFE.out).trans (by simp)
                  go_wp2_with fail
                  go_quiet (fail)
                  go_wp2_with fail
                  go_meet
                  exact ⟨HHD.out, by first | exact Below.refl _ _ | exact below_drewN _ _⟩
                · have hN1 : 0 < N := by omega
                  have e1 : decide ((0 : Int) < (N : Int)) = true := by simp; omega
                  cases last
                  · by_cases hk2 : s.size ≤ k + 1
                    · skip
                      have e2 : decide ((s.size : Int) ≤ (k : Int) + 1) = true := by simp; omega
                      have HHD : Hid (classHead s neg fs k = some (.error (50, ((s.size : Nat) : Int)))) := (classHead_eq HC.out hla' HFE.out).trans (by simp [hN0, hk2])
                      go_wp2_with fail
                      go_quiet (fail)
                      go_wp2_with fail
                      refine (fail_any _ _ _ _).mono ?_
                      rintro e w' ⟨rfl, hw'⟩
                      refine ⟨rfl, ?_⟩
                      exact faultEnd HR.out HHD.out (hw' ▸ HS3.out.mv.below (by first | exact Below.refl _ _ | exact below_drewN _ _)) (by omega)
                    · skip
                      have e2 : decide ((s.size : Int) ≤ (k : Int) + 1) = false := by simp; omega
                      have HHD : Hid (classHead s neg fs k = some (.error (50, ((k : Nat) : Int)))) := (classHead_eq HC.out hla' HFE.out).trans (by simp [hN0, hk2])
                      go_wp2_with fail
                      go_quiet (fail)
                      go_wp2_with fail
                      refine (fail_any _ _ _ _).mono ?_
                      rintro e w' ⟨rfl, hw'⟩
                      refine ⟨rfl, ?_⟩
                      exact faultEnd HR.out HHD.out (hw' ▸ HS3.out.mv.below (by first | exact Below.refl _ _ | exact below_drewN _ _)) (by omega)
                  · skip
                    have HHD : Hid (classHead s neg fs k = none) := (classHead_eq HC.out hla' HFE.out).trans (by simp [hN0])
                    go_wp2_with fail
                    go_quiet (fail)
                    go_wp2_with fail
                    go_meet
                    exact ⟨HHD.out, by first | exact Below.refl _ _ | exact below_drewN _ _⟩
              · by_cases hc3 : c = 94
                · subst hc3
                  by_cases hN0 : N = 0
                  · subst hN0
                    cases neg
                    · skip
                      have HHD : Hid (classHead s false fs k = some (.error (50, ((k : Nat) : Int)))) := (classHead_eq HC.out hla' HFE.out).trans (by simp)
                      go_wp2_with fail
                      go_quiet (fail)
                      go_wp2_with fail
                      refine (fail_any _ _ _ _).mono ?_
                      rintro e w' ⟨rfl, hw'⟩
                      refine ⟨rfl, ?_⟩
                      exact faultEnd HR.out HHD.out (hw' ▸ HS3.out.mv.below (by first | exact Below.refl _ _ | exact below_drewN _ _)) (by omega)
                    · skip
                      have HHD : Hid (classHead s true fs k = none) := (classHead_eq HC.out hla' HFE.out).trans (by simp)
                      go_wp2_with fail
                      go_quiet (fail)
                      go_wp2_with fail
                      go_meet
                      exact ⟨HHD.out, by first | exact Below.refl _ _ | exact below_drewN _ _⟩
                  · skip
                    have hN1 : 0 < N := by omega
                    have e1 : ((N : Int) == 0) = false := by simpa using hN0
                    have HHD : Hid (classHead s neg fs k = none) := (classHead_eq HC.out hla' HFE.out).trans (by simp [hN0])
                    go_wp2_with fail
                    go_quiet (fail)
                    go_wp2_with fail
                    go_meet
                    exact ⟨HHD.out, by first | exact Below.refl _ _ | exact below_drewN _ _⟩
                · skip
                  have e1 : (c == 93) = false := by simpa using hc1
                  have e2 : (c == 45) = false := by simpa using hc2
                  have e3 : (c == 94) = false := by simpa using hc3
                  have HHD : Hid (classHead s neg fs k = none) := (classHead_eq HC.out hla' HFE.out).trans (by simp [hc0, hc1, hc2, hc3])
                  go_wp2_with fail
                  go_quiet (fail)
                  go_wp2_with fail
                  go_meet
                  exact ⟨HHD.out, by first | exact Below.refl _ _ | exact below_drewN _ _⟩
          -- ]]
        case rest =>
          obtain ⟨hhd, hb4⟩ := hcut
          have HHD := Lib.hid hhd
          have hkk : k < s.size := headNone_lt hhd
          have HS4 := Lib.hid (HS3.out.below hlb hb4)
          clear HS3 hhd hb4 g0 g1 gf hlv hlf HC HN HMM HLA HFE hnle
          have hrd4 := HS4.out.mv.rd HH.out
          have HMB := Lib.hid (member_any wc b s k hrd4 hs hkl hb2 (tabs_moved HT.out HS4.out.mv hb2))
          obtain ⟨g0, g1, gf⟩ := hrd4
          go_wp2_with fail
          refine HMB.out.mono ?_
          rintro e w5 hr
          clear HMB g0 g1 gf
          rcases hx : memberP s k with ⟨en, pl⟩ | ⟨a, j⟩
          · skip
            rw [hx] at hr
            obtain ⟨rfl, jj, hm⟩ := hr
            exact ⟨rfl, itemFault HR.out HHD.out (by unfold classItem; rw [hx]) ⟨jj, HS4.out.mv.trans hm⟩ (by omega)⟩
          · rw [hx] at hr
            obtain ⟨g, cap', C1, rfl, hp, hC1, hm⟩ := hr
            obtain ⟨hj1, hj2⟩ := memberP_bd hkk hx
            have HX := Lib.hid hx
            have HS5 := Lib.hid (HS4.out.moved hlb hbl hm hj2 (by omega))
            have HP5 := Lib.hid hp
            have hlb5 : lb < wc.heap.size := HS4.out.l.lt
            have hsz5 : wc.heap.size ≤ w5.heap.size := hm.size
            have HG : Hid (∀ g, v.ownBlock = some g → g < w5.heap.size) := fun g hg => by have := HS4.out.l.own.lt g hg; omega
            have hNk : N ≤ k := by have := HS4.out.len; rw [HNN.out] at this; exact this
            have HC5 : Hid (InB (lb + 1) w5.heap.size C1) := hC1.mono (by omega) (Nat.le_refl _)
            have HSEP : Hid (∀ g, v.ownBlock = some g → g ∉ C1) := fun g hg hmem => by
              have := HS4.out.l.own.lt g hg; have := hC1 g hmem; omega
            clear hx hp hC1 hm HS4
            generalize hap : a.plain.isSome = ap
            generalize har : a.plain.getD 0 = ar
            have HAP := Lib.hid hap
            have HAR := Lib.hid har
            clear hap har
            go_upto_region 24 with fail
            have HS6 : Hid (CSt w b s w.heap.size lb j v xs fs C (w5.alloc (avar g cap' ap ar))) := HS5.out.below hlb ((Below.refl _ _).alloc (Nat.le_refl _) _)
            have HP6 : Hid (IsP (w5.alloc (avar g cap' ap ar)) C1 (.func (.func g) #[] cap') a.p) := HP5.out.like (Like.of_below ((Below.refl _ _).alloc (Nat.le_refl _) _) fun k hk => (HC5.out k hk).2)
            have hA1 : (w5.alloc (avar g cap' ap ar)).cell? ⟨w5.heap.size, 1, none⟩ = some (.func (.func g) #[] cap') := by simp [go_sem]
            have hA3 : (w5.alloc (avar g cap' ap ar)).cell? ⟨w5.heap.size, 3, none⟩ = some (.int .i32 ar) := by simp [go_sem]
            have hA2 : (w5.alloc (avar g cap' ap ar)).cell? ⟨w5.heap.size, 2, none⟩ = some (.bool ap) := by simp [go_sem]
            have hwsz : (w5.alloc (avar g cap' ap ar)).heap.size = w5.heap.size + 1 := by simp
            show Code.wp _ _ _ _ (w5.alloc (avar g cap' ap ar))
            clear HS5 HP5
            generalize hw6 : w5.alloc (avar g cap' ap ar) = w6 at *
            clear hw6
            have hrd6 := HS6.out.mv.rd HH.out
            have HH6 : Hid (∀ n, Calls Tryz.prog 77 #[.pointer (some ⟨b, 0, none⟩), .int .u8 45] (w6.drewN n) fun e w' => e = .returned (.bool (here s j 45)) ∧ ∃ m, w' = w6.drewN m) :=
              fun n => Calls.quiet_of (here_any (w6.drewN n) b s j 45 ⟨hrd6.text, hrd6.at_, hrd6.free⟩ hj2 (by omega) hs)
            obtain ⟨g0, g1, gf⟩ := hrd6
            go_cut [191] from 160 to 190 (fun s9 wx => s9 = .bool (rangeB s j ap) ∧ Below w6.heap.size w6 wx)
            case first =>
              -- [[
              have hw1 : IntKind.i64.wrap ((j : Int) + 1) = ((j + 1 : Nat) : Int) := by rw [IntKind.wrap_i64] <;> omega
              have hw2 : (j : Int) + 1 = ((j + 1 : Nat) : Int) := by omega
              generalize hj' : j + 1 = j1 at *
              have HJ := Lib.hid hj'
              clear hj'
              cases ap
              · have hrb : rangeB s j false = false := by simp [rangeB]
                have HRB := Lib.hid hrb
                clear hw1 hw2 hrb
                go_quiet (fail)
                go_wp2_with fail
                go_meet
                exact ⟨by rw [HRB.out], below_drewN _ _⟩
              · generalize hhe : here s j 45 = he at *
                cases he
                · have hrb : rangeB s j true = false := by simp [rangeB, hhe]
                  have HRB := Lib.hid hrb
                  clear hw1 hw2 hhe hrb
                  go_quiet ((go_at_call 77; exact HH6.out _))
                  go_wp2_with fail
                  go_meet
                  exact ⟨by rw [HRB.out], below_drewN _ _⟩
                · by_cases hlt : j1 < s.size
                  · have hd : decide ((j1 : Int) < (s.size : Int)) = true := by simpa using hlt
                    have hrb : rangeB s j true = (((s[j1]).toNat : Int) != 93) := by
                      simp only [rangeB, hhe, HJ.out, hlt, bt_eq hlt, Bool.true_and, decide_true]
                      rw [Bool.eq_iff_iff]; simp; omega
                    have HRB := Lib.hid hrb
                    clear hhe hrb
                    go_quiet ((go_at_call 77; exact HH6.out _))
                    go_wp2_with fail
                    go_meet
                    exact ⟨by rw [HRB.out], below_drewN _ _⟩
                  · have hd : decide ((j1 : Int) < (s.size : Int)) = false := by simpa using hlt
                    have hrb : rangeB s j true = false := by simp [rangeB, hhe, HJ.out, hlt]
                    have HRB := Lib.hid hrb
                    clear hhe hrb
                    go_quiet ((go_at_call 77; exact HH6.out _))
                    go_wp2_with fail
                    go_meet
                    exact ⟨by rw [HRB.out], below_drewN _ _⟩
              -- ]]
            case rest =>
              obtain ⟨rfl, hb7⟩ := hcut
              have HS7 := Lib.hid (HS6.out.below hlb hb7)
              have HP7 := Lib.hid (HP6.out.like (Like.of_below hb7 fun k hk => by have := HC5.out k hk; omega))
              have HC7 : Hid (InB (lb + 1) wc.heap.size C1) := HC5.out.mono (Nat.le_refl _) (by have := hb7.size; omega)
              have hsz7 : w5.heap.size < wc.heap.size := by have := hb7.size; omega
              have hB1 := (hb7.cell (p := ⟨w5.heap.size, 1, none⟩) (by simp; omega)).trans hA1
              have hB3 := (hb7.cell (p := ⟨w5.heap.size, 3, none⟩) (by simp; omega)).trans hA3
              obtain ⟨g0, g1, gf⟩ := HS7.out.mv.rd HH.out
              have hlv := HS7.out.l.cell
              rw [HV.out] at hlv
              have hlf := HS7.out.l.free
              have hown : wc.ownsRow (lb + 1) 40 1 (.slice ao N cap) N xs := by have := HS7.out.l.own; rw [HV.out, HNN.out] at this; exact this
              clear HS6 HP6 hb7 hA1 hA2 hA3 HH6
              obtain ⟨i0, hi0, hz0, hz1, hz2⟩ := info_parts infoFn
              generalize hrb : rangeB s j ap = rb
              have HRB := Lib.hid hrb
              clear hrb
              cases rb
              · skip
                -- [[
                have HIT : Hid (classItem s k = .ok (a.p, j)) := classItem_one HX.out (by rw [HAP.out]; exact HRB.out)
                go_wp2_with (at_builtin; refine wpList_append_own_at _ rfl _ _ 162 rfl (lb + 1) 40 i0 .nilFunc 1 8 Tryz.underlying162 hi0 hz0 hz1 hz2 rfl (by decide) _ N xs rfl (hown.alloc _) ⟨wc.heap.size, 0, none⟩ 1 1 [.func (.func g) #[] cap'] rfl rfl ?c1 ?c2 ?c3 ?c4 ?c5 ?_)
                case c1 => exact cell_one_new _ _ _
                case c2 => intro u hu; rw [List.mem_singleton.1 hu]; rfl
                case c3 => unfold maxLen; omega
                case c4 => omega
                case c5 => have := HS7.out.l.lt; simp; omega
                intro v' w1 hown' hgrow _ hat
                have HOWN' := Lib.hid hown'
                have HGROW := Lib.hid hgrow
                have HAT := Lib.hid hat
                have hlne : some lb ≠ (Value.slice ao N cap).ownBlock := fun e => by have := hown.lt lb e.symm; omega
                have hlv1 : w1.cell? ⟨lb, 0, none⟩ = some (.slice ao N cap) := by
                  rw [World.cell?_of_block (w := wc.alloc (.cells #[.func (.func g) #[] cap'] 40)) (hgrow.block lb (by have := HS7.out.l.lt; simp; omega) hlne)]
                  rw [World.cell?_alloc_lt _ _ _ (by have := HS7.out.l.lt; simpa using this)]; exact hlv
                have hlf1 : w1.frozen? ⟨lb, 0, none⟩ = false := by
                  rw [World.frozen?_of_block (w := wc.alloc (.cells #[.func (.func g) #[] cap'] 40)) (hgrow.block lb (by have := HS7.out.l.lt; simp; omega) hlne)]
                  exact ((((Below.refl wc.heap.size wc).alloc (Nat.le_refl _) _).frozen (p := ⟨lb, 0, none⟩) HS7.out.l.lt)).trans hlf
                obtain ⟨g', cp', hv'⟩ := owned_slice hown'
                have HV' := Lib.hid hv'
                rw [hv']
                clear hv' hown' hgrow hat hown hlv hlf hB1 hB3 hlne
                go_wp2_with fail
                go_roundg (gk - 1)
                case measure => omega
                case rel =>
                  have hpush := HS7.out.push (v' := v') (x := .func (.func g) #[] cap') (p := a.p) (D := C1) (w1 := w1) hlb (Nat.le_refl _) (by rw [HNN.out]; omega) HP7.out HC7.out HSEP.out (.cells #[.func (.func g) #[] cap'] 40) (by rw [HNN.out]; exact HOWN'.out) (by rw [HV.out]; exact HGROW.out) (by rw [HV.out]; simpa using HAT.out)
                  rw [HV'.out] at hpush
                  exact ⟨j, _, _, _, _, hpush, by omega, itemNext HR.out HHD.out HIT.out (by omega)⟩
                -- ]]
              · have hri := rangeB_iff.1 HRB.out
                have hj1 : j + 1 < s.size := hri.2.2.1
                clear hri
                have hw1 : IntKind.i64.wrap ((j : Int) + 1) = (j : Int) + 1 := by rw [IntKind.wrap_i64] <;> omega
                have HW : Hid (CSt w b s w.heap.size lb (j + 1) v xs fs C (wc.setCell ⟨b, 1, none⟩ (.int .i64 ((j : Int) + 1)))) :=
                  HS7.out.moved hlb hbl (Moved.of_set (j := j + 1) (Below.refl _ _)) (by omega) (by omega)
                have HMB := Lib.hid (member_any _ b s (j + 1) (HW.out.mv.rd HH.out) hs (by omega) hb2 (tabs_moved HT.out HW.out.mv hb2))
                have hne : b ≠ w5.heap.size := by omega
                have HB1 : Hid ((wc.setCell ⟨b, 1, none⟩ (.int .i64 ((j : Int) + 1))).cell? ⟨w5.heap.size, 3, none⟩ = some (.int .i32 ar)) :=
                  (World.cell?_of_block (w := wc) (setCell_block_ne _ _ _ _ (by simp; omega))).trans hB3
                clear hB1 hown HS7 HP7 HC7
                go_wp2_with fail
                refine HMB.out.mono ?_
                rintro e w8 hr
                clear HMB g0 g1 gf hlv hlf hB3
                rcases hx : memberP s (j + 1) with ⟨en, pl⟩ | ⟨a2, j2⟩
                · skip
                  rw [hx] at hr
                  obtain ⟨rfl, jj, hm⟩ := hr
                  exact ⟨rfl, itemFault HR.out HHD.out ((classItem_range HX.out (by rw [HAP.out]; exact HRB.out)).trans (by rw [hx])) ⟨jj, HW.out.mv.trans hm⟩ (by omega)⟩
                · rw [hx] at hr
                  obtain ⟨g2, cap2, C2, rfl, _, _, hm⟩ := hr
                  obtain ⟨hj3, hj4⟩ := memberP_bd hj1 hx
                  have HX2 := Lib.hid hx
                  have HS8 := Lib.hid (HW.out.moved hlb hbl hm hj4 (by omega))
                  have hsz8 : w5.heap.size < w8.heap.size := by have := hm.size; rw [setCell_size] at this; omega
                  have HB8 : Hid (w8.cell? ⟨w5.heap.size, 3, none⟩ = some (.int .i32 ar)) := (hm.cell_ne (p := ⟨w5.heap.size, 3, none⟩) (by rw [setCell_size]; exact hsz7) (by simp; omega)).trans HB1.out
                  clear hx hm HW HB1
                  have hbp : a2.plain = none ↔ a2.plain.isSome = false := by cases a2.plain <;> simp
                  have HBP := Lib.hid hbp
                  clear hbp
                  generalize hap2 : a2.plain.isSome = bp at *
                  generalize har2 : a2.plain.getD 0 = br at *
                  have HBR := Lib.hid har2
                  clear hap2 har2
                  have HS9 : Hid (CSt w b s w.heap.size lb j2 v xs fs C (w8.alloc (avar g2 cap2 bp br))) := HS8.out.below hlb ((Below.refl _ _).alloc (Nat.le_refl _) _)
                  have hA3 : (w8.alloc (avar g2 cap2 bp br)).cell? ⟨w5.heap.size, 3, none⟩ = some (.int .i32 ar) := by rw [World.cell?_alloc_lt _ _ _ (by simpa using hsz8)]; exact HB8.out
                  have HA3 := Lib.hid hA3
                  have hA9 : (w8.alloc (avar g2 cap2 bp br)).cell? ⟨w8.heap.size, 3, none⟩ = some (.int .i32 br) := by simp [go_sem]
                  have HA9 := Lib.hid hA9
                  have hcell5 : w8.cell? ⟨w5.heap.size, 3, none⟩ = some (.int .i32 ar) := HB8.out
                  obtain ⟨g0, g1, gf⟩ := HS9.out.mv.rd HH.out
                  have hlv := HS9.out.l.cell
                  rw [HV.out] at hlv
                  have hlf := HS9.out.l.free
                  have hown : (w8.alloc (avar g2 cap2 bp br)).ownsRow (lb + 1) 40 1 (.slice ao N cap) N xs := by have := HS9.out.l.own; rw [HV.out, HNN.out] at this; exact this
                  clear hA3 hA9 HB8 HS8
                  have HRG : Hid (classItem s k = if bp = false ∨ br < ar then .error (50, (k : Int)) else .ok (fun x => decide (ar ≤ x) && decide (x ≤ br), j2)) := by
                    refine (classItem_range HX.out (by rw [HAP.out]; exact HRB.out)).trans ?_
                    rw [HX2.out]
                    simp only [HBP.out, HBR.out, HAR.out]
                  by_cases hbad : bp = false ∨ br < ar
                  · skip
                    have HIT : Hid (classItem s k = .error (50, (k : Int))) := HRG.out.trans (if_pos hbad)
                    clear HRG HBP
                    cases bp
                    · clear hbad
                      go_wp2_with fail
                      refine (fail_any _ _ _ _).mono ?_
                      rintro e w' ⟨rfl, hw'⟩
                      exact ⟨rfl, itemFault HR.out HHD.out HIT.out ⟨j2, hw' ▸ HS9.out.mv⟩ (by omega)⟩
                    · have hlt : br < ar := by simpa using hbad
                      clear hbad
                      go_wp2_with fail
                      refine (fail_any _ _ _ _).mono ?_
                      rintro e w' ⟨rfl, hw'⟩
                      exact ⟨rfl, itemFault HR.out HHD.out HIT.out ⟨j2, hw' ▸ HS9.out.mv⟩ (by omega)⟩
                  · skip
                    have HIT : Hid (classItem s k = .ok (fun x => decide (ar ≤ x) && decide (x ≤ br), j2)) := HRG.out.trans (if_neg hbad)
                    have hbt : bp = true := by cases hbb : bp with | false => exact absurd (.inl hbb) hbad | true => rfl
                    have hle : ¬ br < ar := fun h => hbad (.inr h)
                    subst hbt
                    clear hbad HRG HBP
                    obtain ⟨W9, hW9⟩ : ∃ W9, W9 = w8.alloc (avar g2 cap2 true br) := ⟨_, rfl⟩
                    have hPW : IsP W9 [w5.heap.size, w8.heap.size] (.func (.func 108) #[] #[.pointer (some ⟨w5.heap.size, 0, none⟩), .pointer (some ⟨w8.heap.size, 0, none⟩)]) (fun x => decide (ar ≤ x) && decide (x ≤ br)) := by
                      rw [hW9]; exact isP_range HA3.out HA9.out
                    have HPW := Lib.hid hPW
                    have hDW : InB (lb + 1) W9.heap.size [w5.heap.size, w8.heap.size] := by
                      rw [hW9]
                      exact ((InB.nil _ _).cons (by omega) (by simp)).cons (by omega) (by simp; omega)
                    have HDW := Lib.hid hDW
                    have HSW : Hid (∀ g, v.ownBlock = some g → g ∉ [w5.heap.size, w8.heap.size]) := fun g hg hmem => by
                      have := HG.out g hg
                      rcases List.mem_cons.1 hmem with h | h
                      · omega
                      · have := List.mem_singleton.1 h; omega
                    have hlbW : lb < W9.heap.size := by rw [hW9]; simp; omega
                    have hS9 : CSt w b s w.heap.size lb j2 v xs fs C W9 := by rw [hW9]; exact HS9.out
                    have HSX := Lib.hid hS9
                    rw [← hW9] at hlv hlf hown g0 g1 gf
                    have hc5 : W9.cell? ⟨w5.heap.size, 3, none⟩ = some (.int .i32 ar) := by rw [hW9]; exact HA3.out
                    have hc9 : W9.cell? ⟨w8.heap.size, 3, none⟩ = some (.int .i32 br) := by rw [hW9]; exact HA9.out
                    have hc9b : W9.cell? ⟨w8.heap.size, 2, none⟩ = some (.bool true) := by rw [hW9]; simp [go_sem]
                    clear hPW hDW hS9 HS9 HA3 HA9 hcell5
                    go_upto_region 27 with fail
                    show Code.wp _ _ _ _ (w8.alloc (avar g2 cap2 true br))
                    rw [← hW9]
                    clear hW9
                    go_wp2_with (at_builtin; refine wpList_append_own_at _ rfl _ _ 162 rfl (lb + 1) 40 i0 .nilFunc 1 8 Tryz.underlying162 hi0 hz0 hz1 hz2 rfl (by decide) _ N xs rfl (hown.alloc _) ⟨W9.heap.size, 0, none⟩ 1 1 [(.func (.func 108) #[] #[.pointer (some ⟨w5.heap.size, 0, none⟩), .pointer (some ⟨w8.heap.size, 0, none⟩)])] rfl rfl ?c1 ?c2 ?c3 ?c4 ?c5 ?_)
                    case c1 => exact cell_one_new _ _ _
                    case c2 => intro u hu; rw [List.mem_singleton.1 hu]; rfl
                    case c3 => unfold maxLen; omega
                    case c4 => omega
                    case c5 => simp; omega
                    intro v' w1 hown' hgrow _ hat
                    have HOWN' := Lib.hid hown'
                    have HGROW := Lib.hid hgrow
                    have HAT := Lib.hid hat
                    have hlne : some lb ≠ (Value.slice ao N cap).ownBlock := fun e => by have := hown.lt lb e.symm; omega
                    have hlv1 : w1.cell? ⟨lb, 0, none⟩ = some (.slice ao N cap) := by
                      rw [World.cell?_of_block (w := W9.alloc (.cells #[(.func (.func 108) #[] #[.pointer (some ⟨w5.heap.size, 0, none⟩), .pointer (some ⟨w8.heap.size, 0, none⟩)])] 40)) (hgrow.block lb (by simp; omega) hlne)]
                      rw [World.cell?_alloc_lt _ _ _ (by simpa using hlbW)]; exact hlv
                    have hlf1 : w1.frozen? ⟨lb, 0, none⟩ = false := by
                      rw [World.frozen?_of_block (w := W9.alloc (.cells #[(.func (.func 108) #[] #[.pointer (some ⟨w5.heap.size, 0, none⟩), .pointer (some ⟨w8.heap.size, 0, none⟩)])] 40)) (hgrow.block lb (by simp; omega) hlne)]
                      exact ((((Below.refl W9.heap.size W9).alloc (Nat.le_refl _) _).frozen (p := ⟨lb, 0, none⟩) hlbW)).trans hlf
                    obtain ⟨g', cp', hv'⟩ := owned_slice hown'
                    have HV' := Lib.hid hv'
                    rw [hv']
                    clear hv' hown' hgrow hat hown hlv hlf hlne
                    go_wp2_with fail
                    go_roundg (gk - 1)
                    case measure => omega
                    case rel =>
                      have hpush := HSX.out.push (v' := v') (x := (.func (.func 108) #[] #[.pointer (some ⟨w5.heap.size, 0, none⟩), .pointer (some ⟨w8.heap.size, 0, none⟩)])) (p := fun x => decide (ar ≤ x) && decide (x ≤ br)) (w1 := w1) hlb (Nat.le_refl _) (by rw [HNN.out]; omega) HPW.out HDW.out HSW.out (.cells #[(.func (.func 108) #[] #[.pointer (some ⟨w5.heap.size, 0, none⟩), .pointer (some ⟨w8.heap.size, 0, none⟩)])] 40) (by rw [HNN.out]; exact HOWN'.out) (by rw [HV.out]; exact HGROW.out) (by rw [HV.out]; simpa using HAT.out)
                      rw [HV'.out] at hpush
                      exact ⟨j2, _, _, _, _, hpush, by omega, itemNext HR.out HHD.out HIT.out (by omega)⟩

end Go.Proofs.YtgcmjidphoklkaaGreatDoor.Rx
