/- Walks over layer 5's reader: a row. -/
import Derived.Test.YtgcmjidphoklkaaGreatDoorRxRow
import Derived.Deep.RegionHeld3
import Derived.Deep.AppendLies
import Derived.StillTactics
namespace Go.Proofs.YtgcmjidphoklkaaGreatDoor.Rx
open Go.RowKit Go.Sort

attribute [local go_sem] run_store_one

theorem infoPart : (Tryz.prog.info? 92).map (fun i => (i.zero, i.size, i.bytes)) = some (some (.agg #[.int .i64 0, .nilFunc, .bool false, .int .i32 0, .slice none 0 0, .int .i64 0, .int .i64 0, .bool false, .int .i64 0]), 9, 80) := by kernel_rfl

/-- What a row's rounds are walked under. -/
def RRel (w0 : World) (b : Nat) (s : ByteArray) (r p : Nat) (ch : Nat → PRes (Re × Nat)) (d : Nat) (R : PRes (Re × Nat)) (f : Nat) (w : World) : Prop :=
  ∃ j l cs v K C, RowSt w0 b r p j l cs v K C w ∧ j ≤ s.size ∧ s.size < f + j ∧ rowP s ch d f l j = R

theorem list_one {c : P9} (h : c.is.oneCell' = true ∧ c.kids.oneCell' = true) : ∀ u, u ∈ c.list → u.oneCell' = true := by
  intro u hu
  simp only [P9.list, List.mem_cons, List.not_mem_nil, or_false] at hu
  rcases hu with rfl | rfl | rfl | rfl | rfl | rfl | rfl | rfl | rfl
  all_goals first | rfl | exact h.1 | exact h.2

theorem RowSt.block {w0 w w1 : World} {b r p j : Nat} {l : List Re} {cs : List P9} {v V : Value} {K C : List Nat} {o : Obj} (h : RowSt w0 b r p j l cs v K C w) (hv : v = V) (hg : (w.alloc o).grownBy w1 V.ownBlock) : w1.heap[p]? = w.heap[p]? := by
  subst hv
  have hp := h.cp.lt
  rw [hg.block p (by simp; omega) (fun e => by have := (h.own.lt p e.symm).1; omega)]
  exact ((Below.refl w.heap.size w).alloc (Nat.le_refl _) o).block p hp

theorem goesOn_eq {s : ByteArray} {i : Nat} : goesOn s i = (decide (i < s.size) && !here s i 124 && !here s i 41) := rfl

set_option maxHeartbeats 12800000 in
set_option maxRecDepth 100000 in
theorem row_any (w : World) (b : Nat) (s : ByteArray) (i f d : Nat) (hch : d < 50 → ChoiceSaid s f (d + 1)) (hd : d ≤ 50) (h : Rd w b s i) (hs : s.size ≤ 256) (hi : i ≤ s.size) (hb2 : 2 ≤ b) (hT : Lib.Utf8Tabs 0 1 w) :
    Calls Tryz.prog 76 #[.pointer (some ⟨b, 0, none⟩), .int .i64 d] w (ReadsRe w.heap.size w b (rowP s (choiceP s f (d + 1)) d (s.size + 1) [] i)) := by
  have hbl : b < w.heap.size := h.lt
  have HH := Lib.hid h
  have HT := Lib.hid hT
  have HCH := Lib.hid hch
  have HR : Hid (∀ W, W = (w.alloc zero9).alloc (.cells #[.int .i64 1, .nilFunc, .bool false, .int .i32 0, .slice none 0 0, .int .i64 0, .int .i64 0, .bool false, .int .i64 0] 92) →
      RRel w b s w.heap.size (w.heap.size + 1) (choiceP s f (d + 1)) d (rowP s (choiceP s f (d + 1)) d (s.size + 1) [] i) (s.size + 1) W) := by
    rintro W rfl
    refine ⟨i, [], [], .slice none 0 0, [], [], ⟨?_, by omega, ?_, ?_, ?_, World.ownsRow_nil _ _ _ _, ⟨rfl, rfl⟩, InB.nil _ _, Sep.none _, fun g hg => by simp [Value.ownBlock] at hg, fun _ => rfl, Nat.zero_le _⟩, hi, by omega, rfl⟩
    · exact h.here.below (((Below.refl _ _).alloc (Nat.le_refl _) _).alloc (by simp) _)
    · constructor <;> simp [go_sem]
    · constructor <;> simp [go_sem]
    · intro o; simp [go_sem]
  generalize rowP s (choiceP s f (d + 1)) d (s.size + 1) [] i = R at *
  clear h hT hch
  go_enter Tryz.func76, Tryz.ntmps76
  go_wp2_with fail
  go_loopg [] (s.size + 1) (fun g wr => RRel w b s w.heap.size (w.heap.size + 1) (choiceP s f (d + 1)) d R g wr)
  case atStart => exact HR.out _ rfl
  case round =>
    obtain ⟨j, l, cs, v, K, C, hst, hj, hfu, hR⟩ := hrel
    have HS := Lib.hid hst
    have HRR := Lib.hid hR
    have hrd := hst.mv.rd HH.out
    have HH1 : Hid (∀ n, Calls Tryz.prog 77 #[.pointer (some ⟨b, 0, none⟩), .int .u8 124] (wr.drewN n) fun e w' => e = .returned (.bool (here s j 124)) ∧ ∃ m, w' = wr.drewN m) :=
      fun n => Calls.quiet_of (here_any (wr.drewN n) b s j 124 ⟨hrd.text, hrd.at_, hrd.free⟩ hj (by omega) hs)
    have HH2 : Hid (∀ n, Calls Tryz.prog 77 #[.pointer (some ⟨b, 0, none⟩), .int .u8 41] (wr.drewN n) fun e w' => e = .returned (.bool (here s j 41)) ∧ ∃ m, w' = wr.drewN m) :=
      fun n => Calls.quiet_of (here_any (wr.drewN n) b s j 41 ⟨hrd.text, hrd.at_, hrd.free⟩ hj (by omega) hs)
    obtain ⟨g0, g1, gf⟩ := hrd
    clear hst hR HR
    go_wp2_with fail
    go_cut [26] from 7 to 25 (fun s26 wx => s26 = .bool (goesOn s j) ∧ Below wr.heap.size wr wx)
    case first =>
      have HG : Hid (goesOn s j = (decide (j < s.size) && !here s j 124 && !here s j 41)) := rfl
      by_cases hlt : j < s.size
      · have hd1 : decide ((j : Int) < (s.size : Int)) = true := by simpa using hlt
        generalize hh1 : here s j 124 = h1 at *
        generalize hh2 : here s j 41 = h2 at *
        have hg2 : goesOn s j = (!h1 && !h2) := by rw [HG.out]; simp [hlt]
        have HG2 := Lib.hid hg2
        clear hh1 hh2 HG hg2
        cases h1
        · go_quiet ((first | (go_at_call_of 77 (Value.int IntKind.u8 124); exact HH1.out _) | (go_at_call_of 77 (Value.int IntKind.u8 41); exact HH2.out _)))
          go_wp2_with fail
          go_meet
          exact ⟨by rw [HG2.out]; rfl, below_drewN _ _⟩
        · go_quiet ((first | (go_at_call_of 77 (Value.int IntKind.u8 124); exact HH1.out _) | (go_at_call_of 77 (Value.int IntKind.u8 41); exact HH2.out _)))
          go_wp2_with fail
          go_meet
          exact ⟨by rw [HG2.out]; rfl, below_drewN _ _⟩
      · have hd1 : decide ((j : Int) < (s.size : Int)) = false := by simpa using hlt
        go_quiet (fail)
        go_wp2_with fail
        go_meet
        exact ⟨by rw [HG.out]; simp [hlt], below_drewN _ _⟩
    case rest =>
      obtain ⟨rfl, hb⟩ := hcut
      have HS2 := Lib.hid (HS.out.below hbl (Nat.lt_succ_self _) hb)
      clear HS HH1 HH2 hb g0 g1 gf
      generalize hgo : goesOn s j = go
      have HGO := Lib.hid hgo
      clear hgo
      obtain ⟨g0, g1, gf⟩ := HS2.out.mv.rd HH.out
      obtain ⟨z0, z1, z2, z3, z4, z5, z6, z7, z8, zf⟩ := HS2.out.z
      obtain ⟨x0, x1, x2, x3, x4, x5, x6, x7, x8⟩ := HS2.out.cp
      simp only [Nat.zero_add] at x0 x1 x2 x3 x4 x5 x6 x7 x8
      have hvs : ∃ ao cap, v = .slice ao l.length cap := by
        rcases HS2.out.own.2 with ⟨hv, h0⟩ | ⟨g, cap, cur, hv, _⟩
        · exact ⟨none, 0, by rw [hv, h0]⟩
        · exact ⟨_, _, hv⟩
      obtain ⟨ao, cap, hv⟩ := hvs
      cases go
      · have hE : (.ok (.row l, j) : PRes (Re × Nat)) = R := by
          have h1 := HRR.out
          obtain ⟨gk', rfl⟩ : ∃ g', gk = g' + 1 := ⟨gk - 1, by omega⟩
          simpa [Rx.rowP, HGO.out] using h1
        have HE := Lib.hid hE.symm
        have HVV := Lib.hid hv
        rw [hv] at x4
        clear hE hv
        generalize hN : l.length = N at *
        clear hN
        go_wp2_with fail
        refine bodyPost_ret (v := P9.agg (rowC v)) (by simp [results, Tryz.results76, go_sem, HVV.out, *]) rfl ?_
        obtain ⟨K', hF⟩ := HS2.out.fresh
        exact endRe hF HS2.out.mv (Nat.le_refl _) (by omega) HE.out
      · have hlt : j < s.size := goesOn_lt HGO.out
        have hR1 : ∀ x, itemP s (choiceP s f (d + 1)) d j = x → (match x with | .error e => (.error e : PRes (Re × Nat)) | .ok (a, k) => Rx.rowP s (choiceP s f (d + 1)) d (gk - 1) (l ++ [a]) k) = R := by
          intro x hx
          have h1 := HRR.out
          obtain ⟨gk', rfl⟩ : ∃ g', gk = g' + 1 := ⟨gk - 1, by omega⟩
          rw [Rx.rowP, if_pos HGO.out, hx] at h1
          exact h1
        have HR1 := Lib.hid hR1
        have HVV := Lib.hid hv
        rw [hv] at x4
        clear hR1 hv
        have HATOM := Lib.hid (atom_any wc.drew b s j f d HCH.out hd ⟨g0, g1, gf⟩ hs hj hb2 (tabs_moved HT.out (HS2.out.mv.below (Below.refl _ _).drew) hb2))
        rcases ha : atomP s (choiceP s f (d + 1)) d j with ⟨en, pl⟩ | ⟨a, k⟩
        · rw [ha] at HATOM
          have HI : Hid (R = .error (en, pl)) := (HR1.out (.error (en, pl)) (by unfold itemP; rw [ha])).symm
          clear ha
          go_wp2_with fail
          refine wp_region_any (by kernel_rfl) ?_
          change wpAny _ _ _ _ _ _ _ (World.drew _)
          refine wpAny_take (i := 0) (v := .pointer (some ⟨w.heap.size + 1, 4, none⟩)) rfl (by kernel_rfl) (by kernel_rfl) (by kernel_rfl) (fun _ _ _ h => h) (Or.inl ⟨by rfl, by intro w; go_simp⟩) ?_
          refine wpAny_take (i := 2) (v := .pointer (some ⟨b, 0, none⟩)) rfl (by kernel_rfl) (by kernel_rfl) (by kernel_rfl) (fun _ _ _ h => h) (Or.inl ⟨by rfl, by intro w; go_simp⟩) ?_
          refine wpAny_take (i := 3) (v := .pointer (some ⟨b, 0, none⟩)) rfl (by kernel_rfl) (by kernel_rfl) (by kernel_rfl) (fun _ _ _ h => h) (Or.inl ⟨by rfl, by intro w; go_simp⟩) ?_
          refine wpAny_take (i := 4) (v := .int .i64 (d : Int)) rfl (by kernel_rfl) (by kernel_rfl) (by kernel_rfl) (fun _ _ _ h => h) (Or.inl ⟨by rfl, by intro w; go_simp⟩) ?_
          refine wpAny_ready (rs := [1, 5]) (by kernel_rfl) (by simp) ?_
          refine AllReady.cons rfl (fun Kk hKk => ?_) ?_
          · go_simp
            refine hKk _ _ ?_
            clear hKk Kk
            refine wpAny_ready (rs := [5]) (by kernel_rfl) (by simp) ?_
            refine AllReady.cons rfl (fun Kk hKk => ?_) ?_
            · skip
              go_simp
              refine HATOM.out.mono ?_
              rintro e w5 ⟨rfl, jj, hm⟩
              exact ⟨rfl, by rw [HI.out]; exact ⟨rfl, jj, (HS2.out.mv.below (Below.refl _ _).drew).trans hm⟩⟩
            · exact AllReady.nil
          · refine AllReady.cons rfl (fun Kk hKk => ?_) ?_
            · skip
              go_simp
              refine HATOM.out.mono ?_
              rintro e w5 ⟨rfl, jj, hm⟩
              exact ⟨rfl, by rw [HI.out]; exact ⟨rfl, jj, (HS2.out.mv.below (Below.refl _ _).drew).trans hm⟩⟩
            · exact AllReady.nil
        · rw [ha] at HATOM
          have hab := atomP_bd (choiceP_bd f (d + 1)) hlt ha
          have hk : k ≤ s.size := hab.2.1
          have hBsz : b < wc.heap.size := by have := HS2.out.mv.size; omega
          rcases ht : timesP s a k with ⟨en, pl⟩ | ⟨t, k2⟩
          · have HI : Hid (R = .error (en, pl)) := (HR1.out (.error (en, pl)) (by unfold itemP; rw [ha]; exact ht)).symm
            have HTI := Lib.hid ht
            clear ha ht
            go_wp2_with fail
            refine wp_region_any (by kernel_rfl) ?_
            change wpAny _ _ _ _ _ _ _ (World.drew _)
            refine wpAny_take (i := 0) (v := .pointer (some ⟨w.heap.size + 1, 4, none⟩)) rfl (by kernel_rfl) (by kernel_rfl) (by kernel_rfl) (fun _ _ _ h => h) (Or.inl ⟨by rfl, by intro w; go_simp⟩) ?_
            refine wpAny_take (i := 2) (v := .pointer (some ⟨b, 0, none⟩)) rfl (by kernel_rfl) (by kernel_rfl) (by kernel_rfl) (fun _ _ _ h => h) (Or.inl ⟨by rfl, by intro w; go_simp⟩) ?_
            refine wpAny_take (i := 3) (v := .pointer (some ⟨b, 0, none⟩)) rfl (by kernel_rfl) (by kernel_rfl) (by kernel_rfl) (fun _ _ _ h => h) (Or.inl ⟨by rfl, by intro w; go_simp⟩) ?_
            refine wpAny_take (i := 4) (v := .int .i64 (d : Int)) rfl (by kernel_rfl) (by kernel_rfl) (by kernel_rfl) (fun _ _ _ h => h) (Or.inl ⟨by rfl, by intro w; go_simp⟩) ?_
            refine wpAny_ready (rs := [1, 5]) (by kernel_rfl) (by simp) ?_
            refine AllReady.cons rfl (fun Kk hKk => ?_) ?_
            · skip
              go_simp
              refine hKk _ _ ?_
              clear hKk Kk
              refine wpAny_ready (rs := [5]) (by kernel_rfl) (by simp) ?_
              refine AllReady.cons rfl (fun Kk hKk => ?_) ?_
              · skip
                go_simp
                refine HATOM.out.mono ?_
                rintro e w5 ⟨c9, K1, C1, rfl, hF, hm⟩
                have HX4 : Hid (w5.cell? ⟨w.heap.size + 1, 4, none⟩ = some (.slice ao l.length cap)) := (hm.cell_ne (p := ⟨w.heap.size + 1, 4, none⟩) HS2.out.cp.lt (by simp; omega)).trans x4
                refine hKk _ _ ?_
                clear hKk Kk
                refine wpAny_ready (rs := [6]) (by kernel_rfl) (by simp) ?_
                refine AllReady.cons rfl (fun Kk hKk => ?_) ?_
                · skip
                  go_simp
                  refine (times_any w5 b wc.heap.size s k a c9 K1 C1 (hm.rd ⟨g0, g1, gf⟩) hs hk (by omega) hm.size hF).mono ?_
                  rw [HTI.out]
                  rintro e w6 ⟨rfl, jj, hm2⟩
                  exact ⟨rfl, by rw [HI.out]; exact ⟨rfl, jj, ((HS2.out.mv.below (Below.refl _ _).drew).trans hm).trans hm2⟩⟩
                · exact AllReady.nil
              · exact AllReady.nil
            · refine AllReady.cons rfl (fun Kk hKk => ?_) ?_
              · skip
                go_simp
                refine HATOM.out.mono ?_
                rintro e w5 ⟨c9, K1, C1, rfl, hF, hm⟩
                have HX4 : Hid (w5.cell? ⟨w.heap.size + 1, 4, none⟩ = some (.slice ao l.length cap)) := (hm.cell_ne (p := ⟨w.heap.size + 1, 4, none⟩) HS2.out.cp.lt (by simp; omega)).trans x4
                refine hKk _ _ ?_
                clear hKk Kk
                refine wpAny_ready (rs := [1, 6]) (by kernel_rfl) (by simp) ?_
                refine AllReady.cons rfl (fun Kk hKk => ?_) ?_
                · skip
                  have hx4 := HX4.out
                  go_simp
                  refine hKk _ _ ?_
                  clear hKk Kk
                  refine wpAny_ready (rs := [6]) (by kernel_rfl) (by simp) ?_
                  refine AllReady.cons rfl (fun Kk hKk => ?_) ?_
                  · skip
                    go_simp
                    refine (times_any w5 b wc.heap.size s k a c9 K1 C1 (hm.rd ⟨g0, g1, gf⟩) hs hk (by omega) hm.size hF).mono ?_
                    rw [HTI.out]
                    rintro e w6 ⟨rfl, jj, hm2⟩
                    exact ⟨rfl, by rw [HI.out]; exact ⟨rfl, jj, ((HS2.out.mv.below (Below.refl _ _).drew).trans hm).trans hm2⟩⟩
                  · exact AllReady.nil
                · refine AllReady.cons rfl (fun Kk hKk => ?_) ?_
                  · skip
                    go_simp
                    refine (times_any w5 b wc.heap.size s k a c9 K1 C1 (hm.rd ⟨g0, g1, gf⟩) hs hk (by omega) hm.size hF).mono ?_
                    rw [HTI.out]
                    rintro e w6 ⟨rfl, jj, hm2⟩
                    exact ⟨rfl, by rw [HI.out]; exact ⟨rfl, jj, ((HS2.out.mv.below (Below.refl _ _).drew).trans hm).trans hm2⟩⟩
                  · exact AllReady.nil
              · exact AllReady.nil
          · have hI0 : itemP s (choiceP s f (d + 1)) d j = .ok (t, k2) := by unfold itemP; rw [ha]; exact ht
            have htb := timesP_bd hk hab.2.2 ht
            have HI := Lib.hid (HR1.out (.ok (t, k2)) hI0)
            have HTI := Lib.hid ht
            have hln := HS2.out.len
            have hc3 : l.length + 1 ≤ maxLen := by unfold maxLen; omega
            have hc4 : (l.length + 1) * 80 ≤ 140737488355328 := by omega
            obtain ⟨i0, hi0, hz0, hz1, hz2⟩ := info_parts infoPart
            clear ha ht hI0
            go_wp2_with fail
            refine wp_region_any (by kernel_rfl) ?_
            change wpAny _ _ _ _ _ _ _ (World.drew _)
            refine wpAny_take (i := 0) (v := .pointer (some ⟨w.heap.size + 1, 4, none⟩)) rfl (by kernel_rfl) (by kernel_rfl) (by kernel_rfl) (fun _ _ _ h => h) (Or.inl ⟨by rfl, by intro w; go_simp⟩) ?_
            refine wpAny_take (i := 2) (v := .pointer (some ⟨b, 0, none⟩)) rfl (by kernel_rfl) (by kernel_rfl) (by kernel_rfl) (fun _ _ _ h => h) (Or.inl ⟨by rfl, by intro w; go_simp⟩) ?_
            refine wpAny_take (i := 3) (v := .pointer (some ⟨b, 0, none⟩)) rfl (by kernel_rfl) (by kernel_rfl) (by kernel_rfl) (fun _ _ _ h => h) (Or.inl ⟨by rfl, by intro w; go_simp⟩) ?_
            refine wpAny_take (i := 4) (v := .int .i64 (d : Int)) rfl (by kernel_rfl) (by kernel_rfl) (by kernel_rfl) (fun _ _ _ h => h) (Or.inl ⟨by rfl, by intro w; go_simp⟩) ?_
            refine wpAny_ready (rs := [1, 5]) (by kernel_rfl) (by simp) ?_
            refine AllReady.cons rfl (fun Kk hKk => ?_) ?_
            · skip
              go_simp
              refine hKk _ _ ?_
              clear hKk Kk
              refine wpAny_ready (rs := [5]) (by kernel_rfl) (by simp) ?_
              refine AllReady.cons rfl (fun Kk hKk => ?_) ?_
              · skip
                go_simp
                refine HATOM.out.mono ?_
                rintro e w5 ⟨c9, K1, C1, rfl, hF, hm⟩
                have y4 : w5.cell? ⟨w.heap.size + 1, 4, none⟩ = some (.slice ao l.length cap) := (hm.cell_ne (p := ⟨w.heap.size + 1, 4, none⟩) HS2.out.cp.lt (by simp; omega)).trans x4
                refine hKk _ _ ?_
                clear hKk Kk
                refine wpAny_ready (rs := [6]) (by kernel_rfl) (by simp) ?_
                refine AllReady.cons rfl (fun Kk hKk => ?_) ?_
                · skip
                  go_simp
                  refine (times_any w5 b wc.heap.size s k a c9 K1 C1 (hm.rd ⟨g0, g1, gf⟩) hs hk (by omega) hm.size hF).mono ?_
                  rw [HTI.out]
                  rintro e w6 ⟨c6, K2, C2, rfl, hF2, hm2⟩
                  have HS6 := Lib.hid (((HS2.out.below hbl (Nat.lt_succ_self _) (Below.refl _ _).drew).moved hbl (Nat.lt_succ_self _) hm (by omega)).moved hbl (Nat.lt_succ_self _) hm2 htb.1)
                  have y6 : w6.cell? ⟨w.heap.size + 1, 4, none⟩ = some (.slice ao l.length cap) := HVV.out ▸ HS6.out.cp.c4
                  have hown6 : w6.ownsRow (w.heap.size + 1 + 1) 92 9 (.slice ao l.length cap) l.length (flat cs) := HVV.out ▸ HS6.out.own
                  have hone6 := list_one hF2.pv.one
                  have hsz6 : w.heap.size + 1 < w6.heap.size := HS6.out.cp.lt
                  refine hKk _ _ ?_
                  clear hKk Kk
                  refine wpAny_ready (rs := [7]) (by kernel_rfl) (by simp) ?_
                  refine AllReady.cons rfl (fun Kk hKk => ?_) ?_
                  · skip
                    go_simp
                    refine hKk _ _ ?_
                    clear hKk Kk
                    refine wpAny_ready (rs := [8]) (by kernel_rfl) (by simp) ?_
                    refine AllReady.cons rfl (fun Kk hKk => ?_) ?_
                    · skip
                      refine step_append_lies _ (by rfl) _ _ _ (by rfl) (w.heap.size + 1 + 1) 92 i0 _ 9 80 Tryz.underlying90 hi0 hz0 hz1 hz2 rfl (by omega) _ l.length (flat cs) (by rfl) (hown6.alloc _) ⟨w6.heap.size, 0, none⟩ 1 1 c6.list (by rfl) (by rfl) (World.news_of_block (cs := c6.list.toArray) (t := 92) (fr := (0, 0)) (heap_alloc_new w6 _)) hone6 (by omega) hc3 hc4 (by simp; omega) (w6.heap.size + 1) (by simp) ?_
                      intro gg cap' w7 hown7 hgrow hat hlt7
                      have hblk := HS6.out.block HVV.out hgrow
                      have y7 : w7.cell? ⟨w.heap.size + 1, 4, none⟩ = some (.slice ao l.length cap) := (World.cell?_of_block (w := w6) (w' := w7) (a := ⟨w.heap.size + 1, 4, none⟩) hblk).trans y6
                      have f7 : w7.frozen? ⟨w.heap.size + 1, 4, none⟩ = false := (World.frozen?_of_block (w := w6) (w' := w7) (a := ⟨w.heap.size + 1, 4, none⟩) hblk).trans (HS6.out.fp 4)
                      have HPU := Lib.hid (HS6.out.push (Nat.le_refl _) (Nat.lt_succ_self _) hF2 (fun k hk => (HS2.out.inb k hk).2) (fun g hg => (HS2.out.own.lt g hg).2) HS2.out.cp.lt (by omega) _ hown7 (HVV.out.symm ▸ hgrow) (HVV.out.symm ▸ hat))
                      clear hblk hown7 hgrow hat
                      refine hKk _ _ ?_
                      clear hKk Kk
                      refine wpAny_ready (rs := [9]) (by kernel_rfl) (by simp) ?_
                      refine AllReady.cons rfl (fun Kk hKk => ?_) ?_
                      · skip
                        go_simp
                        refine hKk _ _ ?_
                        clear hKk Kk
                        refine wpAny_ready (rs := [10]) (by kernel_rfl) (by simp) ?_
                        refine AllReady.cons rfl (fun Kk hKk => ?_) ?_
                        · skip
                          go_simp
                          refine hKk _ _ ?_
                          clear hKk Kk
                          refine wpAny_done (by kernel_rfl) ?_ _
                          go_wp2_with fail
                          go_roundg (gk - 1)
                          case measure => omega
                          case rel => exact ⟨k2, _, _, _, _, _, HPU.out, htb.2.1, by omega, HI.out⟩
                        · exact AllReady.nil
                      · exact AllReady.nil
                    · exact AllReady.nil
                  · exact AllReady.nil
                · exact AllReady.nil
              · exact AllReady.nil
            · skip
              refine AllReady.cons rfl (fun Kk hKk => ?_) ?_
              · skip
                go_simp
                refine HATOM.out.mono ?_
                rintro e w5 ⟨c9, K1, C1, rfl, hF, hm⟩
                have y4 : w5.cell? ⟨w.heap.size + 1, 4, none⟩ = some (.slice ao l.length cap) := (hm.cell_ne (p := ⟨w.heap.size + 1, 4, none⟩) HS2.out.cp.lt (by simp; omega)).trans x4
                refine hKk _ _ ?_
                clear hKk Kk
                refine wpAny_ready (rs := [1, 6]) (by kernel_rfl) (by simp) ?_
                refine AllReady.cons rfl (fun Kk hKk => ?_) ?_
                · skip
                  go_simp
                  refine hKk _ _ ?_
                  clear hKk Kk
                  refine wpAny_ready (rs := [6]) (by kernel_rfl) (by simp) ?_
                  refine AllReady.cons rfl (fun Kk hKk => ?_) ?_
                  · skip
                    go_simp
                    refine (times_any w5 b wc.heap.size s k a c9 K1 C1 (hm.rd ⟨g0, g1, gf⟩) hs hk (by omega) hm.size hF).mono ?_
                    rw [HTI.out]
                    rintro e w6 ⟨c6, K2, C2, rfl, hF2, hm2⟩
                    have HS6 := Lib.hid (((HS2.out.below hbl (Nat.lt_succ_self _) (Below.refl _ _).drew).moved hbl (Nat.lt_succ_self _) hm (by omega)).moved hbl (Nat.lt_succ_self _) hm2 htb.1)
                    have y6 : w6.cell? ⟨w.heap.size + 1, 4, none⟩ = some (.slice ao l.length cap) := HVV.out ▸ HS6.out.cp.c4
                    have hown6 : w6.ownsRow (w.heap.size + 1 + 1) 92 9 (.slice ao l.length cap) l.length (flat cs) := HVV.out ▸ HS6.out.own
                    have hone6 := list_one hF2.pv.one
                    have hsz6 : w.heap.size + 1 < w6.heap.size := HS6.out.cp.lt
                    refine hKk _ _ ?_
                    clear hKk Kk
                    refine wpAny_ready (rs := [7]) (by kernel_rfl) (by simp) ?_
                    refine AllReady.cons rfl (fun Kk hKk => ?_) ?_
                    · skip
                      go_simp
                      refine hKk _ _ ?_
                      clear hKk Kk
                      refine wpAny_ready (rs := [8]) (by kernel_rfl) (by simp) ?_
                      refine AllReady.cons rfl (fun Kk hKk => ?_) ?_
                      · skip
                        refine step_append_lies _ (by rfl) _ _ _ (by rfl) (w.heap.size + 1 + 1) 92 i0 _ 9 80 Tryz.underlying90 hi0 hz0 hz1 hz2 rfl (by omega) _ l.length (flat cs) (by rfl) (hown6.alloc _) ⟨w6.heap.size, 0, none⟩ 1 1 c6.list (by rfl) (by rfl) (World.news_of_block (cs := c6.list.toArray) (t := 92) (fr := (0, 0)) (heap_alloc_new w6 _)) hone6 (by omega) hc3 hc4 (by simp; omega) (w6.heap.size + 1) (by simp) ?_
                        intro gg cap' w7 hown7 hgrow hat hlt7
                        have hblk := HS6.out.block HVV.out hgrow
                        have y7 : w7.cell? ⟨w.heap.size + 1, 4, none⟩ = some (.slice ao l.length cap) := (World.cell?_of_block (w := w6) (w' := w7) (a := ⟨w.heap.size + 1, 4, none⟩) hblk).trans y6
                        have f7 : w7.frozen? ⟨w.heap.size + 1, 4, none⟩ = false := (World.frozen?_of_block (w := w6) (w' := w7) (a := ⟨w.heap.size + 1, 4, none⟩) hblk).trans (HS6.out.fp 4)
                        have HPU := Lib.hid (HS6.out.push (Nat.le_refl _) (Nat.lt_succ_self _) hF2 (fun k hk => (HS2.out.inb k hk).2) (fun g hg => (HS2.out.own.lt g hg).2) HS2.out.cp.lt (by omega) _ hown7 (HVV.out.symm ▸ hgrow) (HVV.out.symm ▸ hat))
                        clear hblk hown7 hgrow hat
                        refine hKk _ _ ?_
                        clear hKk Kk
                        refine wpAny_ready (rs := [9]) (by kernel_rfl) (by simp) ?_
                        refine AllReady.cons rfl (fun Kk hKk => ?_) ?_
                        · skip
                          go_simp
                          refine hKk _ _ ?_
                          clear hKk Kk
                          refine wpAny_ready (rs := [10]) (by kernel_rfl) (by simp) ?_
                          refine AllReady.cons rfl (fun Kk hKk => ?_) ?_
                          · skip
                            go_simp
                            refine hKk _ _ ?_
                            clear hKk Kk
                            refine wpAny_done (by kernel_rfl) ?_ _
                            go_wp2_with fail
                            go_roundg (gk - 1)
                            case measure => omega
                            case rel => exact ⟨k2, _, _, _, _, _, HPU.out, htb.2.1, by omega, HI.out⟩
                          · exact AllReady.nil
                        · exact AllReady.nil
                      · exact AllReady.nil
                    · exact AllReady.nil
                  · exact AllReady.nil
                · skip
                  refine AllReady.cons rfl (fun Kk hKk => ?_) ?_
                  · skip
                    go_simp
                    refine (times_any w5 b wc.heap.size s k a c9 K1 C1 (hm.rd ⟨g0, g1, gf⟩) hs hk (by omega) hm.size hF).mono ?_
                    rw [HTI.out]
                    rintro e w6 ⟨c6, K2, C2, rfl, hF2, hm2⟩
                    have HS6 := Lib.hid (((HS2.out.below hbl (Nat.lt_succ_self _) (Below.refl _ _).drew).moved hbl (Nat.lt_succ_self _) hm (by omega)).moved hbl (Nat.lt_succ_self _) hm2 htb.1)
                    have y6 : w6.cell? ⟨w.heap.size + 1, 4, none⟩ = some (.slice ao l.length cap) := HVV.out ▸ HS6.out.cp.c4
                    have hown6 : w6.ownsRow (w.heap.size + 1 + 1) 92 9 (.slice ao l.length cap) l.length (flat cs) := HVV.out ▸ HS6.out.own
                    have hone6 := list_one hF2.pv.one
                    have hsz6 : w.heap.size + 1 < w6.heap.size := HS6.out.cp.lt
                    refine hKk _ _ ?_
                    clear hKk Kk
                    refine wpAny_ready (rs := [1, 7]) (by kernel_rfl) (by simp) ?_
                    refine AllReady.cons rfl (fun Kk hKk => ?_) ?_
                    · skip
                      go_simp
                      refine hKk _ _ ?_
                      clear hKk Kk
                      refine wpAny_ready (rs := [7]) (by kernel_rfl) (by simp) ?_
                      refine AllReady.cons rfl (fun Kk hKk => ?_) ?_
                      · skip
                        go_simp
                        refine hKk _ _ ?_
                        clear hKk Kk
                        refine wpAny_ready (rs := [8]) (by kernel_rfl) (by simp) ?_
                        refine AllReady.cons rfl (fun Kk hKk => ?_) ?_
                        · skip
                          refine step_append_lies _ (by rfl) _ _ _ (by rfl) (w.heap.size + 1 + 1) 92 i0 _ 9 80 Tryz.underlying90 hi0 hz0 hz1 hz2 rfl (by omega) _ l.length (flat cs) (by rfl) (hown6.alloc _) ⟨w6.heap.size, 0, none⟩ 1 1 c6.list (by rfl) (by rfl) (World.news_of_block (cs := c6.list.toArray) (t := 92) (fr := (0, 0)) (heap_alloc_new w6 _)) hone6 (by omega) hc3 hc4 (by simp; omega) (w6.heap.size + 1) (by simp) ?_
                          intro gg cap' w7 hown7 hgrow hat hlt7
                          have hblk := HS6.out.block HVV.out hgrow
                          have y7 : w7.cell? ⟨w.heap.size + 1, 4, none⟩ = some (.slice ao l.length cap) := (World.cell?_of_block (w := w6) (w' := w7) (a := ⟨w.heap.size + 1, 4, none⟩) hblk).trans y6
                          have f7 : w7.frozen? ⟨w.heap.size + 1, 4, none⟩ = false := (World.frozen?_of_block (w := w6) (w' := w7) (a := ⟨w.heap.size + 1, 4, none⟩) hblk).trans (HS6.out.fp 4)
                          have HPU := Lib.hid (HS6.out.push (Nat.le_refl _) (Nat.lt_succ_self _) hF2 (fun k hk => (HS2.out.inb k hk).2) (fun g hg => (HS2.out.own.lt g hg).2) HS2.out.cp.lt (by omega) _ hown7 (HVV.out.symm ▸ hgrow) (HVV.out.symm ▸ hat))
                          clear hblk hown7 hgrow hat
                          refine hKk _ _ ?_
                          clear hKk Kk
                          refine wpAny_ready (rs := [9]) (by kernel_rfl) (by simp) ?_
                          refine AllReady.cons rfl (fun Kk hKk => ?_) ?_
                          · skip
                            go_simp
                            refine hKk _ _ ?_
                            clear hKk Kk
                            refine wpAny_ready (rs := [10]) (by kernel_rfl) (by simp) ?_
                            refine AllReady.cons rfl (fun Kk hKk => ?_) ?_
                            · skip
                              go_simp
                              refine hKk _ _ ?_
                              clear hKk Kk
                              refine wpAny_done (by kernel_rfl) ?_ _
                              go_wp2_with fail
                              go_roundg (gk - 1)
                              case measure => omega
                              case rel => exact ⟨k2, _, _, _, _, _, HPU.out, htb.2.1, by omega, HI.out⟩
                            · exact AllReady.nil
                          · exact AllReady.nil
                        · exact AllReady.nil
                      · exact AllReady.nil
                    · skip
                      refine AllReady.cons rfl (fun Kk hKk => ?_) ?_
                      · skip
                        go_simp
                        refine hKk _ _ ?_
                        clear hKk Kk
                        refine wpAny_ready (rs := [1]) (by kernel_rfl) (by simp) ?_
                        refine AllReady.cons rfl (fun Kk hKk => ?_) ?_
                        · skip
                          go_simp
                          refine hKk _ _ ?_
                          clear hKk Kk
                          refine wpAny_ready (rs := [8]) (by kernel_rfl) (by simp) ?_
                          refine AllReady.cons rfl (fun Kk hKk => ?_) ?_
                          · skip
                            refine step_append_lies _ (by rfl) _ _ _ (by rfl) (w.heap.size + 1 + 1) 92 i0 _ 9 80 Tryz.underlying90 hi0 hz0 hz1 hz2 rfl (by omega) _ l.length (flat cs) (by rfl) (hown6.alloc _) ⟨w6.heap.size, 0, none⟩ 1 1 c6.list (by rfl) (by rfl) (World.news_of_block (cs := c6.list.toArray) (t := 92) (fr := (0, 0)) (heap_alloc_new w6 _)) hone6 (by omega) hc3 hc4 (by simp; omega) (w6.heap.size + 1) (by simp) ?_
                            intro gg cap' w7 hown7 hgrow hat hlt7
                            have hblk := HS6.out.block HVV.out hgrow
                            have y7 : w7.cell? ⟨w.heap.size + 1, 4, none⟩ = some (.slice ao l.length cap) := (World.cell?_of_block (w := w6) (w' := w7) (a := ⟨w.heap.size + 1, 4, none⟩) hblk).trans y6
                            have f7 : w7.frozen? ⟨w.heap.size + 1, 4, none⟩ = false := (World.frozen?_of_block (w := w6) (w' := w7) (a := ⟨w.heap.size + 1, 4, none⟩) hblk).trans (HS6.out.fp 4)
                            have HPU := Lib.hid (HS6.out.push (Nat.le_refl _) (Nat.lt_succ_self _) hF2 (fun k hk => (HS2.out.inb k hk).2) (fun g hg => (HS2.out.own.lt g hg).2) HS2.out.cp.lt (by omega) _ hown7 (HVV.out.symm ▸ hgrow) (HVV.out.symm ▸ hat))
                            clear hblk hown7 hgrow hat
                            refine hKk _ _ ?_
                            clear hKk Kk
                            refine wpAny_ready (rs := [9]) (by kernel_rfl) (by simp) ?_
                            refine AllReady.cons rfl (fun Kk hKk => ?_) ?_
                            · skip
                              go_simp
                              refine hKk _ _ ?_
                              clear hKk Kk
                              refine wpAny_ready (rs := [10]) (by kernel_rfl) (by simp) ?_
                              refine AllReady.cons rfl (fun Kk hKk => ?_) ?_
                              · skip
                                go_simp
                                refine hKk _ _ ?_
                                clear hKk Kk
                                refine wpAny_done (by kernel_rfl) ?_ _
                                go_wp2_with fail
                                go_roundg (gk - 1)
                                case measure => omega
                                case rel => exact ⟨k2, _, _, _, _, _, HPU.out, htb.2.1, by omega, HI.out⟩
                              · exact AllReady.nil
                            · exact AllReady.nil
                          · exact AllReady.nil
                        · exact AllReady.nil
                      · exact AllReady.nil
                  · exact AllReady.nil
              · exact AllReady.nil

end Go.Proofs.YtgcmjidphoklkaaGreatDoor.Rx
